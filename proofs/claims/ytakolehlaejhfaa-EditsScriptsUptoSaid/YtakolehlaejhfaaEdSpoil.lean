/- SpoilTexts, SpoilEdits: what is written over is one's own. -/
import Derived.Test.YtakolehlaejhfaaEdEnd
import Derived.Test.YtakolehlaejhfaaEdAwake
namespace Go.Proofs.Ytakolehlaejhfaa
open Go.RowKit
set_option maxRecDepth 100000
set_option linter.unusedVariables false
set_option linter.unusedSimpArgs false

/-- Texts that may be written over, each no longer than S. -/
def TexSp (w : World) (lo hi : Nat) (A : Option Addr) (n S : Nat) : Prop := 0 < n → ∃ b o, A = some ⟨b, o, none⟩ ∧ lo ≤ b ∧ b < hi ∧ ∀ k, k < n → ∃ s, w.cell? ⟨b, o + k, none⟩ = some (.string s) ∧ s.size ≤ S ∧ w.frozen? ⟨b, o + k, none⟩ = false
/-- Written over from lo on, below hi: texts grow by n letters at most, slices stay. -/
structure Spl (lo hi n : Nat) (w w' : World) : Prop where
  below : Below lo w w'
  high : ∀ b, hi ≤ b → w'.heap[b]? = w.heap[b]?
  str : ∀ g k s, w.cell? ⟨g, k, none⟩ = some (.string s) → ∃ s', w'.cell? ⟨g, k, none⟩ = some (.string s') ∧ s'.size ≤ s.size + n
  int : ∀ g k z, w.cell? ⟨g, k, none⟩ = some (.int .i64 z) → ∃ z', w'.cell? ⟨g, k, none⟩ = some (.int .i64 z')
  slc : ∀ g k A m c, w.cell? ⟨g, k, none⟩ = some (.slice A m c) → w'.cell? ⟨g, k, none⟩ = some (.slice A m c)
  frz : ∀ p, w'.frozen? p = w.frozen? p
theorem Spl.refl (lo hi : Nat) (w : World) : Spl lo hi 0 w w := ⟨Below.refl _ _, fun _ _ => rfl, fun _ _ s h => ⟨s, h, Nat.le_refl _⟩, fun _ _ z h => ⟨z, h⟩, fun _ _ _ _ _ h => h, fun _ => rfl⟩
theorem Spl.trans {lo hi n m : Nat} {a b c : World} (h : Spl lo hi n a b) (k : Spl lo hi m b c) : Spl lo hi (n + m) a c :=
  ⟨h.below.trans k.below, fun x hx => (k.high x hx).trans (h.high x hx), fun g q s e => by
    obtain ⟨s1, e1, l1⟩ := h.str g q s e
    obtain ⟨s2, e2, l2⟩ := k.str g q s1 e1
    exact ⟨s2, e2, by omega⟩, fun g q z e => by
    obtain ⟨z1, e1⟩ := h.int g q z e
    exact k.int g q z1 e1, fun g q A m c e => k.slc g q A m c (h.slc g q A m c e), fun p => (k.frz p).trans (h.frz p)⟩
theorem Spl.set_int {lo hi b o : Nat} {w : World} {z y : Int} (hl : lo ≤ b) (hh : b < hi) (hc : w.cell? ⟨b, o, none⟩ = some (.int .i64 z)) : Spl lo hi 0 w (w.setCell ⟨b, o, none⟩ (.int .i64 y)) := by
  have key : ∀ g k v, w.cell? ⟨g, k, none⟩ = some v → (g = b ∧ k = o) ∨ (w.setCell ⟨b, o, none⟩ (.int .i64 y)).cell? ⟨g, k, none⟩ = some v := fun g k v h => by
    by_cases e : g = b ∧ k = o
    · exact .inl e
    · refine .inr ?_
      rw [World.cell?_setCell_other _ _ _ _ (by intro h; have e1 := congrArg Addr.block h; have e2 := congrArg Addr.off h; exact e ⟨e1.symm, e2.symm⟩)]
      exact h
  refine ⟨(Below.refl lo w).setCell (p := ⟨b, o, none⟩) hl _, fun x hx => Below.heap_setCell w ⟨b, o, none⟩ _ x (by show x ≠ b; omega), fun g k s h => ?_, fun g k x h => ?_, fun g k A m c h => ?_, fun p => by simp⟩
  · rcases key g k _ h with ⟨rfl, rfl⟩ | h'
    · rw [hc] at h; cases h
    · exact ⟨s, h', Nat.le_refl _⟩
  · rcases key g k _ h with ⟨rfl, rfl⟩ | h'
    · exact ⟨y, World.cell?_setCell_same _ _ _ hc⟩
    · exact ⟨x, h'⟩
  · rcases key g k _ h with ⟨rfl, rfl⟩ | h'
    · rw [hc] at h; cases h
    · exact h'
theorem TexSp.spl {lo hi n m S : Nat} {w w' : World} {A : Option Addr} (h : TexSp w lo hi A m S) (k : Spl lo hi n w w') : TexSp w' lo hi A m (S + n) := fun h0 => by
  obtain ⟨b, o, e, h1, h2, h3⟩ := h h0
  refine ⟨b, o, e, h1, h2, fun q hq => ?_⟩
  obtain ⟨s, e1, e2, e3⟩ := h3 q hq
  obtain ⟨s', f1, f2⟩ := k.str b (o + q) s e1
  exact ⟨s', f1, by omega, by rw [k.frz]; exact e3⟩

set_option maxHeartbeats 4000000 in
theorem spoilTexts_any (A : Option Addr) (n c lo hi S : Nat) (w : World) (hT : TexSp w lo hi A n S) (hn : n ≤ 2000000) (hS : S ≤ 4000000) :
    Calls Try.prog 31 #[.slice A n c] w fun e w' => e = .returned (.tuple #[]) ∧ Spl lo hi 1 w w' := by
  have HT := Lib.hid hT
  clear hT
  go_enter Try.func31, Try.ntmps31
  go_wp2_with fail
  by_cases h0 : 0 < n
  case neg =>
    obtain rfl : n = 0 := by omega
    go_loop [2] (fun i => i = .int .i64 0) (fun i => 0)
    case atStart => rfl
    case round =>
      subst hrel
      go_wp2_with fail
      go_end0
      exact ⟨rfl, by have := (Spl.refl lo hi w).trans (Spl.refl lo hi w); exact ⟨this.below, this.high, fun g k s h => ⟨s, h, by omega⟩, this.int, this.slc, this.frz⟩⟩
  obtain ⟨b, o, rfl, h1, h2, h3⟩ := HT.out h0
  have H3 := Lib.hid h3
  clear h3 HT
  go_loopw [2] (fun i wr => ∃ k : Nat, k ≤ n ∧ i = .int .i64 (k : Int) ∧ Below lo w wr ∧ (∀ x, hi ≤ x → wr.heap[x]? = w.heap[x]?) ∧ (∀ p, wr.frozen? p = w.frozen? p) ∧ (∀ g q, ¬ (g = b ∧ o ≤ q ∧ q < o + k) → wr.cell? ⟨g, q, none⟩ = w.cell? ⟨g, q, none⟩) ∧
    (∀ q s, q < k → w.cell? ⟨b, o + q, none⟩ = some (.string s) → ∃ s', wr.cell? ⟨b, o + q, none⟩ = some (.string s') ∧ s'.size ≤ s.size + 1)) (fun i _ => n - (intOf i).toNat)
  case atStart => exact ⟨0, Nat.zero_le _, rfl, Below.refl _ _, fun _ _ => rfl, fun _ => rfl, fun _ _ _ => rfl, fun q s hq => by omega⟩
  case round =>
    obtain ⟨k, hk, rfl, hb, hh, hf, hc, hs⟩ := hrel
    by_cases hlt : k < n
    · obtain ⟨s, e1, e2, e3⟩ := H3.out k hlt
      have c0 := (hc b (o + k) (by omega)).trans e1
      have f0 := (hf ⟨b, o + k, none⟩).trans e3
      have HC := Lib.hid hc
      have HF := Lib.hid hf
      have HH := Lib.hid hh
      have HB := Lib.hid hb
      have HS := Lib.hid hs
      have E1 := Lib.hid e1
      have hki : (k : Int) < (n : Int) := by omega
      have hsz : s.size ≤ 4000000 := by omega
      clear hc hf hh hb hs e1 e3
      go_wp2_with fail
      go_roundw
      case rel =>
        refine ⟨k + 1, by omega, by go_num, HB.out.setCell (p := ⟨b, o + k, none⟩) h1 _, fun x hx => ?_, fun p => by simp [HF.out p], fun g q hq => ?_, fun q t hq ht => ?_⟩
        · rw [Below.heap_setCell wr ⟨b, o + k, none⟩ _ x (by show x ≠ b; omega)]
          exact HH.out x hx
        · rw [World.cell?_setCell_other _ _ _ _ (by intro h; have g1 := congrArg Addr.block h; have g2 := congrArg Addr.off h; exact hq ⟨g1.symm, by simp at g2; omega, by simp at g2; omega⟩)]
          exact HC.out g q (fun h => hq ⟨h.1, h.2.1, by omega⟩)
        · by_cases e : q = k
          · subst e
            rw [E1.out] at ht
            cases ht
            refine ⟨_, World.cell?_setCell_same _ _ _ c0, ?_⟩
            rw [ByteArray.size_append]
            have : (⟨#[126]⟩ : ByteArray).size = 1 := rfl
            omega
          · rw [World.cell?_setCell_other _ _ _ _ (by intro h; have g2 := congrArg Addr.off h; simp at g2; omega)]
            exact HS.out q t (by omega) ht
      case measure => simp [intOf]; omega
    · have hke : k = n := by omega
      subst hke
      have hki : (k : Int) ≤ (k : Int) := Int.le_refl _
      have fin : Spl lo hi 1 w wr := by
        refine ⟨hb, hh, fun g q s e => ?_, fun g q z e => ?_, fun g q A m c e => ?_, hf⟩
        · by_cases hq : g = b ∧ o ≤ q ∧ q < o + k
          · obtain ⟨rfl, hq1, hq2⟩ := hq
            obtain ⟨m, rfl⟩ : ∃ m, q = o + m := ⟨q - o, by omega⟩
            exact hs m s (by omega) e
          · exact ⟨s, (hc g q hq).trans e, by omega⟩
        · by_cases hq : g = b ∧ o ≤ q ∧ q < o + k
          · obtain ⟨rfl, hq1, hq2⟩ := hq
            obtain ⟨m, rfl⟩ : ∃ m, q = o + m := ⟨q - o, by omega⟩
            obtain ⟨s, e1, _⟩ := H3.out m (by omega)
            rw [e1] at e; cases e
          · exact ⟨z, (hc g q hq).trans e⟩
        · by_cases hq : g = b ∧ o ≤ q ∧ q < o + k
          · obtain ⟨rfl, hq1, hq2⟩ := hq
            obtain ⟨m, rfl⟩ : ∃ m, q = o + m := ⟨q - o, by omega⟩
            obtain ⟨s, e1, _⟩ := H3.out m (by omega)
            rw [e1] at e; cases e
          · exact (hc g q hq).trans e
      have FIN := Lib.hid fin
      clear fin hb hh hf hc hs
      go_wp2_with fail
      go_end0
      exact ⟨rfl, FIN.out⟩

/-- Edits that may be written over. -/
def EdsSp (w : World) (lo hi : Nat) (A : Option Addr) (n S : Nat) : Prop := 0 < n → ∃ b o, A = some ⟨b, o, none⟩ ∧ lo ≤ b ∧ b < hi ∧ ∀ k, k < n → ∃ z PA pn pc, w.cell? ⟨b, o + k * 3, none⟩ = some (.int .i64 z) ∧ w.frozen? ⟨b, o + k * 3, none⟩ = false ∧
  w.cell? ⟨b, o + k * 3 + 2, none⟩ = some (.slice PA pn pc) ∧ pn ≤ 2000000 ∧ TexSp w lo hi PA pn S
set_option maxHeartbeats 4000000 in
theorem spoilEdits_any (A : Option Addr) (n c lo hi S : Nat) (w : World) (hE : EdsSp w lo hi A n S) (hn : n ≤ 1000000) (hS : S ≤ 2000000) :
    Calls Try.prog 13 #[.slice A n c] w fun e w' => e = .returned (.tuple #[]) ∧ Spl lo hi n w w' := by
  have HE := Lib.hid hE
  clear hE
  go_enter Try.func13, Try.ntmps13
  go_wp2_with fail
  go_loopw [2] (fun i wr => ∃ k : Nat, k ≤ n ∧ i = .int .i64 (k : Int) ∧ Spl lo hi k w wr) (fun i _ => n - (intOf i).toNat)
  case atStart => exact ⟨0, Nat.zero_le _, rfl, Spl.refl _ _ _⟩
  case round =>
    obtain ⟨k, hk, rfl, hsp⟩ := hrel
    have HSP := Lib.hid hsp
    clear hsp
    by_cases hlt : k < n
    · obtain ⟨b, o, rfl, h1, h2, h3⟩ := HE.out (by omega)
      obtain ⟨z0, PA, pn, pc, e1, e2, e3, e4, e5⟩ := h3 k hlt
      obtain ⟨z, c0⟩ := HSP.out.int _ _ _ e1
      have c2 := HSP.out.slc _ _ _ _ _ e3
      have f0 := (HSP.out.frz ⟨b, o + k * 3, none⟩).trans e2
      have T5 := Lib.hid (e5.spl HSP.out)
      have hki : (k : Int) < (n : Int) := by omega
      have S0 := Lib.hid (fun y : Int => Spl.set_int (w := wr) (lo := lo) (hi := hi) (y := y) h1 h2 c0)
      clear h3 e1 e2 e3 e5
      have c3 := fun v => (World.cell?_setCell_other wr ⟨b, o + k * 3, none⟩ ⟨b, o + k * 3 + 2, none⟩ v (by intro h; have g2 := congrArg Addr.off h; simp at g2)).trans c2
      go_wp2_with fail
      refine (spoilTexts_any PA pn pc lo hi (S + k) _ (T5.out.spl (S0.out _)) e4 (by omega)).mono ?_
      rintro e w2 ⟨rfl, hs2⟩
      have HS2 := Lib.hid ((HSP.out.trans (S0.out _)).trans hs2)
      clear hs2 c0 c2 c3 f0
      go_wp2_with fail
      go_roundw
      case rel => exact ⟨k + 1, by omega, by go_num, HS2.out⟩
      case measure => simp [intOf]; omega
    · have hke : k = n := by omega
      subst hke
      have hki : (k : Int) ≤ (k : Int) := Int.le_refl _
      go_wp2_with fail
      go_end0
      exact ⟨rfl, HSP.out⟩
end Go.Proofs.Ytakolehlaejhfaa
