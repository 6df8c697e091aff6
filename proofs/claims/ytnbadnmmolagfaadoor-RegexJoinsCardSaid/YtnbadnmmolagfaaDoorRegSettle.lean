/- Package regex: settle. -/
import Derived.Test.YtnbadnmmolagfaaDoorRegPat
namespace Go.Proofs.YtnbadnmmolagfaaDoor
open Go.RowKit
set_option maxRecDepth 100000
set_option linter.unusedVariables false
set_option linter.unusedSimpArgs false

/-- A row of what was asked, as it is read. -/
def AskV (n : Nat) (b : Nat) (w : World) (v : Value) (l : List (Nat × Ln)) : Prop :=
  (v = .slice none 0 0 ∧ l = []) ∨ ∃ g off cap, v = .slice (some ⟨g, off, none⟩) l.length cap ∧ l.length ≤ cap ∧ g ≠ b ∧
    ∀ i (h : i < l.length), w.cell? ⟨g, off + 2 * i, none⟩ = some (.int .i64 ((n : Int) - ((l[i]).1 : Int))) ∧ w.cell? ⟨g, off + 2 * i + 1, none⟩ = some (.string (strOf (l[i]).2))
theorem AskV.lenV {n b : Nat} {w : World} {v : Value} {l : List (Nat × Ln)} (h : AskV n b w v l) : ∃ a cap, v = .slice a l.length cap ∧ l.length ≤ cap := by
  rcases h with ⟨h1, h2⟩ | ⟨g, off, cap, h1, h2, _⟩
  · subst h2; exact ⟨none, 0, h1, Nat.le_refl _⟩
  · exact ⟨_, cap, h1, h2⟩
theorem AskV.grown {n b : Nat} {w w' : World} {v : Value} {l : List (Nat × Ln)} (h : AskV n b w v l) (hg : w.grownBy w' (some b)) : AskV n b w' v l := by
  rcases h with h | ⟨g, off, cap, h1, h2, h3, h4⟩
  · exact .inl h
  · refine .inr ⟨g, off, cap, h1, h2, h3, fun i hi => ⟨hg.cell (h4 i hi).1 (by simpa using h3), hg.cell (h4 i hi).2 (by simpa using h3)⟩⟩
theorem askCells_at (n : Nat) : ∀ (l : List (Nat × Ln)) (i : Nat) (h : i < l.length), (askCells n l)[2 * i]? = some (.int .i64 ((n : Int) - ((l[i]).1 : Int))) ∧ (askCells n l)[2 * i + 1]? = some (.string (strOf (l[i]).2))
  | [], i, h => absurd h (Nat.not_lt_zero _)
  | p :: l, 0, _ => ⟨rfl, rfl⟩
  | p :: l, i + 1, h => by
    have ih := askCells_at n l i (by simpa using h)
    have e : askCells n (p :: l) = .int .i64 ((n : Int) - (p.1 : Int)) :: .string (strOf p.2) :: askCells n l := rfl
    rw [e, show 2 * (i + 1) = 2 * i + 2 from by omega]
    simpa using ih
theorem AskV.of {n b B : Nat} {w : World} {v : Value} {l : List (Nat × Ln)} (h : w.ownsRow B 52 2 v l.length (askCells n l)) (hne : ∀ k, v.ownBlock = some k → k ≠ b) : AskV n b w v l := by
  rcases h.2 with ⟨h1, h2⟩ | ⟨g, cap, cur, h1, h2, h3, h4, h5, h6, h7⟩
  · exact .inl ⟨h1, List.eq_nil_of_length_eq_zero h2⟩
  · refine .inr ⟨g, 0, cap, h1, h4, hne g (by rw [h1]; rfl), fun i hi => ?_⟩
    have hc : ∀ j x, (askCells n l)[j]? = some x → w.cell? ⟨g, j, none⟩ = some x := by
      intro j x hx
      rw [← h7] at hx
      rw [List.getElem?_take] at hx
      split at hx
      · simp [World.cell?, h3]
        simpa using hx
      · cases hx
    have h8 := askCells_at n l i hi
    exact ⟨by simpa using hc _ _ h8.1, by simpa using hc _ _ h8.2⟩
/-- The first one, and the rest behind it. -/
theorem AskV.head {n b : Nat} {w : World} {v : Value} {p : Nat × Ln} {l : List (Nat × Ln)} (h : AskV n b w v (p :: l)) :
    ∃ g off cap, v = .slice (some ⟨g, off, none⟩) (l.length + 1) cap ∧ l.length + 1 ≤ cap ∧ g ≠ b ∧ w.cell? ⟨g, off, none⟩ = some (.int .i64 ((n : Int) - (p.1 : Int))) ∧ w.cell? ⟨g, off + 1, none⟩ = some (.string (strOf p.2)) := by
  rcases h with ⟨_, h2⟩ | ⟨g, off, cap, h1, h2, h3, h4⟩
  · cases h2
  · have := h4 0 (by simp)
    exact ⟨g, off, cap, h1, h2, h3, by simpa using this.1, by simpa using this.2⟩
theorem AskV.tail {n b : Nat} {w : World} {p : Nat × Ln} {l : List (Nat × Ln)} {g off cap : Nat} (h : AskV n b w (.slice (some ⟨g, off, none⟩) (l.length + 1) cap) (p :: l)) :
    AskV n b w (.slice (some (if cap = 1 then ⟨g, off, none⟩ else ⟨g, off + 2, none⟩)) l.length (cap - 1)) l := by
  rcases h with ⟨_, h2⟩ | ⟨g', off', cap', h1, h2, h3, h4⟩
  · cases h2
  · simp only [Value.slice.injEq, Option.some.injEq, Addr.mk.injEq, List.length_cons] at h1
    obtain ⟨⟨rfl, rfl, _⟩, _, rfl⟩ := h1
    rw [List.length_cons] at h2
    by_cases hc : cap = 1
    · subst hc
      have : l = [] := List.eq_nil_of_length_eq_zero (by omega)
      subst this
      exact .inr ⟨g, off, 0, by simp, Nat.zero_le _, h3, fun i hi => absurd hi (Nat.not_lt_zero _)⟩
    · refine .inr ⟨g, off + 2, cap - 1, by simp [hc], by omega, h3, fun i hi => ?_⟩
      have := h4 (i + 1) (by simpa using hi)
      rw [show off + 2 + 2 * i = off + 2 * (i + 1) from by omega]
      simpa using this
theorem digitsOf_zero (f : Nat) (acc : Ln) : digitsOf f 0 acc = acc := by
  cases f with
  | zero => rfl
  | succ f => unfold digitsOf; rw [if_pos rfl]
theorem digitsOf_step {f n : Nat} {acc : Ln} (h : 0 < n) : digitsOf (f + 1) n acc = digitsOf f (n / 10) (UInt8.ofNat (48 + n % 10) :: acc) := by
  conv => lhs; unfold digitsOf
  rw [if_neg (by omega)]

theorem slice_tail (g off L cap : Nat) (hc : L + 1 ≤ cap) (W : World) :
    (Instr.slice 45 (.slice (some ⟨g, off, none⟩) (L + 1) cap) (some (.int .i64 1)) none none).run Tryd.prog W = .ok (.slice (some (if cap = 1 then ⟨g, off, none⟩ else ⟨g, off + 2, none⟩)) L (cap - 1)) W := by
  rw [run_slice_l _ _ _ _ _ (by kernel_rfl) _ _ (by omega) (by omega)]
  have hel : Tryd.prog.elem 45 = 52 := by kernel_rfl
  rw [hel, Tryd.sizeOf52]
  by_cases h : cap = 1
  · simp [sliced, Result.andThen, h]
  · simp [sliced, Result.andThen, h, Addr.add]
theorem AskV.cell0 {n b : Nat} {w : World} {p : Nat × Ln} {l : List (Nat × Ln)} {g off cap : Nat} (h : AskV n b w (.slice (some ⟨g, off, none⟩) (l.length + 1) cap) (p :: l)) : w.cell? ⟨g, off, none⟩ = some (.int .i64 ((n : Int) - (p.1 : Int))) := by
  obtain ⟨g', off', cap', h1, _, _, h2, _⟩ := h.head
  simp only [Value.slice.injEq, Option.some.injEq, Addr.mk.injEq] at h1
  obtain ⟨⟨rfl, rfl, _⟩, _⟩ := h1
  exact h2
theorem AskV.cell1 {n b : Nat} {w : World} {p : Nat × Ln} {l : List (Nat × Ln)} {g off cap : Nat} (h : AskV n b w (.slice (some ⟨g, off, none⟩) (l.length + 1) cap) (p :: l)) : w.cell? ⟨g, off + 1, none⟩ = some (.string (strOf p.2)) := by
  obtain ⟨g', off', cap', h1, _, _, _, h2⟩ := h.head
  simp only [Value.slice.injEq, Option.some.injEq, Addr.mk.injEq] at h1
  obtain ⟨⟨rfl, rfl, _⟩, _⟩ := h1
  exact h2
theorem AskV.cut (g off L cap : Nat) (hc : L + 1 ≤ cap) : ∃ A : Option Addr, (∀ W, (Instr.slice 45 (.slice (some ⟨g, off, none⟩) (L + 1) cap) (some (.int .i64 1)) none none).run Tryd.prog W = .ok (.slice A L (cap - 1)) W) ∧
    ∀ (n b : Nat) (w : World) (p : Nat × Ln) (l : List (Nat × Ln)), l.length = L → AskV n b w (.slice (some ⟨g, off, none⟩) (L + 1) cap) (p :: l) → AskV n b w (.slice A L (cap - 1)) l :=
  ⟨_, fun W => slice_tail g off L cap hc W, fun n b w p l hl h => by subst hl; exact h.tail⟩
/-- How many a slice in a cell holds. -/
def cellLen (b j : Nat) (w : World) : Nat := match w.cell? ⟨b, j, none⟩ with | some (.slice _ n _) => n | _ => 0
/-- settle at work. -/
structure SetAt (B b M : Nat) (l : Ln) (u : Bool) (k g : Nat) (nm : List (Ln × Nat)) (es : Array MapEntry) (clock : Nat) (w : World) (vn vd : Value) (nu nd : List (Nat × Ln)) (wr : World) : Prop where
  bl : Blk wr b [.string (strOf l), .int .i64 (k : Int), .bool u, .int .i64 (g : Int), .map (some M), vn, vd] 47
  nu : AskV l.length b wr vn nu
  nd : AskV l.length b wr vd nd
  mp : wr.heap[M]? = some (.map es clock)
  nm : HasNames es nm
  be : Below B w wr
  hb : B ≤ b
  ne : b ≠ M
theorem SetAt.drew {B b M : Nat} {l : Ln} {u : Bool} {k g : Nat} {nm : List (Ln × Nat)} {es : Array MapEntry} {clock : Nat} {w : World} {vn vd : Value} {nu nd : List (Nat × Ln)} {wr : World} (h : SetAt B b M l u k g nm es clock w vn vd nu nd wr) (n : Nat) : SetAt B b M l u k g nm es clock w vn vd nu nd (wr.drewN n) :=
  ⟨h.bl, h.nu, h.nd, h.mp, h.nm, below_drewN h.be n, h.hb, h.ne⟩
theorem SetAt.nu' {B b M : Nat} {l : Ln} {u : Bool} {k g : Nat} {nm : List (Ln × Nat)} {es : Array MapEntry} {clock : Nat} {w : World} {vn vd vn' : Value} {nu nd nu' : List (Nat × Ln)} {wr : World} (h : SetAt B b M l u k g nm es clock w vn vd nu nd wr) (h1 : AskV l.length b wr vn' nu') : SetAt B b M l u k g nm es clock w vn' vd nu' nd (wr.setCell ⟨b, 5, none⟩ vn') := by
  have hg : wr.grownBy (wr.setCell ⟨b, 5, none⟩ vn') (some b) := grown_set (grown_refl _ _) 5 _
  exact ⟨h.bl.set 5 _, h1.grown hg, h.nd.grown hg, (hg.block M (Array.getElem?_eq_some_iff.1 h.mp).1 (by simpa using h.ne.symm)).trans h.mp, h.nm, h.be.setCell (p := ⟨b, 5, none⟩) h.hb _, h.hb, h.ne⟩
theorem SetAt.nd' {B b M : Nat} {l : Ln} {u : Bool} {k g : Nat} {nm : List (Ln × Nat)} {es : Array MapEntry} {clock : Nat} {w : World} {vn vd vd' : Value} {nu nd nd' : List (Nat × Ln)} {wr : World} (h : SetAt B b M l u k g nm es clock w vn vd nu nd wr) (h1 : AskV l.length b wr vd' nd') : SetAt B b M l u k g nm es clock w vn vd' nu nd' (wr.setCell ⟨b, 6, none⟩ vd') := by
  have hg : wr.grownBy (wr.setCell ⟨b, 6, none⟩ vd') (some b) := grown_set (grown_refl _ _) 6 _
  exact ⟨h.bl.set 6 _, h.nu.grown hg, h1.grown hg, (hg.block M (Array.getElem?_eq_some_iff.1 h.mp).1 (by simpa using h.ne.symm)).trans h.mp, h.nm, h.be.setCell (p := ⟨b, 6, none⟩) h.hb _, h.hb, h.ne⟩
theorem SetAt.lens {B b M : Nat} {l : Ln} {u : Bool} {k g : Nat} {nm : List (Ln × Nat)} {es : Array MapEntry} {clock : Nat} {w : World} {vn vd : Value} {nu nd : List (Nat × Ln)} {wr : World} (h : SetAt B b M l u k g nm es clock w vn vd nu nd wr) : cellLen b 5 wr + cellLen b 6 wr = nu.length + nd.length := by
  obtain ⟨a1, c1, rfl, _⟩ := h.nu.lenV
  obtain ⟨a2, c2, rfl, _⟩ := h.nd.lenV
  have e1 := h.bl.cell 5
  have e2 := h.bl.cell 6
  unfold cellLen
  rw [e1, e2]
  rfl
theorem thrown_ask (n c : Nat) (p : Nat × Ln) : Ending.panicked [{ v := .iface 40 (.agg #[.int .i64 (c : Int), .int .i64 ((n : Int) - (p.1 : Int))]), recovered := false }] = thrown n (c, p.1) := rfl
theorem ifn {α β : Type} {o : Option α} {a b : β} : (if o.isNone = true then a else b) = if o.isSome = false then a else b := by cases o <;> rfl
theorem setF_num {g : Ln} {nm : List (Ln × Nat)} {f : Nat} {p : Nat × Ln} {nu nd : List (Nat × Ln)} (h : nd = [] ∨ (nd.headD (0, [])).1 < p.1) : settleF g nm (f + 1) (p :: nu) nd = if belowL g p.2 then .error (402, p.1) else settleF g nm f nu nd := by
  conv => lhs; unfold settleF
  cases nd with
  | nil => rfl
  | cons q nd =>
    rcases h with h | h
    · cases h
    · simp only [List.headD_cons] at h
      have hc : q :: nd = [] ∨ p :: nu ≠ [] ∧ ((q :: nd).headD (0, [])).1 < ((p :: nu).headD (0, [])).1 := Or.inr ⟨by simp, h⟩
      rw [if_pos hc]
      rfl
theorem setF_name {g : Ln} {nm : List (Ln × Nat)} {f : Nat} {q : Nat × Ln} {nu nd : List (Nat × Ln)} (h : nu = [] ∨ ¬ q.1 < (nu.headD (0, [])).1) : settleF g nm (f + 1) nu (q :: nd) = if (nm.find? (fun x => x.1 == q.2)).isSome = false then .error (404, q.1) else settleF g nm f nu nd := by
  conv => lhs; unfold settleF
  have hc : ¬ (q :: nd = [] ∨ nu ≠ [] ∧ ((q :: nd).headD (0, [])).1 < (nu.headD (0, [])).1) := by
    rintro (h1 | ⟨h1, h2⟩)
    · cases h1
    · rcases h with h | h
      · exact h1 h
      · exact h h2
  cases nu with
  | nil =>
    simp only [] at hc ⊢
    rw [if_neg hc]
    exact ifn (o := nm.find? (fun x => x.1 == q.2))
  | cons p nu =>
    simp only [] at hc ⊢
    rw [if_neg hc]
    exact ifn (o := nm.find? (fun x => x.1 == q.2))

/-- How settle ends. -/
def EndU (B : Nat) (l : Ln) (w : World) (R : Except Flt Unit) (e : Ending) (w' : World) : Prop :=
  Below B w w' ∧ match R with
  | .ok _ => e = .returned (.tuple #[])
  | .error f => e = thrown l.length f
set_option maxHeartbeats 32000000 in
theorem settle_any (b M : Nat) (l : Ln) (u : Bool) (s : St) (vn vd : Value) (es : Array MapEntry) (clock : Nat) (B : Nat) (w : World) (h : Rs B b M l u s vn vd es clock w) (hl : l.length ≤ 4096) (hs : s.sum ≤ 4096) (hbw : B ≤ w.heap.size) :
    Calls Tryd.prog 19 #[.pointer (some ⟨b, 0, none⟩)] w (EndU B l w (settleF (digitsOf 20 s.g []) s.nm (s.nu.length + s.nd.length) s.nu s.nd)) := by
  have hne := h.ne
  have HS := Lib.hid h
  have HF := Lib.hid hs
  obtain ⟨k, hk, hd, hb⟩ := h.rd
  have c3 := hb.cell 3
  have HSE := Lib.hid (show SetAt B b M l u k s.g s.nm es clock w vn vd s.nu s.nd w from ⟨hb, AskV.of h.nu (fun q hq => (hne.2.1 q hq).1), AskV.of h.nd (fun q hq => (hne.2.2 q hq).1), h.mp, h.nm, Below.refl _ _, h.hb, hne.1⟩)
  have HB := Lib.hid hb
  obtain ⟨SF, hSF⟩ : ∃ S, S = settleF (digitsOf 20 s.g []) s.nm (s.nu.length + s.nd.length) s.nu s.nd := ⟨_, rfl⟩
  rw [← hSF]
  have HSF := Lib.hid hSF
  clear h hs hk hd hb hne hSF
  go_enter Tryd.func19, Tryd.ntmps19
  go_wp2_with fail
  clear c3
  go_loopw [2, 3] (fun gs n wr => ∃ (nn f : Nat) (acc : Ln), gs = .string (strOf acc) ∧ n = .int .i64 (nn : Int) ∧ nn < 10 ^ f ∧ nn ≤ 4096 ∧ acc.length + f = 20 ∧ digitsOf 20 s.g [] = digitsOf f nn acc ∧ Below w.heap.size w wr) (fun _ n _ => (intOf n).toNat)
  case atStart => exact ⟨s.g, 20, [], rfl, rfl, by have := HF.out; unfold St.sum at this; omega, by have := HF.out; unfold St.sum at this; omega, rfl, rfl, Below.refl _ _⟩
  case round =>
    obtain ⟨nn, f, acc, rfl, rfl, hp, hn4, hlen, hdg, hbe⟩ := hrel
    have HR := Lib.hid (And.intro hp (And.intro hlen (And.intro hdg hbe)))
    by_cases hn0 : 0 < nn
    · have hg0 : decide ((nn : Int) > 0) = true := by simp; omega
      obtain ⟨f, rfl⟩ : ∃ f', f = f' + 1 := by
        cases f with
        | zero => simp at hp; omega
        | succ f => exact ⟨f, rfl⟩
      have hcv := run_convert_bytes_back (P := Tryd.prog) (wr.alloc (.cells #[.int .u8 (48 + (nn : Int) % 10)] 5)) 35 9 5 ⟨wr.heap.size, 0, none⟩ 1 [UInt8.ofNat (48 + nn % 10)] Tryd.underlying35 Tryd.underlying5 Tryd.underlying9 (by
        intro j hj
        have hj0 : j = 0 := by simpa using hj
        subst hj0
        have hm : nn % 10 < 10 := Nat.mod_lt _ (by decide)
        simp [Addr.add, go_sem]
        omega)
      have hs1 : (⟨[UInt8.ofNat (48 + nn % 10)].toArray⟩ : ByteArray) = strOf [UInt8.ofNat (48 + nn % 10)] := rfl
      rw [hs1, List.length_singleton] at hcv
      have hz1 : (strOf [UInt8.ofNat (48 + nn % 10)]).size = 1 := by rw [strOf_size]; rfl
      have hz2 := strOf_size acc
      have hz3 : acc.length ≤ 20 := by omega
      have hap := strOf_append [UInt8.ofNat (48 + nn % 10)] acc
      have hm : nn % 10 < 10 := Nat.mod_lt _ (by decide)
      have HDV : Hid (digitsOf 20 s.g [] = digitsOf f (nn / 10) (UInt8.ofNat (48 + nn % 10) :: acc)) := Lib.hid (by rw [hdg, digitsOf_step hn0])
      have HPW : Hid (nn / 10 < 10 ^ f) := Lib.hid (by rw [Nat.pow_succ] at hp; omega)
      generalize UInt8.ofNat (48 + nn % 10) = ch at *
      clear hp hlen hdg hbe hs1
      go_wp2_with fail
      have HR2 := Lib.hid (And.intro HR.out.2.1 HR.out.2.2.2)
      go_roundw
      case rel =>
        refine ⟨nn / 10, f, ch :: acc, ?_, by go_num, HPW.out, by omega, ?_, HDV.out, HR2.out.2.alloc HR2.out.2.size _⟩
        · rfl
        · have := HR2.out.1
          rw [List.length_cons]
          omega
      case measure =>
        simp only [intOf]
        omega
    · have hnn : nn = 0 := by omega
      subst hnn
      have HG : Hid (digitsOf 20 s.g [] = acc) := Lib.hid (by rw [hdg, digitsOf_zero])
      have hS1 : SetAt B b M l u k s.g s.nm es clock w vn vd s.nu s.nd wr := by
        have hx := HSE.out
        have hMl := (Array.getElem?_eq_some_iff.1 hx.mp).1
        exact ⟨hx.bl.below hbe, hx.nu.grown (grown_of hbe _), hx.nd.grown (grown_of hbe _), (hbe.block M hMl).trans hx.mp, hx.nm, hbe.mono hbw, hx.hb, hx.ne⟩
      have HS1 := Lib.hid hS1
      clear hp hlen hdg hbe hS1 hn0
      rw [show ((0 : Nat) : Int) = 0 from rfl]
      go_wp2_with fail
      obtain ⟨wo, hwo⟩ : ∃ wo, wo = wr := ⟨_, rfl⟩
      rw [← hwo] at HS1
      have HWO := Lib.hid hwo
      subst hwo
      go_loopw [22] (fun _ wr => ∃ (nu nd : List (Nat × Ln)) (vn' vd' : Value) (f : Nat), SF = settleF acc s.nm f nu nd ∧ nu.length + nd.length = f ∧ f ≤ 4096 ∧ SetAt B b M l u k s.g s.nm es clock w vn' vd' nu nd wr) (fun _ wr => cellLen b 5 wr + cellLen b 6 wr)
      case atStart => exact ⟨s.nu, s.nd, vn, vd, s.nu.length + s.nd.length, by rw [HSF.out, HG.out], rfl, by have := HF.out; unfold St.sum at this; omega, HS1.out⟩
      case round =>
        obtain ⟨nu, nd, vn2, vd2, f2, hsf, hlen2, hf2, hat⟩ := hrel
        have HA := Lib.hid hat
        have HQ := Lib.hid hsf
        have HM := Lib.hid hat.lens
        have c5 := hat.bl.cell 5
        have c6 := hat.bl.cell 6
        clear hsf
        have HLN := Lib.hid (And.intro hlen2 hf2)
        cases nu with
        | nil =>
          obtain ⟨a1, k1, rfl, _⟩ := hat.nu.lenV
          cases nd with
          | nil =>
            obtain ⟨a2, k2, rfl, _⟩ := hat.nd.lenV
            simp only [List.length_nil] at c5 c6
            clear hat hlen2 hf2
            go_wp2_with fail
            go_quiet (fail)
            generalize hw3 : wr.drewN nq = w3
            have HA3 := Lib.hid (show SetAt B b M l u k s.g s.nm es clock w _ _ _ _ w3 from by rw [← hw3]; exact HA.out.drew _)
            clear c5 c6 hw3
            go_wp2_with fail
            try simp (config := { zetaDelta := true }) only [Exit.noGoto_ret, Exit.inBlock, Exit.then]
            go_end0
            rw [show SF = .ok () from by rw [HQ.out]; cases f2 <;> rfl]
            exact ⟨HA3.out.be, rfl⟩
          | cons q nd =>
            obtain ⟨g2, off2, cap2, rfl, hcap2, hgb2, h21, h22⟩ := hat.nd.head
            obtain ⟨f2, rfl⟩ : ∃ f', f2 = f' + 1 := ⟨f2 - 1, by simp at hlen2; omega⟩
            have HQ2 : Hid (SF = if (s.nm.find? (fun x => x.1 == q.2)).isSome = false then .error (404, q.1) else settleF acc s.nm f2 [] nd) := Lib.hid (by rw [HQ.out, setF_name (.inl rfl)])
            have HG2 := Lib.hid (And.intro hcap2 (And.intro hgb2 (And.intro h21 h22)))
            simp only [List.length_nil] at c5 c6
            have hL : nd.length ≤ 4096 := by simp at hlen2; omega
            have hgt : (0 : Int) < (nd.length : Int) + 1 := by omega
            have hnz : ((nd.length : Int) + 1 == 0) = false := by simp; omega
            clear hat hlen2 hf2 hcap2 hgb2 h21 h22
            go_wp2_with fail
            go_quiet (fail)
            generalize hw3 : wr.drewN nq = w3
            have HA3 := Lib.hid (show SetAt B b M l u k s.g s.nm es clock w _ _ _ _ w3 from by rw [← hw3]; exact HA.out.drew _)
            clear c5 c6 hw3
            have c5 := HA3.out.bl.cell 5
            have c6 := HA3.out.bl.cell 6
            go_wp2_with fail
            go_quiet (fail)
            generalize hw4 : w3.drewN nq = w4
            have HA4 := Lib.hid (show SetAt B b M l u k s.g s.nm es clock w _ _ _ _ w4 from by rw [← hw4]; exact HA3.out.drew _)
            clear c5 c6 hw4
            have c5 := HA4.out.bl.cell 5
            have c6 := HA4.out.bl.cell 6
            have c4 := HA4.out.bl.cell 4
            have f5 := HA4.out.bl.frozen 5
            have f6 := HA4.out.bl.frozen 6
            have d0 := HA4.out.nd.cell0
            have d1 := HA4.out.nd.cell1
            obtain ⟨A2, hsl2, htl2⟩ := AskV.cut g2 off2 nd.length cap2 HG2.out.1
            have HSLT := Lib.hid hsl2
            have HTL := Lib.hid htl2
            clear hsl2 htl2
            obtain ⟨v0, hlkn⟩ := lookup_draws HA4.out.mp HA4.out.nm q.2
            rcases Bool.eq_false_or_eq_true (s.nm.find? (fun x => x.1 == q.2)).isSome with hf | hf
            · rw [hf] at hlkn
              have HRES : Hid (SF = settleF acc s.nm f2 [] nd) := Lib.hid (by rw [HQ2.out, if_neg (by rw [hf]; exact fun h => Bool.noConfusion h)])
              clear hf
              go_wp2_with fail
              go_quiet (fail)
              generalize hw5 : w4.drewN nq = w5
              have HA5 := Lib.hid (show SetAt B b M l u k s.g s.nm es clock w _ _ _ _ w5 from by rw [← hw5]; exact HA4.out.drew _)
              have HMp := Lib.hid (HA5.out.nd' (HTL.out _ _ _ _ _ rfl HA5.out.nd))
              have hslt := HSLT.out
              clear c5 c6 c4 f5 f6 d0 d1 hlkn hw5
              have c6 := HA5.out.bl.cell 6
              have f6 := HA5.out.bl.frozen 6
              go_wp2_with fail
              go_roundw
              case rel => exact ⟨_, nd, _, _, f2, HRES.out, by have := HLN.out; simp only [List.length_cons, List.length_nil] at this ⊢; omega, by have := HLN.out; simp only [List.length_cons] at this; omega, HMp.out⟩
              case measure =>
                have h1 := HMp.out.lens
                have h2 := HM.out
                simp only [List.length_cons] at h1 h2
                omega
            · rw [hf] at hlkn
              have HRES : Hid (SF = .error (404, q.1)) := Lib.hid (by rw [HQ2.out, if_pos hf])
              clear hf
              go_wp2_with fail
              go_quiet (fail)
              generalize hw5 : w4.drewN nq = w5
              have HA5 := Lib.hid (show SetAt B b M l u k s.g s.nm es clock w _ _ _ _ w5 from by rw [← hw5]; exact HA4.out.drew _)
              have d0' : w5.cell? ⟨g2, off2, none⟩ = some (.int .i64 ((l.length : Int) - (q.1 : Int))) := by rw [← hw5]; exact d0
              clear c5 c6 c4 f5 f6 d0 d1 hlkn hw5
              have c6 := HA5.out.bl.cell 6
              go_wp2_with fail
              refine (fail_any _ _ _).mono ?_
              rintro e w6 ⟨he, rfl⟩
              replace he := he.trans (thrown_ask l.length 404 q)
              subst he
              try simp (config := { zetaDelta := true }) only [Exit.noGoto_ret, Exit.inBlock, Exit.then]
              refine ⟨rfl, ?_⟩
              rw [HRES.out]
              exact ⟨HA5.out.be, rfl⟩
        | cons p nu =>
          obtain ⟨g1, off1, cap1, rfl, hcap1, hgb1, h11, h12⟩ := hat.nu.head
          obtain ⟨f2, rfl⟩ : ∃ f', f2 = f' + 1 := ⟨f2 - 1, by simp at hlen2; omega⟩
          have HG1 := Lib.hid (And.intro hcap1 (And.intro hgb1 (And.intro h11 h12)))
          cases nd with
          | nil =>
            obtain ⟨a2, k2, rfl, _⟩ := hat.nd.lenV
            have HQ2 : Hid (SF = if belowL acc p.2 then .error (402, p.1) else settleF acc s.nm f2 nu []) := Lib.hid (by rw [HQ.out, setF_num (.inl rfl)])
            simp only [List.length_nil] at c5 c6
            have hL : nu.length ≤ 4096 := by simp at hlen2; omega
            have hgt : (0 : Int) < (nu.length : Int) + 1 := by omega
            clear hat hlen2 hf2 hcap1 hgb1 h11 h12
            go_wp2_with fail
            go_quiet (fail)
            generalize hw3 : wr.drewN nq = w3
            have HA3 := Lib.hid (show SetAt B b M l u k s.g s.nm es clock w _ _ _ _ w3 from by rw [← hw3]; exact HA.out.drew _)
            clear c5 c6 hw3
            have c5 := HA3.out.bl.cell 5
            have c6 := HA3.out.bl.cell 6
            go_wp2_with fail
            go_quiet (fail)
            generalize hw4 : w3.drewN nq = w4
            have HA4 := Lib.hid (show SetAt B b M l u k s.g s.nm es clock w _ _ _ _ w4 from by rw [← hw4]; exact HA3.out.drew _)
            clear c5 c6 hw4
            have c5 := HA4.out.bl.cell 5
            have c6 := HA4.out.bl.cell 6
            have c4 := HA4.out.bl.cell 4
            have f5 := HA4.out.bl.frozen 5
            have f6 := HA4.out.bl.frozen 6
            have d0 := HA4.out.nu.cell0
            have d1 := HA4.out.nu.cell1
            obtain ⟨A1, hsl1, htl1⟩ := AskV.cut g1 off1 nu.length cap1 HG1.out.1
            have HSLT := Lib.hid hsl1
            have HTL := Lib.hid (htl1 _ _ _ _ _ rfl HA4.out.nu)
            clear hsl1 htl1
            have HMp := Lib.hid (HA4.out.nu' HTL.out)
            rcases Bool.eq_false_or_eq_true (belowL acc p.2) with hbl | hbl
            · have HRES : Hid (SF = .error (402, p.1)) := Lib.hid (by rw [HQ2.out, hbl]; rfl)
              go_wp2_with fail
              refine (below_any _ _ _).mono ?_
              rintro e w5 ⟨rfl, rfl⟩
              rw [hbl]
              clear hbl
              go_wp2_with fail
              refine (fail_any _ _ _).mono ?_
              rintro e w6 ⟨he, rfl⟩
              replace he := he.trans (thrown_ask l.length 402 p)
              subst he
              try simp (config := { zetaDelta := true }) only [Exit.noGoto_ret, Exit.inBlock, Exit.then]
              refine ⟨rfl, ?_⟩
              rw [HRES.out]
              exact ⟨HA4.out.be, rfl⟩
            · have HRES : Hid (SF = settleF acc s.nm f2 nu []) := Lib.hid (by rw [HQ2.out, hbl]; rfl)
              have hslt := HSLT.out
              go_wp2_with fail
              refine (below_any _ _ _).mono ?_
              rintro e w5 ⟨rfl, rfl⟩
              rw [hbl]
              clear hbl
              go_wp2_with fail
              go_roundw
              case rel => exact ⟨nu, _, _, _, f2, HRES.out, by have := HLN.out; simp only [List.length_cons] at this ⊢; omega, by have := HLN.out; simp only [List.length_cons] at this; omega, HMp.out⟩
              case measure =>
                have h1 := HMp.out.lens
                have h2 := HM.out
                simp only [List.length_cons] at h1 h2
                omega
          | cons q nd =>
            obtain ⟨g2, off2, cap2, rfl, hcap2, hgb2, h21, h22⟩ := hat.nd.head
            have HG2 := Lib.hid (And.intro hcap2 (And.intro hgb2 (And.intro h21 h22)))
            have hL : nu.length + nd.length ≤ 4096 := by simp at hlen2; omega
            have hgt : (0 : Int) < (nu.length : Int) + 1 + ((nd.length : Int) + 1) := by omega
            have hgt1 : (0 : Int) < (nu.length : Int) + 1 := by omega
            have hnz : ((nd.length : Int) + 1 == 0) = false := by simp; omega
            clear hat hlen2 hf2 hcap2 hgb2 h21 h22 hcap1 hgb1 h11 h12
            by_cases hlt : q.1 < p.1
            · have HQ2 : Hid (SF = if belowL acc p.2 then .error (402, p.1) else settleF acc s.nm f2 nu (q :: nd)) := Lib.hid (by rw [HQ.out, setF_num (nd := q :: nd) (p := p) (.inr hlt)])
              have hlt2 : decide ((l.length : Int) - (p.1 : Int) < (l.length : Int) - (q.1 : Int)) = true := by simp; omega
              have hlt3 : ((l.length : Int) - (p.1 : Int) < (l.length : Int) - (q.1 : Int)) := by omega
              go_wp2_with fail
              go_quiet (fail)
              generalize hw3 : wr.drewN nq = w3
              have HA3 := Lib.hid (show SetAt B b M l u k s.g s.nm es clock w _ _ _ _ w3 from by rw [← hw3]; exact HA.out.drew _)
              clear c5 c6 hw3
              have c5 := HA3.out.bl.cell 5
              have c6 := HA3.out.bl.cell 6
              have x0 := HA3.out.nu.cell0
              have y0 := HA3.out.nd.cell0
              go_wp2_with fail
              go_quiet (fail)
              generalize hw4 : w3.drewN nq = w4
              have HA4 := Lib.hid (show SetAt B b M l u k s.g s.nm es clock w _ _ _ _ w4 from by rw [← hw4]; exact HA3.out.drew _)
              clear c5 c6 hw4
              clear x0 y0 hlt2 hlt3
              have c5 := HA4.out.bl.cell 5
              have c6 := HA4.out.bl.cell 6
              have c4 := HA4.out.bl.cell 4
              have f5 := HA4.out.bl.frozen 5
              have f6 := HA4.out.bl.frozen 6
              have d0 := HA4.out.nu.cell0
              have d1 := HA4.out.nu.cell1
              obtain ⟨A1, hsl1, htl1⟩ := AskV.cut g1 off1 nu.length cap1 HG1.out.1
              have HSLT := Lib.hid hsl1
              have HTL := Lib.hid (htl1 _ _ _ _ _ rfl HA4.out.nu)
              clear hsl1 htl1
              have HMp := Lib.hid (HA4.out.nu' HTL.out)
              rcases Bool.eq_false_or_eq_true (belowL acc p.2) with hbl | hbl
              · have HRES : Hid (SF = .error (402, p.1)) := Lib.hid (by rw [HQ2.out, hbl]; rfl)
                go_wp2_with fail
                refine (below_any _ _ _).mono ?_
                rintro e w5 ⟨rfl, rfl⟩
                rw [hbl]
                clear hbl
                go_wp2_with fail
                refine (fail_any _ _ _).mono ?_
                rintro e w6 ⟨he, rfl⟩
                replace he := he.trans (thrown_ask l.length 402 p)
                subst he
                try simp (config := { zetaDelta := true }) only [Exit.noGoto_ret, Exit.inBlock, Exit.then]
                refine ⟨rfl, ?_⟩
                rw [HRES.out]
                exact ⟨HA4.out.be, rfl⟩
              · have HRES : Hid (SF = settleF acc s.nm f2 nu (q :: nd)) := Lib.hid (by rw [HQ2.out, hbl]; rfl)
                have hslt := HSLT.out
                go_wp2_with fail
                refine (below_any _ _ _).mono ?_
                rintro e w5 ⟨rfl, rfl⟩
                rw [hbl]
                clear hbl
                go_wp2_with fail
                go_roundw
                case rel => exact ⟨nu, _, _, _, f2, HRES.out, by have := HLN.out; simp only [List.length_cons] at this ⊢; omega, by have := HLN.out; simp only [List.length_cons] at this; omega, HMp.out⟩
                case measure =>
                  have h1 := HMp.out.lens
                  have h2 := HM.out
                  simp only [List.length_cons] at h1 h2
                  omega
            · have HQ2 : Hid (SF = if (s.nm.find? (fun x => x.1 == q.2)).isSome = false then .error (404, q.1) else settleF acc s.nm f2 (p :: nu) nd) := Lib.hid (by rw [HQ.out, setF_name (q := q) (nu := p :: nu) (.inr hlt)])
              have hlt2 : decide ((l.length : Int) - (p.1 : Int) < (l.length : Int) - (q.1 : Int)) = false := by simp; omega
              have hlt3 : ¬ ((l.length : Int) - (p.1 : Int) < (l.length : Int) - (q.1 : Int)) := by omega
              go_wp2_with fail
              go_quiet (fail)
              generalize hw3 : wr.drewN nq = w3
              have HA3 := Lib.hid (show SetAt B b M l u k s.g s.nm es clock w _ _ _ _ w3 from by rw [← hw3]; exact HA.out.drew _)
              clear c5 c6 hw3
              have c5 := HA3.out.bl.cell 5
              have c6 := HA3.out.bl.cell 6
              have x0 := HA3.out.nu.cell0
              have y0 := HA3.out.nd.cell0
              go_wp2_with fail
              go_quiet (fail)
              generalize hw4 : w3.drewN nq = w4
              have HA4 := Lib.hid (show SetAt B b M l u k s.g s.nm es clock w _ _ _ _ w4 from by rw [← hw4]; exact HA3.out.drew _)
              clear c5 c6 hw4
              clear x0 y0 hlt2 hlt3
              have c5 := HA4.out.bl.cell 5
              have c6 := HA4.out.bl.cell 6
              have c4 := HA4.out.bl.cell 4
              have f5 := HA4.out.bl.frozen 5
              have f6 := HA4.out.bl.frozen 6
              have d0 := HA4.out.nd.cell0
              have d1 := HA4.out.nd.cell1
              obtain ⟨A2, hsl2, htl2⟩ := AskV.cut g2 off2 nd.length cap2 HG2.out.1
              have HSLT := Lib.hid hsl2
              have HTL := Lib.hid htl2
              clear hsl2 htl2
              obtain ⟨v0, hlkn⟩ := lookup_draws HA4.out.mp HA4.out.nm q.2
              rcases Bool.eq_false_or_eq_true (s.nm.find? (fun x => x.1 == q.2)).isSome with hf | hf
              · rw [hf] at hlkn
                have HRES : Hid (SF = settleF acc s.nm f2 (p :: nu) nd) := Lib.hid (by rw [HQ2.out, if_neg (by rw [hf]; exact fun h => Bool.noConfusion h)])
                clear hf
                go_wp2_with fail
                go_quiet (fail)
                generalize hw5 : w4.drewN nq = w5
                have HA5 := Lib.hid (show SetAt B b M l u k s.g s.nm es clock w _ _ _ _ w5 from by rw [← hw5]; exact HA4.out.drew _)
                have HMp := Lib.hid (HA5.out.nd' (HTL.out _ _ _ _ _ rfl HA5.out.nd))
                have hslt := HSLT.out
                clear c5 c6 c4 f5 f6 d0 d1 hlkn hw5
                have c6 := HA5.out.bl.cell 6
                have f6 := HA5.out.bl.frozen 6
                go_wp2_with fail
                go_roundw
                case rel => exact ⟨_, nd, _, _, f2, HRES.out, by have := HLN.out; simp only [List.length_cons, List.length_nil] at this ⊢; omega, by have := HLN.out; simp only [List.length_cons] at this; omega, HMp.out⟩
                case measure =>
                  have h1 := HMp.out.lens
                  have h2 := HM.out
                  simp only [List.length_cons] at h1 h2
                  omega
              · rw [hf] at hlkn
                have HRES : Hid (SF = .error (404, q.1)) := Lib.hid (by rw [HQ2.out, if_pos hf])
                clear hf
                go_wp2_with fail
                go_quiet (fail)
                generalize hw5 : w4.drewN nq = w5
                have HA5 := Lib.hid (show SetAt B b M l u k s.g s.nm es clock w _ _ _ _ w5 from by rw [← hw5]; exact HA4.out.drew _)
                have d0' : w5.cell? ⟨g2, off2, none⟩ = some (.int .i64 ((l.length : Int) - (q.1 : Int))) := by rw [← hw5]; exact d0
                clear c5 c6 c4 f5 f6 d0 d1 hlkn hw5
                have c6 := HA5.out.bl.cell 6
                go_wp2_with fail
                refine (fail_any _ _ _).mono ?_
                rintro e w6 ⟨he, rfl⟩
                replace he := he.trans (thrown_ask l.length 404 q)
                subst he
                try simp (config := { zetaDelta := true }) only [Exit.noGoto_ret, Exit.inBlock, Exit.then]
                refine ⟨rfl, ?_⟩
                rw [HRES.out]
                exact ⟨HA5.out.be, rfl⟩
end Go.Proofs.YtnbadnmmolagfaaDoor
