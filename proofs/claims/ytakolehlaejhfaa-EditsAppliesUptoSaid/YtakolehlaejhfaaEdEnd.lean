/- edits.Script's end: one edit more. -/
import Derived.Test.YtakolehlaejhfaaEdMem
import Derived.Test.YtakolehlaejhfaaEdPlain2
import Derived.Test.YtakolehlaejhfaaRangeT
import Derived.Test.YtakolehlaejhfaaRegion
import Derived.Test.YtakolehlaejhfaaAppIn
import Derived.Test.YtakolehlaejhfaaRows
import Derived.WalkSmall
import Derived.Outline
import Derived.BigQuiet
import Derived.IntWalk
import Derived.Deep.Cut
import Derived.Deep.AppendLies
import Derived.Lib.LazyBuf
import Derived.Deep.RegionLaw
import Derived.Deep.RegionHeld3
import Derived.Deep.QuietTactic
namespace Go.Proofs.Ytakolehlaejhfaa
open Go.RowKit
set_option maxRecDepth 100000
set_option linter.unusedVariables false
set_option linter.unusedSimpArgs false

theorem strE' : ElemOf Try.prog 40 9 1 16 := .mk' (.string ⟨#[]⟩) Try.underlying40 (by kernel_rfl) rfl (by decide)
theorem edE : ElemOf Try.prog 22 43 3 40 := .mk' (.agg #[.int .i64 0, .int .i64 0, .slice none 0 0]) Try.underlying22 (by kernel_rfl) rfl (by decide)

/-- An edit's lines in memory of the call's own. -/
def PutOwn (W : World) (B : Nat) (p : EdV) : Prop := (∃ A c, p.2 = .slice A 0 c ∧ p.1.put = []) ∨ W.ownsRow B 9 1 p.2 p.1.put.length (p.1.put.map strVal)
theorem PutOwn.at_ {W : World} {B hi : Nat} {p : EdV} (h : PutOwn W B p) (hh : W.heap.size ≤ hi) : PutAt W B hi p := by
  rcases h with ⟨A, c, e, e2⟩ | h
  · exact ⟨A, c, by rw [e, e2]; rfl, by rw [e2]; exact Nat.zero_le _, by rw [e2]; exact TxtAt.nil _ _ _ _⟩
  · obtain ⟨A, n, c, e⟩ : ∃ A n c, p.2 = .slice A n c := by
      rcases h.2 with ⟨e, _⟩ | ⟨g, cap, cur, e, _⟩
      · exact ⟨_, _, _, e⟩
      · exact ⟨_, _, _, e⟩
    have hn : n = p.1.put.length := by
      rw [e] at h
      rcases h.2 with ⟨e, e2⟩ | ⟨g, cap, cur, e, _⟩
      · cases e; exact e2.symm
      · cases e; rfl
    subst hn
    rw [e] at h
    obtain ⟨h1, h2, h3⟩ := TxtAt.of_own h
    exact ⟨A, c, e, h3, h1.wide (Nat.le_refl _) hh⟩
theorem PutOwn.kx {X : Nat → Prop} {W W' : World} {B : Nat} {p : EdV} (h : PutOwn W B p) (hk : KX X W W') (hx : ∀ g, p.2.ownBlock = some g → W.heap[g]?.isSome → (∃ cur, W.heap[g]? = some (.cells cur 9 (0, 0))) → ¬ X g) : PutOwn W' B p := by
  rcases h with h | h
  · exact .inl h
  · refine .inr ⟨h.1, ?_⟩
    rcases h.2 with h2 | ⟨g, cap, cur, h1, h2, h3, h4⟩
    · exact .inl h2
    · exact .inr ⟨g, cap, cur, h1, h2, (hk.block g (Array.getElem?_eq_some_iff.1 h3).1 (hx g (by rw [h1]; rfl) (by rw [h3]; rfl) ⟨cur, h3⟩)).trans h3, h4⟩
theorem PutOwn.low {W : World} {B B' : Nat} {p : EdV} (h : PutOwn W B p) (hb : B' ≤ B) : PutOwn W B' p := by
  rcases h with h | h
  · exact .inl h
  · exact .inr (own_low h hb)

/-- A clone of texts. -/
def CloneOut (w : World) (ls : List Ln) (e : Ending) (w' : World) : Prop := ∃ A n c, e = .returned (.slice A n c) ∧ (∀ k d, PutOwn w' w.heap.size (⟨k, d, ls⟩, .slice A n c)) ∧ Below w.heap.size w w'
set_option maxHeartbeats 1000000 in
theorem clone_any (A : Option Addr) (c : Nat) (ls : List Ln) (lo : Nat) (w : World) (hT : TxtAt w lo w.heap.size A ls) (hl : ls.length ≤ 2000000) :
    Calls Try.prog 27 #[.slice A ls.length c] w (CloneOut w ls) := by
  obtain ⟨i0, z0, hT1, hi0, hz0, hz1, hzb, hz4, hz5⟩ := strE'
  have HE := Lib.hid (And.intro hi0 (And.intro hz0 (And.intro hz1 (And.intro hzb hz4))))
  clear hi0 hz0 hz1 hzb hz4 hT1
  cases A with
  | none =>
    have e : ls = [] := by
      rcases List.eq_nil_or_concat ls with h | ⟨_, _, h⟩
      · exact h
      · obtain ⟨b, off, e, _⟩ := hT (by rw [h]; simp)
        cases e
    subst e
    have hq : (binOp .eql 40 (.slice none ([] : List Ln).length c) (.slice none 0 0)).run Try.prog w = .ok (.bool true) w := Go.run_eql_slice_nil w _ _ none _ c Try.underlying40
    simp only [List.length_nil] at hq
    go_enter Try.func27, Try.ntmps27
    go_wp2_with fail
    go_ret
    exact ⟨none, 0, 0, rfl, fun k d => .inl ⟨_, _, rfl, rfl⟩, Below.refl _ _⟩
  | some ad =>
    have hq : (binOp .eql 40 (.slice (some ad) ls.length c) (.slice none 0 0)).run Try.prog w = .ok (.bool false) w := Go.run_eql_slice_nil w _ _ (some ad) _ c Try.underlying40
    have hcells : ∀ (o : Obj) (j : Nat) (u : Value), (ls.map strVal)[j]? = some u → (w.alloc o).cell? (ad.add j) = some u := by
      intro o j u hu
      rw [List.getElem?_map] at hu
      cases hj : ls[j]? with
      | none => rw [hj] at hu; cases hu
      | some x =>
        rw [hj] at hu
        obtain ⟨hjl, ex⟩ := List.getElem?_eq_some_iff.1 hj
        obtain ⟨b, off, e, _, hb, hc⟩ := hT.at_ hjl
        cases e
        have e2 : (⟨b, off, none⟩ : Addr).add j = ⟨b, off + j, none⟩ := by unfold Addr.add; split <;> simp_all
        rw [e2, cell_alloc w o _ hb, hc, ex]
        exact hu
    have HC := Lib.hid hcells
    have HT := Lib.hid hT
    clear hcells hT
    go_enter Try.func27, Try.ntmps27
    go_wp2_with (at_builtin; refine wpList_append_own _ rfl _ _ 40 rfl w.heap.size 9 i0 z0 1 16 Try.underlying40 HE.out.1 HE.out.2.1 HE.out.2.2.1 HE.out.2.2.2.1 HE.out.2.2.2.2 (by omega) (.slice (some ⟨w.heap.size, 0, none⟩) 0 0) 0 [] rfl (World.ownsRow_lit w #[] 0 (Nat.le_refl _) (by unfold maxLen; omega) rfl) ad ls.length c (ls.map strVal) rfl (by simp) (HC.out _) (strVals_one ls) (by unfold maxLen; omega) (by omega) (by simp) ?_; intro v' w1 hown hg _)
    rw [List.nil_append, Nat.zero_add] at hown
    obtain ⟨A', n', c', rfl⟩ : ∃ A n c, v' = .slice A n c := by
      rcases hown.2 with ⟨h1, _⟩ | ⟨g, cap, cur, h1, _⟩
      · exact ⟨_, _, _, h1⟩
      · exact ⟨_, _, _, h1⟩
    have hb : Below w.heap.size w w1 := ((Below.refl w.heap.size w).alloc (Nat.le_refl _) _).grown hg (by simp) (fun k hk => by cases hk; exact Nat.le_refl _)
    go_ret
    exact ⟨A', n', c', rfl, fun k d => .inr hown, hb⟩

/-- The five boxes of Script and the row of its edits. -/
structure EndSt (B bi bq bo bk bY : Nat) (b : List Ln) (A2 : Option Addr) (c2 : Nat) (keep i k : Nat) (v : Value) (es : List EdV) (W : World) : Prop where
  hi : Blk W bi [.int .i64 (i : Int)] 3
  hq : Blk W bq [.int .i64 (k : Int)] 3
  ho : Blk W bo [v] 22
  hk : Blk W bk [.int .i64 (keep : Int)] 3
  hy : Blk W bY [.slice A2 b.length c2] 40
  ht : TxtAt W 0 W.heap.size A2 b
  own : W.ownsRow B 43 3 v es.length (edsCells es)
  puts : ∀ p ∈ es, PutOwn W B p

set_option maxHeartbeats 1000000 in
theorem end_no (B bi bq bo bk bY : Nat) (b : List Ln) (A2 : Option Addr) (c2 keep i k to put : Nat) (v : Value) (es : List EdV) (w : World) (h : EndSt B bi bq bo bk bY b A2 c2 keep i k v es w) (h1 : to ≤ i) (h2 : put ≤ k) :
    Calls Try.prog 26 #[.int .i64 (to : Int), .int .i64 (put : Int), .pointer (some ⟨bi, 0, none⟩), .pointer (some ⟨bq, 0, none⟩), .pointer (some ⟨bo, 0, none⟩), .pointer (some ⟨bk, 0, none⟩), .pointer (some ⟨bY, 0, none⟩)] w
      fun e w' => e = .returned (.tuple #[]) ∧ w = w' := by
  have ci := h.hi.cell 0
  have cq := h.hq.cell 0
  simp only [List.getElem?_cons_zero] at ci cq
  have t1 : decide ((i : Int) < (to : Int)) = false := by simp; omega
  have t2 : decide ((k : Int) < (put : Int)) = false := by simp; omega
  clear h
  go_enter Try.func26, Try.ntmps26
  go_wp2_with fail
  go_end0
  exact ⟨rfl, rfl⟩
theorem EndSt.of {B bi bq bo bk bY : Nat} {b : List Ln} {A2 : Option Addr} {c2 keep i k : Nat} {v : Value} {es : List EdV} {W W' : World} (h : EndSt B bi bq bo bk bY b A2 c2 keep i k v es W) {X : Nat → Prop} (hx : KX X W W') (n : Nat)
    (h1 : ∀ x, X x → x ≠ bi ∧ x ≠ bq ∧ x ≠ bo ∧ x ≠ bk ∧ x ≠ bY ∧ n ≤ x ∧ v.ownBlock ≠ some x ∧ (∀ p ∈ es, p.2.ownBlock ≠ some x)) (ht : TxtAt W 0 n A2 b) (hn : n ≤ W.heap.size) : EndSt B bi bq bo bk bY b A2 c2 keep i k v es W' := by
  refine ⟨(hx.block _ h.hi.lt fun e => (h1 _ e).1 rfl).trans h.hi, (hx.block _ h.hq.lt fun e => (h1 _ e).2.1 rfl).trans h.hq, (hx.block _ h.ho.lt fun e => (h1 _ e).2.2.1 rfl).trans h.ho, (hx.block _ h.hk.lt fun e => (h1 _ e).2.2.2.1 rfl).trans h.hk, (hx.block _ h.hy.lt fun e => (h1 _ e).2.2.2.2.1 rfl).trans h.hy,
    (ht.of fun q _ hq => hx.block q (by omega) fun e => by have := (h1 _ e).2.2.2.2.2.1; omega).wide (Nat.le_refl _) (by have := hx.size; omega), own_kx h.own hx fun g hg e => (h1 _ e).2.2.2.2.2.2.1 hg, fun p hp => (h.puts p hp).kx hx fun g hg _ _ e => (h1 _ e).2.2.2.2.2.2.2 p hp hg⟩

theorem end_close {B bi bq bo bk bY : Nat} {b : List Ln} {A2 : Option Addr} {c2 keep i k : Nat} {v : Value} {es : List EdV} {w wt w2 : World} (h : EndSt B bi bq bo bk bY b A2 c2 keep i k v es w) (hB : B ≤ w.heap.size) (hbo : bo < B) (hbk : bk < B) (hne : bo ≠ bk)
    (hbt : Below w.heap.size w wt) (o : Obj) (E : Ed) {A' : Option Addr} {n' c' : Nat} (hput : PutOwn wt w.heap.size (E, .slice A' n' c')) {gg cap' : Nat}
    (hown : w2.ownsRow B 43 3 (.slice (some ⟨gg, 0, none⟩) (es.length + 1) cap') (es.length + 1) (edsCells es ++ [.int .i64 E.keep, .int .i64 E.drop, .slice A' n' c'])) (hg : (wt.alloc o).grownBy w2 v.ownBlock) (hat : v.ownBlock = some gg ∨ gg = wt.heap.size + 1)
    {w3 : World} (h3 : w3 = (w2.setCell ⟨bo, 0, none⟩ (.slice (some ⟨gg, 0, none⟩) (es.length + 1) cap')).setCell ⟨bk, 0, none⟩ (.int .i64 0)) :
    ∃ (g cap : Nat) (pv : Value), w3.ownsRow B 43 3 (.slice (some ⟨g, 0, none⟩) (es.length + 1) cap) (es.length + 1) (edsCells (es ++ [(E, pv)])) ∧
        PutOwn w3 w.heap.size (E, pv) ∧ (∀ p ∈ es, PutOwn w3 B p) ∧
        Blk w3 bo [.slice (some ⟨g, 0, none⟩) (es.length + 1) cap] 22 ∧ Blk w3 bk [.int .i64 0] 3 ∧ (v.ownBlock = some g ∨ w.heap.size ≤ g) ∧ KX (fun x => x = bo ∨ x = bk ∨ v.ownBlock = some x) w w3 := by
  have hz := hbt.size
  have hk1 : KX (fun x => x = bo ∨ x = bk ∨ v.ownBlock = some x) wt w3 := by
    have e1 : KX (fun x => x = bo ∨ x = bk ∨ v.ownBlock = some x) wt (wt.alloc o) := KX.of_below ((Below.refl _ wt).alloc (Nat.le_refl _) o)
    have e2 : KX (fun x => x = bo ∨ x = bk ∨ v.ownBlock = some x) (wt.alloc o) w2 := ⟨hg.os, hg.tape, hg.output, hg.size, fun x hx hn => hg.block x hx (fun e => hn (.inr (.inr e.symm)))⟩
    rw [h3]
    exact ((e1.trans e2).trans (KX.setCell w2 (p := ⟨bo, 0, none⟩) (.inl rfl) _)).trans (KX.setCell _ (p := ⟨bk, 0, none⟩) (.inr (.inl rfl)) _)
  have hk0 : KX (fun x => x = bo ∨ x = bk ∨ v.ownBlock = some x) w w3 := (KX.of_below hbt).trans hk1
  have hvo : ∀ x, v.ownBlock = some x → B ≤ x ∧ x < w.heap.size := fun x hx => h.own.lt x hx
  have hvne : ∀ z, z < B → v.ownBlock ≠ some z := fun z hz' e => by have := (hvo _ e).1; omega
  refine ⟨gg, cap', .slice A' n' c', ?_, ?_, ?_, ?_, ?_, ?_, hk0⟩
  · rw [h3, edsCells_snoc]
    exact ownsRow_setCell_below (ownsRow_setCell_below hown (a := ⟨bo, 0, none⟩) (by simpa using hbo) _) (a := ⟨bk, 0, none⟩) (by simpa using hbk) _
  · rcases hput with hp | hp
    · exact .inl hp
    · refine PutOwn.kx (.inr hp) hk1 fun g hgb _ _ hx => ?_
      have hge := (hp.lt g hgb).1
      rcases hx with rfl | rfl | hx
      · omega
      · omega
      · have := (hvo _ hx).2; omega
  · intro p hp
    refine (h.puts p hp).kx hk0 fun g hgb _ hcur hx => ?_
    obtain ⟨cur, hcur⟩ := hcur
    rcases hx with rfl | rfl | hx
    · have := h.ho; unfold Blk at this; rw [hcur] at this; cases this
    · have := h.hk; unfold Blk at this; rw [hcur] at this; cases this
    · rcases h.own.2 with ⟨e, _⟩ | ⟨g', cap, cur', e, _, hc, _⟩
      · rw [e] at hx; cases hx
      · rw [e] at hx
        have : g' = g := by simpa [Value.ownBlock] using hx
        subst this
        rw [hcur] at hc; cases hc
  · have e1 : Blk w2 bo [v] 22 := ((h.ho.below hbt).alloc o).grown hg (fun e => hvne bo hbo e.symm)
    rw [h3]
    exact (e1.set 0 _).set_other (by simpa using hne) _
  · have e1 : Blk w2 bk [.int .i64 (keep : Int)] 3 := ((h.hk.below hbt).alloc o).grown hg (fun e => hvne bk hbk e.symm)
    rw [h3]
    exact (e1.set_other (by simpa using Ne.symm hne) _).set 0 _
  · rcases hat with h | h
    · exact .inl h
    · exact .inr (by omega)
set_option maxHeartbeats 4000000 in
theorem end_yes (B bi bq bo bk bY : Nat) (b : List Ln) (A2 : Option Addr) (c2 keep i k to put : Nat) (v : Value) (es : List EdV) (w : World) (h : EndSt B bi bq bo bk bY b A2 c2 keep i k v es w) (hc2 : b.length ≤ c2) (h1 : i < to ∨ k < put) (h2 : i ≤ to) (h3 : k ≤ put) (h4 : put ≤ b.length) (h5 : to ≤ 1024) (h6 : b.length ≤ 1024) (h7 : es.length ≤ 2048) (h8 : keep ≤ 1024) (hB : B ≤ w.heap.size)
    (hbo : bo < B) (hbk : bk < B) (hbi : bi < B) (hbq : bq < B) (hbY : bY < B) (hne : bo ≠ bk) (hne1 : bo ≠ bi) (hne2 : bo ≠ bq) (hne3 : bo ≠ bY) :
    Calls Try.prog 26 #[.int .i64 (to : Int), .int .i64 (put : Int), .pointer (some ⟨bi, 0, none⟩), .pointer (some ⟨bq, 0, none⟩), .pointer (some ⟨bo, 0, none⟩), .pointer (some ⟨bk, 0, none⟩), .pointer (some ⟨bY, 0, none⟩)] w
      fun e w' => e = .returned (.tuple #[]) ∧ ∃ (g cap : Nat) (pv : Value), w'.ownsRow B 43 3 (.slice (some ⟨g, 0, none⟩) (es.length + 1) cap) (es.length + 1) (edsCells (es ++ [(⟨keep, (to : Int) - i, (b.drop k).take (put - k)⟩, pv)])) ∧
        PutOwn w' w.heap.size (⟨keep, (to : Int) - i, (b.drop k).take (put - k)⟩, pv) ∧ (∀ p ∈ es, PutOwn w' B p) ∧
        Blk w' bo [.slice (some ⟨g, 0, none⟩) (es.length + 1) cap] 22 ∧ Blk w' bk [.int .i64 0] 3 ∧ (v.ownBlock = some g ∨ w.heap.size ≤ g) ∧ KX (fun x => x = bo ∨ x = bk ∨ v.ownBlock = some x) w w' := by
  have ci := h.hi.cell 0
  have cq := h.hq.cell 0
  have co := h.ho.cell 0
  have ck := h.hk.cell 0
  have cy := h.hy.cell 0
  simp only [List.getElem?_cons_zero] at ci cq co ck cy
  have HH := Lib.hid h
  obtain ⟨ct, hct⟩ : ∃ A', A' = (if c2 = k then A2 else A2.map (·.add (k * 1))) := ⟨_, rfl⟩
  have HCL := Lib.hid (fun W (hb : Below w.heap.size w W) => clone_any ct (c2 - k) ((b.drop k).take (put - k)) 0 W (by rw [hct]; exact ((h.ht.cut c2 hc2).below hb (Nat.le_refl _)).wide (Nat.le_refl _) hb.size) (by rw [List.length_take, List.length_drop]; omega))
  have hlen : ((b.drop k).take (put - k)).length = put - k := by rw [List.length_take, List.length_drop]; omega
  have HSL : ∀ W, (Instr.slice 40 (.slice A2 b.length c2) (some (.int .i64 (k : Int))) (some (.int .i64 (put : Int))) none).run Try.prog W = .ok (.slice ct ((b.drop k).take (put - k)).length (c2 - k)) W := by
    intro W
    rw [run_slice_lh _ _ _ _ _ (by kernel_rfl) _ _ _ _ (by omega) (by omega) (by omega)]
    have hel : Try.prog.elem 40 = 9 := by kernel_rfl
    rw [hel, Try.sizeOf9]
    simp [sliced, Result.andThen, hct, hlen]
  have hs1 : IntKind.i64.wrap ((to : Int) - (i : Int)) = (to : Int) - (i : Int) := IntWalk.i64_in _ (by omega)
  obtain ⟨i0, z0, hT1, hi0, hz0, hz1, hzb, hz4, hz5⟩ := edE
  have HE := Lib.hid (And.intro hi0 (And.intro hz0 (And.intro hz1 (And.intro hzb hz4))))
  have HS1 := Lib.hid hs1
  have HSL' := Lib.hid HSL
  obtain ⟨pt, hpt⟩ : ∃ pt, pt = (b.drop k).take (put - k) := ⟨_, rfl⟩
  have HPT := Lib.hid hpt
  rw [← hpt] at HCL HSL' HSL ⊢
  have hfo := h.ho.frozen 0
  have hfk := h.hk.frozen 0
  have l1 := h.hi.lt
  have l2 := h.hq.lt
  have l3 := h.ho.lt
  have l4 := h.hk.lt
  have l5 := h.hy.lt
  have hvne : v.ownBlock ≠ some bo := fun e => by have := (h.own.lt _ e).1; omega
  have HVNE := Lib.hid hvne
  have hvne2 : v.ownBlock ≠ some bk := fun e => by have := (h.own.lt _ e).1; omega
  have HVNE2 := Lib.hid hvne2
  have HV3 : Hid (v.ownBlock ≠ some bi) := Lib.hid (fun e => by have := (h.own.lt _ e).1; omega)
  have HV4 : Hid (v.ownBlock ≠ some bq) := Lib.hid (fun e => by have := (h.own.lt _ e).1; omega)
  have HV5 : Hid (v.ownBlock ≠ some bY) := Lib.hid (fun e => by have := (h.own.lt _ e).1; omega)
  clear hi0 hz0 hz1 hzb hz4 hT1 hct hs1 h HSL hpt hvne hvne2 hlen
  have hcase : ((i : Int) < (to : Int)) ∨ ((to : Int) ≤ (i : Int) ∧ (k : Int) < (put : Int)) := by
    by_cases hit : i < to
    · exact .inl (by omega)
    · exact .inr ⟨by omega, by omega⟩
  clear h1
  rcases hcase with h1 | ⟨h1, h1'⟩
  all_goals
    go_enter Try.func26, Try.ntmps26
    go_wp2_with fail
    have hs1 := HS1.out
    have hsl := HSL'.out
    refine wp_region_chain (fun w' => w'.cell? ⟨bo, 0, none⟩ = some v ∧ w'.cell? ⟨bk, 0, none⟩ = some (.int .i64 (keep : Int)) ∧ w'.cell? ⟨bi, 0, none⟩ = some (.int .i64 (i : Int)) ∧ w'.cell? ⟨bq, 0, none⟩ = some (.int .i64 (k : Int)) ∧ w'.cell? ⟨bY, 0, none⟩ = some (.slice A2 b.length c2)) 9 4 _ (by kernel_rfl) rfl (by kernel_rfl) (by kernel_rfl) (by intro _ _ d _ _ h; cases d <;> exact h) ⟨co, ck, ci, cq, cy⟩ ?_
    simp only [List.take_succ_cons, List.take_zero, List.drop_succ_cons, List.drop_zero, List.cons_append, List.nil_append]
    repeat (refine wpHeld_step rfl ?_; apply Exists.intro; refine ⟨fun wq hq => ?_, ?_⟩; (obtain ⟨q1, q2, q3, q4, q5⟩ := hq; go_simp; first | done | rfl); simp only [Act.put, List.setIfInBounds_toArray, List.set_cons_zero, List.set_cons_succ])
    change wpSeq _ _ _ _ _ _ _
    refine wpSeq_step rfl (fun K hK => ?_)
    go_simp
    go_at_call 27
    refine (HCL.out _ ((Below.refl _ w).drew)).mono ?_
    rintro e wt ⟨A', n', c', rfl, hput, hbt⟩
    have hzt : w.heap.size ≤ wt.heap.size := hbt.size
    have di := (hbt.cell (p := ⟨bi, 0, none⟩) l1).trans ci
    have dq := (hbt.cell (p := ⟨bq, 0, none⟩) l2).trans cq
    have d_o := (hbt.cell (p := ⟨bo, 0, none⟩) l3).trans co
    have dk := (hbt.cell (p := ⟨bk, 0, none⟩) l4).trans ck
    have dy := (hbt.cell (p := ⟨bY, 0, none⟩) l5).trans cy
    refine hK _ _ ⟨d_o, dk, di, dq, dy⟩ ?_
    clear hK K
    try simp only [Act.put, List.setIfInBounds_toArray, List.set_cons_zero, List.set_cons_succ]
    refine wpSeq_step rfl (fun K hK => ?_)
    go_simp
    refine hK _ _ ⟨d_o, dk, di, dq, dy⟩ ?_
    clear hK K
    try simp only [Act.put, List.setIfInBounds_toArray, List.set_cons_zero, List.set_cons_succ]
    refine wpSeq_step rfl (fun K hK => ?_)
    go_simp
    have e_o := fun o => (cell_alloc wt o ⟨bo, 0, none⟩ (by simp; omega)).trans d_o
    have ek := fun o => (cell_alloc wt o ⟨bk, 0, none⟩ (by simp; omega)).trans dk
    have ei := fun o => (cell_alloc wt o ⟨bi, 0, none⟩ (by simp; omega)).trans di
    have eq := fun o => (cell_alloc wt o ⟨bq, 0, none⟩ (by simp; omega)).trans dq
    have ey := fun o => (cell_alloc wt o ⟨bY, 0, none⟩ (by simp; omega)).trans dy
    refine hK _ _ ⟨e_o _, ek _, ei _, eq _, ey _⟩ ?_
    clear hK K
    try simp only [Act.put, List.setIfInBounds_toArray, List.set_cons_zero, List.set_cons_succ]
    refine wpSeq_step rfl (fun K hK => ?_)
    refine wp_append_lies _ _ _ 22 rfl B 43 i0 z0 3 40 Try.underlying22 HE.out.1 HE.out.2.1 HE.out.2.2.1 HE.out.2.2.2.1 HE.out.2.2.2.2 (by omega) v es.length (edsCells es) rfl ((own_below (show w.drew.ownsRow _ _ _ _ _ _ from HH.out.own) hbt).alloc _) ⟨wt.heap.size, 0, none⟩ 1 1 [.int .i64 (keep : Int), .int .i64 ((to : Int) - (i : Int)), .slice A' n' c'] rfl rfl (World.news_of_block (cs := #[.int .i64 (keep : Int), .int .i64 ((to : Int) - (i : Int)), .slice A' n' c']) (t := 43) (fr := (0, 0)) (heap_alloc_new wt _)) (by simp [Value.oneCell']) (by omega) (by unfold maxLen; omega) (by omega) (by have := hbt.size; simp at this ⊢; omega) (wt.heap.size + 1) (by simp) ?_
    intro gg cap' w2 hown1 hgrow hat hlt
    have f_o := (hgrow.cell_far ⟨bo, 0, none⟩ (by simp; omega) (Ne.symm HVNE.out)).trans (e_o _)
    have fk := (hgrow.cell_far ⟨bk, 0, none⟩ (by simp; omega) (Ne.symm HVNE2.out)).trans (ek _)
    have fi := (hgrow.cell_far ⟨bi, 0, none⟩ (by simp; omega) (Ne.symm HV3.out)).trans (ei _)
    have fq := (hgrow.cell_far ⟨bq, 0, none⟩ (by simp; omega) (Ne.symm HV4.out)).trans (eq _)
    have fy := (hgrow.cell_far ⟨bY, 0, none⟩ (by simp; omega) (Ne.symm HV5.out)).trans (ey _)
    have gfo := (hgrow.frozen_far ⟨bo, 0, none⟩ (by simp; omega) (Ne.symm HVNE.out)).trans ((frozen_alloc wt _ _ (by simp; omega)).trans ((hbt.frozen (p := ⟨bo, 0, none⟩) l3).trans hfo))
    have gfk := (hgrow.frozen_far ⟨bk, 0, none⟩ (by simp; omega) (Ne.symm HVNE2.out)).trans ((frozen_alloc wt _ _ (by simp; omega)).trans ((hbt.frozen (p := ⟨bk, 0, none⟩) l4).trans hfk))
    refine hK _ _ ⟨f_o, fk, fi, fq, fy⟩ ?_
    clear hK K
    try simp only [Act.put, List.setIfInBounds_toArray, List.set_cons_zero, List.set_cons_succ]
    change Oper.wp _ _ _ _ _ _
    go_simp
    have HO1 := Lib.hid hown1
    have HG := Lib.hid hgrow
    have HPU := Lib.hid hput
    have HBT := Lib.hid hbt
    have HAT := Lib.hid hat
    have c9 := (w2.cell?_setCell_far ⟨bo, 0, none⟩ ⟨bk, 0, none⟩ (.slice (some ⟨gg, 0, none⟩) (es.length + 1) cap') (by simpa using hne)).trans fk
    have f9 : (w2.setCell ⟨bo, 0, none⟩ (.slice (some ⟨gg, 0, none⟩) (es.length + 1) cap')).frozen? ⟨bk, 0, none⟩ = false := by simpa using gfk
    clear hown1 hgrow hput hbt hat f_o fk fi fq fy gfo gfk e_o ek ei eq ey di dq d_o dk dy
    go_wp2_with fail
    go_end0
    rw [HPT.out] at HPU ⊢
    exact ⟨rfl, end_close HH.out hB hbo hbk hne (show Below w.heap.size w wt from ⟨HBT.out.os, HBT.out.tape, HBT.out.output, HBT.out.size, HBT.out.block⟩) _ ⟨keep, (to : Int) - i, (b.drop k).take (put - k)⟩ (HPU.out _ _) HO1.out HG.out HAT.out rfl⟩
end Go.Proofs.Ytakolehlaejhfaa
