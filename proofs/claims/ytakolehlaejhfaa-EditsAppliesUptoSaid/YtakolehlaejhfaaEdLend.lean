/- CopyTexts, LendTexts, LendEdits, KeptTexts, KeptEdits: what is lent lies in a place with marked room behind it. -/
import Derived.Test.YtakolehlaejhfaaRefScript
import Derived.Test.YtakolehlaejhfaaEdSame
import Derived.StillTailTactics
import Derived.Deep.RegionHeld3
namespace Go.Proofs.Ytakolehlaejhfaa
open Go.RowKit
set_option maxRecDepth 100000
set_option linter.unusedVariables false
set_option linter.unusedSimpArgs false

/-- The marks of the room. -/
def roomB : List Ln := [[126, 114, 111, 111, 109], [126, 98, 101, 104, 105, 110, 100]]
theorem run_append_none_c {w : World} (base : Nat) (t ty e : TypeId) (i : TypeInfo) (size c : Nat) (ht : Try.prog.underlying t = some (.slice e)) (hi : Try.prog.info? e = some i)
    (v : Value) (n : Nat) (xs : List Value) (hown : w.ownsRow base e size v n xs) :
    (Builtin.append_ #[t, t] ty #[v, .slice none 0 c]).run Try.prog w = .ok v w := by
  rcases hown.2 with ⟨rfl, rfl⟩ | ⟨g, cap, cur, rfl, _, _, hnc, _⟩
  · simp [Builtin.append_, run_underlying ht, sizeOf, typeInfo, hi, Builtin.lenOf, Builtin.firstCells]
  · simp [Builtin.append_, run_underlying ht, sizeOf, typeInfo, hi, Builtin.lenOf, Builtin.firstCells, hnc, storeCells]
theorem wpList_append_none_c {w : World} {ops : Array Oper} {rest : List Oper} {o : Oper} {a : Act} {Q : Exit → Act → World → Prop} (hgd : o.guard = none) (s x : Operand) (t : TypeId)
    (ho : o.op = .call { callee := .builtin .append, args := #[s, x], argTypes := #[t, t] })
    (base : Nat) (e : TypeId) (i : TypeInfo) (size c : Nat) (ht : Try.prog.underlying t = some (.slice e)) (hi : Try.prog.info? e = some i)
    (v : Value) (n : Nat) (xs : List Value) (hs : a.eval s = v) (hown : w.ownsRow base e size v n xs) (hx : a.eval x = .slice none 0 c)
    (h : wpList Try.prog ops Q rest (a.put o.dst v) w) : wpList Try.prog ops Q (o :: rest) a w := by
  refine wpList_plain hgd fun K hK => ?_
  have hrun := run_append_none_c (w := w) base t o.type e i size c ht hi v n xs hown
  unfold Oper.wp
  simp [execOp, ho, resolve, invoke, builtin, hs, hx, hrun, Result.andThen]
  exact hK _ _ h

def CopyOut (w : World) (ls : List Ln) (e : Ending) (w' : World) : Prop := ∃ g c, e = .returned (.slice (some ⟨g, 0, none⟩) ls.length c) ∧ w'.ownsRow w.heap.size 9 1 (.slice (some ⟨g, 0, none⟩) ls.length c) ls.length (ls.map strVal) ∧ Below w.heap.size w w'
set_option maxHeartbeats 1000000 in
theorem copyTexts_any (A : Option Addr) (c : Nat) (ls : List Ln) (w : World) (hT : TxtAt w 0 w.heap.size A ls) (hl : ls.length ≤ 2000000) :
    Calls Try.prog 41 #[.slice A ls.length c] w (CopyOut w ls) := by
  obtain ⟨i0, z0, hT1, hi0, hz0, hz1, hzb, hz4, hz5⟩ := strE'
  have HE := Lib.hid (And.intro hi0 (And.intro hz0 (And.intro hz1 (And.intro hzb hz4))))
  clear hi0 hz0 hz1 hzb hz4 hT1
  cases A with
  | none =>
    have e : ls = [] := by
      rcases List.eq_nil_or_concat ls with h | ⟨_, _, h⟩
      · exact h
      · obtain ⟨b, off, e, _⟩ := hT (by rw [h]; simp)
        cases e
    subst e
    have ho : (w.alloc (.cells #[] 9)).ownsRow w.heap.size 9 1 (.slice (some ⟨w.heap.size, 0, none⟩) 0 0) 0 [] := World.ownsRow_lit w #[] 0 (Nat.le_refl _) (by unfold maxLen; omega) rfl
    have HO := Lib.hid ho
    clear ho
    simp only [List.length_nil]
    go_enter Try.func41, Try.ntmps41
    go_wp2_with (at_builtin; refine wpList_append_none_c rfl _ _ 40 rfl w.heap.size 9 i0 1 c Try.underlying40 HE.out.1 (.slice (some ⟨w.heap.size, 0, none⟩) 0 0) 0 [] rfl HO.out rfl ?_)
    go_ret
    exact ⟨w.heap.size, 0, rfl, HO.out, (Below.refl w.heap.size w).alloc (Nat.le_refl _) _⟩
  | some ad =>
    have hcells : ∀ (o : Obj) (j : Nat) (u : Value), (ls.map strVal)[j]? = some u → (w.alloc o).cell? (ad.add j) = some u := by
      intro o j u hu
      rw [List.getElem?_map] at hu
      cases hj : ls[j]? with
      | none => rw [hj] at hu; cases hu
      | some x =>
        rw [hj] at hu
        obtain ⟨hjl, ex⟩ := List.getElem?_eq_some_iff.1 hj
        obtain ⟨b, off, e, _, hb, hc⟩ := hT.at_ hjl
        cases e
        have e2 : (⟨b, off, none⟩ : Addr).add j = ⟨b, off + j, none⟩ := by unfold Addr.add; split <;> simp_all
        rw [e2, cell_alloc w o _ hb, hc, ex]
        exact hu
    have HC := Lib.hid hcells
    clear hcells hT
    go_enter Try.func41, Try.ntmps41
    go_wp2_with (at_builtin; refine wpList_append_own _ rfl _ _ 40 rfl w.heap.size 9 i0 z0 1 16 Try.underlying40 HE.out.1 HE.out.2.1 HE.out.2.2.1 HE.out.2.2.2.1 HE.out.2.2.2.2 (by omega) (.slice (some ⟨w.heap.size, 0, none⟩) 0 0) 0 [] rfl (World.ownsRow_lit w #[] 0 (Nat.le_refl _) (by unfold maxLen; omega) rfl) ad ls.length c (ls.map strVal) rfl (by simp) (HC.out _) (strVals_one ls) (by unfold maxLen; omega) (by omega) (by simp) ?_; intro v' w1 hown hg hiff)
    rw [List.nil_append, Nat.zero_add] at hown
    have hb : Below w.heap.size w w1 := ((Below.refl w.heap.size w).alloc (Nat.le_refl _) _).grown hg (by simp) (fun k hk => by cases hk; exact Nat.le_refl _)
    rcases hown.2 with ⟨h1, _⟩ | ⟨g, cap, cur, h1, _⟩
    · have := hiff.1 h1
      simp at this
    · subst h1
      have HO := Lib.hid hown
      have HB := Lib.hid hb
      clear hown hb hg hiff
      go_ret
      exact ⟨g, cap, rfl, HO.out, HB.out⟩

/-- What is lent: the texts, the marks behind them. -/
def LentV (W : World) (B : Nat) (p : EdV) : Prop := ∃ g c, p.2 = .slice (some ⟨g, 0, none⟩) p.1.put.length c ∧ W.ownsRow B 9 1 (.slice (some ⟨g, 0, none⟩) (p.1.put.length + 2) c) (p.1.put.length + 2) ((p.1.put ++ roomB).map strVal)
def LendOut (w : World) (ls : List Ln) (e : Ending) (w' : World) : Prop := ∃ g c, e = .returned (.slice (some ⟨g, 0, none⟩) ls.length c) ∧ w'.ownsRow w.heap.size 9 1 (.slice (some ⟨g, 0, none⟩) (ls.length + 2) c) (ls.length + 2) ((ls ++ roomB).map strVal) ∧ Below w.heap.size w w'
theorem strEE : ElemOf Try.prog 40 9 1 16 := .mk' (.string ⟨#[]⟩) Try.underlying40 (by kernel_rfl) rfl (by decide)
set_option maxHeartbeats 1000000 in
theorem lendTexts_any (A : Option Addr) (c : Nat) (ls : List Ln) (w : World) (hT : TxtAt w 0 w.heap.size A ls) (hl : ls.length ≤ 2000000) :
    Calls Try.prog 32 #[.slice A ls.length c] w (LendOut w ls) := by
  have HC := Lib.hid (copyTexts_any A c ls w hT hl)
  clear hT
  have HSL : ∀ (g cc : Nat) (W : World), ls.length + 2 ≤ cc → (Instr.slice 40 (.slice (some ⟨g, 0, none⟩) (ls.length + 2) cc) none (some (.int .i64 (ls.length : Int))) none).run Try.prog W = .ok (.slice (some ⟨g, 0, none⟩) ls.length cc) W := by
    intro g cc W hcc
    rw [run_slice_h _ _ _ _ _ (by kernel_rfl) _ _ (by omega) (by omega)]
    have hel : Try.prog.elem 40 = 9 := by kernel_rfl
    rw [hel, Try.sizeOf9]
    have : (fun x : Addr => x.add 0) = id := by funext x; unfold Addr.add; split <;> simp_all
    simp [sliced, Result.andThen, this]
  have HSL' := Lib.hid HSL
  clear HSL
  go_enter Try.func32, Try.ntmps32
  go_wp2_with fail
  refine HC.out.mono ?_
  rintro e w1 ⟨g1, c1, rfl, hown1, hb1⟩
  have HO1 := Lib.hid hown1
  have HB1 := Lib.hid hb1
  clear hown1 hb1 HC
  go_upto_region 2 with (at_builtin; refine wpList_append_blk rfl (.tmp 5) (.tmp 6) 40 9 1 16 rfl strEE w w1 w.heap.size HB1.out HB1.out.size ((Below.refl _ _).alloc (Nat.le_refl _) _) (.slice (some ⟨g1, 0, none⟩) ls.length c1) ls.length (ls.map strVal) rfl HO1.out w1.heap.size 2 [strVal [126, 114, 111, 111, 109], strVal [126, 98, 101, 104, 105, 110, 100]] rfl (Blk.new' _ _ rfl) rfl (by simp [Value.oneCell', strVal]) (by unfold maxLen; omega) (by omega) ?_; intro v' w2 ho' hb' hg' hlt'; have HO2 := Lib.hid ho'; have HB2 := Lib.hid hb'; clear ho' hb' hg' hlt')
  obtain ⟨g2, c2, rfl, hc2⟩ : ∃ g c, v' = .slice (some ⟨g, 0, none⟩) (ls.length + 2) c ∧ ls.length + 2 ≤ c := by
    rcases HO2.out.2 with ⟨_, h⟩ | ⟨g, cap, cur, h, _, _, h4, _⟩
    · omega
    · exact ⟨g, cap, h, h4⟩
  have hsl := fun W => HSL'.out g2 c2 W hc2
  go_wp2_with fail
  go_ret
  refine ⟨g2, c2, rfl, ?_, HB2.out⟩
  have := HO2.out
  rw [List.map_append]
  exact this
theorem LentV.putAt {W : World} {B hi : Nat} {p : EdV} (h : LentV W B p) (hh : W.heap.size ≤ hi) : PutAt W B hi p := by
  obtain ⟨g, c, e, h⟩ := h
  rcases h.2 with ⟨e1, _⟩ | ⟨g', cap, cur, e1, hb, hc, hle, _⟩
  · cases e1
  · cases e1
    have hlt := (Array.getElem?_eq_some_iff.1 hc).1
    refine ⟨some ⟨g, 0, none⟩, c, e, by omega, fun _ => ⟨g, 0, rfl, hb, by omega, fun j hj => ?_⟩⟩
    rw [Nat.zero_add, h.cellAt j (by omega), List.getElem?_map, List.getElem?_append_left hj, List.getElem?_eq_getElem hj]
    rfl
structure LendSt (w : World) (lv : List EdV) (v : Value) (W : World) : Prop where
  own : W.ownsRow w.heap.size 43 3 v lv.length (edsCells lv)
  lent : ∀ p ∈ lv, LentV W w.heap.size p
  below : Below w.heap.size w W
theorem LendSt.push {w W W1 W' : World} {lv : List EdV} {v v' : Value} (h : LendSt w lv v W) (hb : Below W.heap.size W W1) (o : Obj) (E : Ed) {g c : Nat}
    (hl : W1.ownsRow w.heap.size 9 1 (.slice (some ⟨g, 0, none⟩) (E.put.length + 2) c) (E.put.length + 2) ((E.put ++ roomB).map strVal))
    (hown : W'.ownsRow w.heap.size 43 3 v' (lv.length + 1) (edsCells lv ++ [.int .i64 E.keep, .int .i64 E.drop, .slice (some ⟨g, 0, none⟩) E.put.length c])) (hg : (W1.alloc o).grownBy W' v.ownBlock) :
    LendSt w (lv ++ [(E, .slice (some ⟨g, 0, none⟩) E.put.length c)]) v' W' := by
  have hvo : ∀ x, v.ownBlock = some x → w.heap.size ≤ x ∧ x < W.heap.size := fun x hx => h.own.lt x hx
  have hk : KX (fun x => v.ownBlock = some x) W1 W' := by
    have e1 : KX (fun x => v.ownBlock = some x) W1 (W1.alloc o) := KX.of_below ((Below.refl _ W1).alloc (Nat.le_refl _) o)
    exact e1.trans ⟨hg.os, hg.tape, hg.output, hg.size, fun x hx hn => hg.block x hx (fun e => hn e.symm)⟩
  have hty : ∀ {g cur}, W1.heap[g]? = some (.cells cur 9 (0, 0)) → v.ownBlock ≠ some g := by
    intro g cur hc hx
    rcases (own_below h.own hb).2 with ⟨e, _⟩ | ⟨g', cap, cur', e, _, hc', _⟩
    · rw [e] at hx; cases hx
    · rw [e] at hx
      have : g' = g := by simpa [Value.ownBlock] using hx
      subst this
      rw [hc] at hc'; cases hc'
  have hkeep : ∀ {n c xs g}, W1.ownsRow w.heap.size 9 1 (.slice (some ⟨g, 0, none⟩) n c) n xs → W'.ownsRow w.heap.size 9 1 (.slice (some ⟨g, 0, none⟩) n c) n xs := by
    intro n c xs g ho
    refine own_kx ho hk fun g' hg' hx => ?_
    rcases ho.2 with ⟨e, _⟩ | ⟨g2, cap, cur, e, _, hc, _⟩
    · cases e
    · cases e
      have : g = g' := by simpa [Value.ownBlock] using hg'
      subst this
      exact hty hc hx
  refine ⟨by rw [edsCells_snoc, List.length_append]; exact hown, fun p hp => ?_, ?_⟩
  · rcases List.mem_append.1 hp with hp | hp
    · obtain ⟨g0, c0, e0, h0⟩ := h.lent p hp
      exact ⟨g0, c0, e0, hkeep (own_below h0 hb)⟩
    · simp only [List.mem_cons, List.not_mem_nil, or_false] at hp
      subst hp
      exact ⟨g, c, rfl, hkeep hl⟩
  · have hs := h.below.size
    have hs2 := hb.size
    exact ((h.below.trans (hb.mono hs)).alloc (by omega) o).grown hg (by simp; omega) (fun k hk => (hvo k hk).1)
def LendEOut (w : World) (es : List Ed) (e : Ending) (w' : World) : Prop := ∃ lv A c, e = .returned (.slice A es.length c) ∧ lv.map (·.1) = es ∧ LendSt w lv (.slice A es.length c) w'
set_option maxHeartbeats 4000000 in
theorem lendEdits_any (A : Option Addr) (c : Nat) (es : List Ed) (w : World) (hE : EdsAt w 0 w.heap.size A es) (hl : es.length ≤ 2000000) (hpl : ∀ e ∈ es, e.put.length ≤ 2000000) :
    Calls Try.prog 15 #[.slice A es.length c] w (LendEOut w es) := by
  have HE := Lib.hid hE
  have HPL := Lib.hid hpl
  clear hE hpl
  go_enter Try.func15, Try.ntmps15
  go_wp2_with fail
  go_loopw [3, 4] (fun o i wr => ∃ (k : Nat) (lv : List EdV) (A' : Option Addr) (c' : Nat), k ≤ es.length ∧ i = .int .i64 (k : Int) ∧ o = .slice A' lv.length c' ∧ lv.map (·.1) = es.take k ∧ LendSt w lv (.slice A' lv.length c') wr) (fun _ i _ => es.length - (intOf i).toNat)
  case atStart => exact ⟨0, [], none, 0, Nat.zero_le _, rfl, rfl, by simp, World.ownsRow_nil _ _ _ _, by simp, Below.refl _ _⟩
  case round =>
    obtain ⟨k, lv, A', c', hk, rfl, rfl, hlv, hst⟩ := hrel
    have hll : lv.length = k := by have := congrArg List.length hlv; rw [List.length_map, List.length_take] at this; omega
    have HST := Lib.hid hst
    have HLV := Lib.hid hlv
    have HLL := Lib.hid hll
    have hlb : lv.length ≤ 2000000 := by omega
    by_cases hlt : k < es.length
    · have hEw := (HE.out.below hst.below (Nat.le_refl _))
      obtain ⟨eb, eo, eA, _, hel, k1, k2, PA, pc, k3, hpc, hpt⟩ := hEw.at_ hlt
      have hpl1 := HPL.out _ (List.getElem_mem hlt)
      have hx := List.getElem?_eq_getElem hlt
      generalize es[k]'hlt = E at *
      subst eA
      have HX := Lib.hid hx
      have hsz := hst.below.size
      have HLT := Lib.hid (lendTexts_any PA pc E.put (wr.drew) (hpt.wide (Nat.le_refl _) hsz) hpl1)
      have hki : (k : Int) < (es.length : Int) := by omega
      clear hst hlv hll hEw hpt hx
      go_wp2_with fail
      have helw : eb < wr.heap.size := by omega
      have hvne : ∀ x, (Value.slice A' lv.length c').ownBlock = some x → w.heap.size ≤ x := fun x hx => (HST.out.own.lt x hx).1
      have hne : (Value.slice A' lv.length c').ownBlock ≠ some eb := fun e => by have := hvne eb e; omega
      have HNE := Lib.hid hne
      obtain ⟨i0, z0, hT1, hi0, hz0, hz1, hzb, hz4, hz5⟩ := edE
      have HEE := Lib.hid (And.intro hi0 (And.intro hz0 (And.intro hz1 (And.intro hzb hz4))))
      clear hvne hne hi0 hz0 hz1 hzb hz4 hT1
      go_region_held3 (fun w' => w'.cell? ⟨eb, eo + k * 3, none⟩ = some (.int .i64 E.keep) ∧ w'.cell? ⟨eb, eo + k * 3 + 1, none⟩ = some (.int .i64 E.drop) ∧ w'.cell? ⟨eb, eo + k * 3 + 2, none⟩ = some (.slice PA E.put.length pc))
        (first
          | go_keep
          | exact ⟨f0, f1, f2⟩
          | exact ⟨h0 _, h1 _, h2 _⟩
          | exact ⟨m0, m1, m2⟩)
        (first
          | (go_simp; go_at_call 32; refine HLT.out.mono ?_; rintro e w1 ⟨g, cg, rfl, hl1, hb1⟩; have HL1 := Lib.hid hl1; have HB1 := Lib.hid (show Below wr.heap.size wr w1 from ⟨hb1.os, hb1.tape, hb1.output, hb1.size, hb1.block⟩); have hz1 := HB1.out.size; have f0 := (HB1.out.cell (p := ⟨eb, eo + k * 3, none⟩) helw).trans k1; have f1 := (HB1.out.cell (p := ⟨eb, eo + k * 3 + 1, none⟩) helw).trans k2; have f2 := (HB1.out.cell (p := ⟨eb, eo + k * 3 + 2, none⟩) helw).trans k3; have h0 := fun o => (cell_alloc w1 o ⟨eb, eo + k * 3, none⟩ (by simp; omega)).trans f0; have h1 := fun o => (cell_alloc w1 o ⟨eb, eo + k * 3 + 1, none⟩ (by simp; omega)).trans f1; have h2 := fun o => (cell_alloc w1 o ⟨eb, eo + k * 3 + 2, none⟩ (by simp; omega)).trans f2; clear hl1 hb1)
          | (refine step_append_lies _ (by rfl) _ _ _ (by rfl) w.heap.size 43 i0 z0 3 40 Try.underlying22 HEE.out.1 HEE.out.2.1 HEE.out.2.2.1 HEE.out.2.2.2.1 HEE.out.2.2.2.2 (by omega) (.slice A' lv.length c') lv.length (edsCells lv) (by rfl) ((own_below HST.out.own HB1.out).alloc _) ⟨w1.heap.size, 0, none⟩ 1 1 [.int .i64 E.keep, .int .i64 E.drop, .slice (some ⟨g, 0, none⟩) E.put.length cg] (by rfl) (by rfl) (World.news_of_block (cs := #[.int .i64 E.keep, .int .i64 E.drop, .slice (some ⟨g, 0, none⟩) E.put.length cg]) (t := 43) (fr := (0, 0)) (heap_alloc_new w1 _)) (by simp [Value.oneCell']) (by omega) (by unfold maxLen; omega) (by omega) (by simp; omega) (w1.heap.size + 1) (by simp) ?_; intro g2 cap2 w2 hown2 hgrow hat hlt2; have HO2 := Lib.hid hown2; have HG2 := Lib.hid hgrow; have m0 := (hgrow.cell_far ⟨eb, eo + k * 3, none⟩ (by simp; omega) (Ne.symm HNE.out)).trans (h0 _); have m1 := (hgrow.cell_far ⟨eb, eo + k * 3 + 1, none⟩ (by simp; omega) (Ne.symm HNE.out)).trans (h1 _); have m2 := (hgrow.cell_far ⟨eb, eo + k * 3 + 2, none⟩ (by simp; omega) (Ne.symm HNE.out)).trans (h2 _); clear hown2 hgrow))
      clear h0 h1 h2 f0 f1 f2 m0 m1 m2
      go_wp2_with fail
      have HST2 := Lib.hid (HST.out.push HB1.out _ E (own_low HL1.out hsz) HO2.out HG2.out)
      go_roundw
      case rel => exact ⟨k + 1, lv ++ [(E, .slice (some ⟨g, 0, none⟩) E.put.length cg)], some ⟨g2, 0, none⟩, cap2, by omega, by go_num, by simp, by rw [List.map_append, HLV.out, List.take_add_one, HX.out]; rfl, by rw [List.length_append]; exact HST2.out⟩
      case measure => simp [intOf]; omega
    · have hke : k = es.length := by omega
      have hki : (es.length : Int) ≤ (k : Int) := by omega
      have HKE := Lib.hid hke
      clear hke hst hlv hll
      have e1 : lv.length = es.length := by rw [HLL.out, HKE.out]
      have E1 := Lib.hid e1
      clear e1
      go_wp2_with fail
      go_ret
      have e1 := E1.out
      exact ⟨lv, A', c', by rw [← e1]; rfl, by rw [HLV.out, HKE.out, List.take_length], by have := HST.out; rw [e1] at this; exact this⟩
end Go.Proofs.Ytakolehlaejhfaa
