/- Package layout: do, suffix; all kinds (printed by gen_do2.py). -/
import Derived.Test.YthljgiimdcbfpaaDoorMDoH
import Derived.Test.YthljgiimdcbfpaaDoorMFill
import Derived.Test.YthljgiimdcbfpaaDoorMDoD
import Derived.Defers
import Derived.Recover
import Derived.Laws.BytesArg
namespace Go.Proofs.YthljgiimdcbfpaaDoor
section
open Go.RowKit
set_option maxRecDepth 100000
set_option linter.unusedVariables false
set_option linter.unusedSimpArgs false

set_option maxHeartbeats 16000000 in
theorem do_suffix {B0 b mb : Nat} {ov : OptV} {s : MS} {w : World} (h : MAt B0 b mb ov s w) {ind : Ind} {p : Option Addr} (hi : IndAt w (s.F b mb w) ind p) (flat : Bool) {d : Doc} {a : Addr} (hd : DocAt w B0 (s.F b mb w) d a) (hok : CmOk ind d) (hk : d.kind = 14) (hw : s.weight + d.wt ≤ 8388608) :
    Calls Tryd.prog 37 #[.pointer (some ⟨b, 0, none⟩), .agg #[.pointer p, .bool flat, .pointer (some a)]] w fun e w' => Ends B0 b mb ov s w (doM ov.o s.mach ⟨ind, flat, d⟩) e w' := by
  obtain ⟨g, off, kv, rfl, hFg, h6, hkv⟩ := hd
  obtain ⟨A, cap, hkvs⟩ := hkv.slice
  rw [hkvs] at hkv
  obtain ⟨hn0, hnc, kg, koff, hA, hds⟩ := docs_kids h hkv
  have hnl := kids_len_bulk hok.bulk
  have hbW : Below w.heap.size w (w.alloc (.cells #[.pointer p, .bool flat, .pointer (some ⟨g, off, none⟩)] 69)) := (Below.refl _ w).alloc (Nat.le_refl _) _
  have hcW : Blk (w.alloc (.cells #[.pointer p, .bool flat, .pointer (some ⟨g, off, none⟩)] 69)) w.heap.size [.pointer p, .bool flat, .pointer (some ⟨g, off, none⟩)] 69 := Blk.new' (W := w) _ _ rfl
  obtain ⟨W, hW⟩ : ∃ W, W = w.alloc (.cells #[.pointer p, .bool flat, .pointer (some ⟨g, off, none⟩)] 69) := ⟨_, rfl⟩
  rw [← hW] at hbW hcW
  have hgl : g < w.heap.size := hFg.1
  have k0 := (hbW.cell (p := ⟨g, off, none⟩) hgl).trans h6.kind
  have k2 := (hbW.cell (p := ⟨g, off + 2, none⟩) hgl).trans h6.kids
  rw [hk] at k0
  rw [hkvs] at k2
  have HFA : Hid (FAt B0 b mb ov s w p s W) := Lib.hid { m := h.below hbW, g := Goes.of_below hbW, x := hcW.cell 0, lt := hcW.lt, nx := fun hx => by have := h.X_lt hx; omega }
  have x0 := hcW.cell 0
  have x1 := hcW.cell 1
  have x2 := hcW.cell 2
  simp only [List.getElem?_cons_zero, List.getElem?_cons_succ] at x0 x1 x2
  have hWs := hcW.lt
  have HWW := Lib.hid hW
  have HM := Lib.hid h
  have HI := Lib.hid hi
  have HOK := Lib.hid hok
  have HDS := Lib.hid hds
  have HBW := Lib.hid hbW
  have HWT := Lib.hid hw
  have HK := Lib.hid hk
  have HA := Lib.hid hA
  have HFG := Lib.hid hFg
  have hn1 := kids_14 hok.shape hk
  obtain rfl := hA (by omega)
  rw [hn1] at k2
  have hgW : g < W.heap.size := Nat.lt_of_lt_of_le hgl hbW.size
  have HX : Hid (¬ s.X b mb w.heap.size) := Lib.hid HFA.out.nx
  have HWB := Lib.hid (wide_bound hok)
  have HSZ := Lib.hid hbW.size
  have HN1 := Lib.hid hn1
  have HR : Hid (doM ov.o s.mach ⟨ind, flat, d⟩ = some { s.mach with put := s.mach.put ++ [⟨ind, flat, d.kids[0]⟩] }) := Lib.hid (by
    have h0 : [(⟨ind, flat, d.kids[0]⟩ : Cmd)] = (kid0 d.kids).map fun d => ⟨ind, flat, d⟩ := by rw [kid0_nth (by omega)]; rfl
    rw [h0]
    cases d
    simp only [Doc.kind] at hk
    subst hk
    rfl)
  have HGOOD : Hid (Good W B0 (s.F b mb W) ⟨ind, flat, d.kids[0], p, ⟨kg, koff, none⟩⟩) := Lib.hid ⟨hok.kid (List.getElem_mem _), HFA.out.g.ind hi, HM.out.doc_goes HFA.out.g (by have := (docs_nth hds 0 (by omega)).2 0 (by simp) (by simp); simpa using this)⟩
  have HWK : Hid (s.weight + (d.kids[0]).wt ≤ 16777216) := Lib.hid (by have := wt_nth d 0 (by omega); simp only [wtL, List.map_cons, List.map_nil, List.sum_cons, List.sum_nil] at this; omega)
  have hatm := HFA.out.m
  have c12 := hatm.cells.2.2.2.2.2.2.1
  have f12 := hatm.blk.frozen 12
  obtain ⟨A2, c2, hvp⟩ := own_slice hatm.put
  have hneb : s.vp.ownBlock ≠ some b := fun e => (hatm.ne.2.2.2 b e).1 rfl
  have hneg : s.vp.ownBlock ≠ some g := fun e => hFg.2 (.inr (.inr (.inr (.inr e))))
  have hnew : s.vp.ownBlock ≠ some w.heap.size := fun e => HFA.out.nx (.inr (.inr (.inr (.inr e))))
  have hpl := stk_len hatm
  have hlow := hatm.low
  have hbl := hatm.blk.lt
  have HST := Lib.hid hatm.put
  rw [hvp] at c12 hneb hneg hnew
  have HNB := Lib.hid hneb
  have HNG := Lib.hid hneg
  have HNE := Lib.hid hnew
  have HVP := Lib.hid hvp
  obtain ⟨i0, hi0, hz0, hs0, hb0⟩ := info_cmd
  have HE := Lib.hid (And.intro hi0 (And.intro hz0 (And.intro hs0 hb0)))
  clear hatm hneb hneg hnew hvp hi0 hz0 hs0 hb0
  clear h hi hok hds hbW hW hw hcW h6 hkv hFg hkvs hn0 hk hnc
  go_enter Tryd.func37, Tryd.ntmps37
  go_upto_region 1 with fail
  rw [← HWW.out]
  go_upto_region 36 with fail
  refine wp_region_chain2 (fun w' => (w'.heap[w.heap.size]? = W.heap[w.heap.size]? ∧ w'.heap[g]? = W.heap[g]?) ∧ w'.cell? ⟨b, 12, none⟩ = some (.slice A2 s.put.length c2)) 14 5 _ (by kernel_rfl) rfl (by kernel_rfl) (by kernel_rfl) (by intro _ _ d _ _ h; cases d <;> exact h) ⟨⟨rfl, rfl⟩, c12⟩ ?_
  simp only [List.take_succ_cons, List.take_zero, List.drop_succ_cons, List.drop_zero, List.cons_append, List.nil_append]
  repeat (refine wpHeld_step rfl ?_; apply Exists.intro; refine ⟨fun wq hq' => ?_, ?_⟩; (obtain ⟨hq, qc⟩ := hq'; have qx0 := (World.cell?_of_block (a := ⟨w.heap.size, 0, none⟩) hq.1).trans x0; have qx1 := (World.cell?_of_block (a := ⟨w.heap.size, 1, none⟩) hq.1).trans x1; have qx2 := (World.cell?_of_block (a := ⟨w.heap.size, 2, none⟩) hq.1).trans x2; have qk2 := (World.cell?_of_block (a := ⟨g, off + 2, none⟩) hq.2).trans k2; go_simp; first | done | rfl); simp only [Act.put, List.setIfInBounds_toArray, List.set_cons_zero, List.set_cons_succ])
  change wpSeq _ _ _ _ _ _ _
  refine wpSeq_step rfl (fun K hK => ?_)
  go_simp
  refine hK _ _ ⟨⟨rfl, rfl⟩, c12⟩ ?_
  clear hK K
  try simp only [Act.put, List.setIfInBounds_toArray, List.set_cons_zero, List.set_cons_succ]
  refine wpSeq_step rfl (fun K hK => ?_)
  go_simp
  have d12 := fun o => (alloc_cell W.drew o ⟨b, 12, none⟩ hbl).trans c12
  have df := fun o => (alloc_frozen W.drew o ⟨b, 12, none⟩ hbl).trans f12
  have hba : Below W.heap.size W (W.drew.alloc (.cells #[.pointer p, .bool flat, .pointer (some ⟨kg, koff, none⟩)] 69)) := (Below.refl _ W).drew.alloc (Nat.le_refl _) _
  refine hK _ _ ⟨⟨hba.block _ hWs, hba.block _ hgW⟩, d12 _⟩ ?_
  clear hK K
  try simp only [Act.put, List.setIfInBounds_toArray, List.set_cons_zero, List.set_cons_succ]
  refine wpSeq_step rfl (fun K hK => ?_)
  refine wp_append_lies _ _ _ 62 rfl B0 69 i0 (.agg #[.pointer none, .bool false, .pointer none]) 3 24 Tryd.underlying62 HE.out.1 HE.out.2.1 HE.out.2.2.1 HE.out.2.2.2 rfl (by omega) (.slice A2 s.put.length c2) s.put.length (cmCells s.put) rfl (by rw [← HVP.out]; exact own_below HST.out ((Below.refl _ W).drew.alloc (Nat.le_refl _) _)) ⟨W.heap.size, 0, none⟩ 1 1 [.pointer p, .bool flat, .pointer (some ⟨kg, koff, none⟩)] rfl rfl (World.news_of_block (cs := #[.pointer p, .bool flat, .pointer (some ⟨kg, koff, none⟩)]) (t := 69) (fr := (0, 0)) (heap_alloc_new W.drew _)) (by simp [Value.oneCell']) (by omega) (by unfold maxLen; omega) (by omega) (by simp; omega) (W.heap.size + 1) (by simp) ?_
  intro gg cap' w2 hown1 hgrow hat hlt
  have e12 := (hgrow.cell_far ⟨b, 12, none⟩ (by simp; omega) (Ne.symm HNB.out)).trans (d12 _)
  have ef := (hgrow.frozen_far ⟨b, 12, none⟩ (by simp; omega) (Ne.symm HNB.out)).trans (df _)
  have eb1 := (hgrow.block w.heap.size (by simp; omega) (Ne.symm HNE.out)).trans (hba.block _ hWs)
  have eb2 := (hgrow.block g (by simp; omega) (Ne.symm HNG.out)).trans (hba.block _ hgW)
  refine hK _ _ ⟨⟨eb1, eb2⟩, e12⟩ ?_
  clear hK K
  try simp only [Act.put, List.setIfInBounds_toArray, List.set_cons_zero, List.set_cons_succ]
  refine wpSeq_step rfl (fun K hK => ?_)
  go_simp
  refine hK _ _ ⟨⟨eb1, eb2⟩, e12⟩ ?_
  clear hK K
  try simp only [Act.put, List.setIfInBounds_toArray, List.set_cons_zero, List.set_cons_succ]
  refine wpSeq_step rfl (fun K hK => ?_)
  go_simp
  refine hK _ _ ⟨⟨eb1, eb2⟩, e12⟩ ?_
  clear hK K
  try simp only [Act.put, List.setIfInBounds_toArray, List.set_cons_zero, List.set_cons_succ]
  change Oper.wp _ _ _ _ _ _
  go_simp
  have HO1 := Lib.hid hown1
  have HG := Lib.hid hgrow
  have HAP := Lib.hid hat
  clear hown1 hgrow hat d12 df hba eb1 eb2
  go_wp2_with fail
  have hone := put_one HFA.out.m HFA.out.g ⟨ind, flat, d.kids[0], p, ⟨kg, koff, none⟩⟩ HGOOD.out HWK.out (gg := gg) (cap := cap') (W' := w2) HO1.out (by rw [HVP.out]; exact HG.out) (by rw [HVP.out]; simpa using HAP.out)
  obtain ⟨s', m1, m2, m3⟩ := hone
  have M1 := Lib.hid m1
  have M2 := Lib.hid m2
  have M3 := Lib.hid m3
  clear m1 m2 m3
  go_wp2_with fail
  go_end0
  rw [HR.out]
  exact ⟨rfl, s', M1.out, M2.out, M3.out⟩

theorem kind_bound {d : Doc} (hs : d.shape = true) : 1 ≤ d.kind ∧ d.kind ≤ 16 := by
  rw [Doc.shape_eq, Bool.and_eq_true] at hs
  have := hs.1
  unfold Doc.formed at this
  generalize d.kind = k at *
  by_cases h1 : 1 ≤ k ∧ k ≤ 16
  · exact h1
  · exfalso
    unfold formedF at this
    rw [if_neg (by omega), if_neg (by omega), if_neg (by omega), if_neg (by omega), if_neg (by omega), if_neg (by omega), if_neg (by omega), if_neg (by omega), if_neg (by omega), if_neg (by omega)] at this
    cases this
/-- do: what a command does. -/
theorem do_is {B0 b mb : Nat} {ov : OptV} {s : MS} {w : World} (h : MAt B0 b mb ov s w) {ind : Ind} {p : Option Addr} (hi : IndAt w (s.F b mb w) ind p) (flat : Bool) {d : Doc} {a : Addr} (hd : DocAt w B0 (s.F b mb w) d a) (hok : CmOk ind d) (hw : s.weight + d.wt ≤ 8388608) (hcol : s.col ≤ 1000000000000 + (s.out.length : Int)) :
    Calls Tryd.prog 37 #[.pointer (some ⟨b, 0, none⟩), .agg #[.pointer p, .bool flat, .pointer (some a)]] w fun e w' => Ends B0 b mb ov s w (doM ov.o s.mach ⟨ind, flat, d⟩) e w' := by
  obtain ⟨h1, h2⟩ := kind_bound hok.shape
  by_cases hk1 : d.kind = 1
  · exact do_text h hi flat hd hok hk1 hw hcol
  by_cases hk2 : d.kind = 2
  · exact do_concat h hi flat hd hok hk2 hw
  by_cases hk3 : d.kind = 3
  · exact do_line h hi flat hd hok hk3 hw hcol
  by_cases hk4 : d.kind = 4
  · exact do_soft h hi flat hd hok hk4 hw
  by_cases hk5 : d.kind = 5
  · exact do_hard h hi flat hd hok hk5 hw
  by_cases hk6 : d.kind = 6
  · exact do_literal h hi flat hd hok hk6 hw
  by_cases hk7 : d.kind = 7
  · exact do_group h hi flat hd hok hk7 hw
  by_cases hk8 : d.kind = 8
  · exact do_cond h hi flat hd hok hk8 hw
  by_cases hk9 : d.kind = 9
  · exact do_fill h hi flat hd hok hk9 hw
  by_cases hk10 : d.kind = 10
  · exact do_ifbreak h hi flat hd hok hk10 hw
  by_cases hk11 : d.kind = 11
  · exact do_indent h hi flat hd hok hk11 hw
  by_cases hk12 : d.kind = 12
  · exact do_indentif h hi flat hd hok hk12 hw
  by_cases hk13 : d.kind = 13
  · exact do_align h hi flat hd hok hk13 hw
  by_cases hk14 : d.kind = 14
  · exact do_suffix h hi flat hd hok hk14 hw
  by_cases hk15 : d.kind = 15
  · exact do_boundary h hi flat hd hok hk15 hw
  exact do_break h hi flat hd hok (by omega) hw
end

section
open Go.RowKit
set_option maxRecDepth 100000
set_option linter.unusedVariables false
set_option linter.unusedSimpArgs false

/-! ### The measure -/
def Mach.meas (m : Mach) : Nat := wtC m.stk + (wtC m.put + m.put.length)
theorem wtC_cons (c : Cmd) (l : List Cmd) : wtC (c :: l) = c.d.wt + wtC l := by simp [wtC]
theorem wtC_map (ind : Ind) (fl : Bool) (ds : List Doc) : wtC (ds.map fun d => ⟨ind, fl, d⟩) = wtL ds := by
  unfold wtC wtL
  rw [List.map_map]
  rfl
theorem wtL_nodes (ks : List Doc) : wtL ks + ks.length = 2 * nodesL ks := by
  induction ks with
  | nil => rfl
  | cons a l ih =>
    have := a.nodes_pos
    rw [wtL_cons, List.length_cons]
    simp only [nodesL]
    unfold Doc.wt
    omega
theorem wt_all (d : Doc) : wtL d.kids + d.kids.length + 1 = d.wt := by
  have h1 := wtL_nodes d.kids
  have h2 := Doc.nodes_eq d
  unfold Doc.wt
  omega
theorem wt_ge1 (d : Doc) : 1 ≤ d.wt := by have := wt_all d; omega
theorem push_meas (m : Mach) (ind : Ind) (fl : Bool) (ds : List Doc) : (pushM m ind fl ds).meas = m.meas + wtL ds := by
  unfold Mach.meas pushM
  show wtC (ds.map (fun d => ⟨ind, fl, d⟩) ++ m.stk) + (wtC m.put + m.put.length) = _
  rw [wtC_app, wtC_map]
  omega
theorem flush_meas (m : Mach) : (flushM m).meas + m.put.length = m.meas := by
  unfold Mach.meas flushM
  show wtC (m.put ++ m.stk) + (wtC [] + 0) + m.put.length = _
  rw [wtC_app]
  have : wtC [] = 0 := rfl
  omega
theorem put_meas {m m1 : Mach} {l : Ln} (h : putM m l = some m1) : m1 = { m with out := m.out ++ l } ∧ m.out.length + l.length ≤ 67108864 := by
  unfold putM at h
  split at h
  · cases h
  · rename_i hn
    injection h with h
    exact ⟨h.symm, by omega⟩
theorem ind_meas (o : Opt) : ∀ (i : Ind) (m m1 : Mach), indM o i m = some m1 → m1 = { m with out := m.out ++ indB o i } ∧ (m.out ++ indB o i).length ≤ max m.out.length 67108864
  | [], m, m1, h => by
    injection h with h
    subst h
    refine ⟨by unfold indB; simp, by unfold indB; simp; omega⟩
  | x :: r, m, m1, h => by
    unfold indM at h
    cases h2 : indM o r m with
    | none => rw [h2] at h; cases h
    | some m2 =>
      rw [h2] at h
      have h3 : putM m2 (stepB o x) = some m1 := h
      obtain ⟨e1, e2⟩ := put_meas h3
      obtain ⟨e3, e4⟩ := ind_meas o r m m2 h2
      subst e1
      subst e3
      have ei : indB o (x :: r) = indB o r ++ stepB o x := rfl
      rw [ei]
      refine ⟨by show (⟨(m.out ++ indB o r) ++ stepB o x, m.col, m.stk, m.put, m.brk⟩ : Mach) = ⟨m.out ++ (indB o r ++ stepB o x), m.col, m.stk, m.put, m.brk⟩; rw [List.append_assoc], ?_⟩
      have e5 : (m.out ++ indB o r).length + (stepB o x).length ≤ 67108864 := e2
      simp only [List.length_append] at e5 ⊢
      omega
/-- What a line's end comes to. -/
theorem line_meas {o : Opt} {m m1 : Mach} {c : Cmd} (h : lineM o m c = some m1) : m1.meas < m.meas + c.d.wt := by
  have hw := wt_ge1 c.d
  unfold lineM at h
  split at h
  · rename_i hp
    injection h with h
    subst h
    have h1 := flush_meas { m with stk := c :: m.stk }
    have h2 : ({ m with stk := c :: m.stk } : Mach).meas = c.d.wt + m.meas := by
      show wtC (c :: m.stk) + (wtC m.put + m.put.length) = c.d.wt + (wtC m.stk + (wtC m.put + m.put.length))
      rw [wtC_cons]
      omega
    have h3 : 1 ≤ m.put.length := by
      cases hh : m.put with
      | nil => exact absurd hh hp
      | cons a l => simp
    have h4 : (flushM { m with stk := c :: m.stk }).meas + m.put.length = ({ m with stk := c :: m.stk } : Mach).meas := h1
    clear h1
    omega
  · split at h
    · rw [Option.map_eq_some_iff] at h
      obtain ⟨m2, h1, h2⟩ := h
      obtain ⟨rfl, _⟩ := put_meas h1
      subst h2
      show m.meas < _
      omega
    · obtain ⟨m2, h1, h2⟩ := Option.bind_eq_some_iff.1 h
      rw [Option.map_eq_some_iff] at h2
      obtain ⟨m3, h3, h4⟩ := h2
      obtain ⟨rfl, _⟩ := put_meas h1
      obtain ⟨rfl, _⟩ := ind_meas _ _ _ _ h3
      subst h4
      show m.meas < _
      omega
theorem kid0_sub (ks : List Doc) : (kid0 ks).Sublist ks := List.take_sublist _ _
theorem kid1_sub (ks : List Doc) : (kid1 ks).Sublist ks := (List.take_sublist _ _).trans (List.drop_sublist _ _)
theorem last_sub (ks : List Doc) : ((ks.getLast?).toList).Sublist ks := by
  cases h : ks.getLast? with
  | none => simp
  | some x =>
    have := List.mem_of_getLast? h
    simpa using this
theorem pick_mem (o : Opt) (m : Mach) : ∀ (ks : List Doc) (x : Doc), pickD o m ks = some x → x ∈ ks
  | [], x, h => by cases h
  | [d], x, h => by
    injection h with h
    simp [h]
  | d :: e :: ds, x, h => by
    unfold pickD at h
    split at h
    · injection h with h
      simp [h]
    · have := pick_mem o m (e :: ds) x h
      exact List.mem_cons_of_mem _ this
/-- Which kid a conditional group pushes. -/
theorem cond_push (o : Opt) (m : Mach) (ind : Ind) (b : Bool) (ks : List Doc) : ∃ fl ds, condM o m ind b ks = pushM m ind fl ds ∧ ds.Sublist ks := by
  cases ks with
  | nil => exact ⟨false, [], rfl, List.Sublist.refl _⟩
  | cons a l =>
    rw [condM_cons]
    split
    · exact ⟨_, _, rfl, last_sub _⟩
    · split
      · exact ⟨_, _, rfl, by simp⟩
      · refine ⟨_, _, rfl, ?_⟩
        split
        · simp
        · cases hp : pickD o m l with
          | none => simp
          | some x =>
            have := pick_mem o m l x hp
            simp [this]
theorem fill_meas (o : Opt) (m : Mach) (ind : Ind) (ks : List Doc) : (fillM o m ind ks).meas ≤ m.meas + (wtL ks + ks.length) := by
  match ks with
  | [] => simp [fillM]
  | [a] =>
    show (pushM m ind _ [a]).meas ≤ _
    rw [push_meas]
    omega
  | a :: b :: l =>
    show (pushM (pushM (pushM m ind false [fillD l]) ind _ [b]) ind _ [a]).meas ≤ _
    rw [push_meas, push_meas, push_meas]
    have h1 := wt_all (fillD l)
    have h2 : (fillD l).kids = l := rfl
    rw [h2] at h1
    have e1 : wtL [a] = a.wt := by simp [wtL]
    have e2 : wtL [b] = b.wt := by simp [wtL]
    have e3 : wtL [fillD l] = (fillD l).wt := by simp [wtL]
    have e4 : wtL (a :: b :: l) = a.wt + (b.wt + wtL l) := by rw [wtL_cons, wtL_cons]
    rw [e1, e2, e3, e4]
    simp only [List.length_cons]
    omega
theorem doc_is (d : Doc) : d = .mk d.kind d.text d.kids d.brk d.id d.width := by cases d; rfl
/-- doM with a document's fields. -/
theorem doM_eq (o : Opt) (m : Mach) (c : Cmd) : doM o m c =
    if c.d.kind = 1 then (putM m c.d.text.data.toList).map fun m1 => { m1 with col := m1.col + (widthB c.d.text : Int) }
    else if c.d.kind = 2 then some (pushM m c.ind c.flat c.d.kids)
    else if c.d.kind = 11 then some (pushM m ((true, o.tab) :: c.ind) c.flat (kid0 c.d.kids))
    else if c.d.kind = 13 then some (pushM m ((false, c.d.width) :: c.ind) c.flat (kid0 c.d.kids))
    else if c.d.kind = 12 then some (pushM m (if m.brk c.d.id then (true, o.tab) :: c.ind else c.ind) c.flat (kid0 c.d.kids))
    else if c.d.kind = 7 then
      some (pushM { m with brk := if 0 < c.d.id then (fun j => if j = c.d.id then !(c.flat || (!c.d.brk && fitsM o m true false (kid0 c.d.kids))) else m.brk j) else m.brk } c.ind (c.flat || (!c.d.brk && fitsM o m true false (kid0 c.d.kids))) (kid0 c.d.kids))
    else if c.d.kind = 8 then some (if c.flat then pushM m c.ind true (kid0 c.d.kids) else condM o m c.ind c.d.brk c.d.kids)
    else if c.d.kind = 9 then some (if c.flat then pushM m c.ind true c.d.kids else fillM o m c.ind c.d.kids)
    else if c.d.kind = 10 then some (pushM m c.ind c.flat (if modeB m.brk c.d.id c.flat then kid1 c.d.kids else kid0 c.d.kids))
    else if c.d.kind = 14 then some { m with put := m.put ++ (kid0 c.d.kids).map fun d => ⟨c.ind, c.flat, d⟩ }
    else if c.d.kind = 15 then (if m.put ≠ [] then lineM o m ⟨c.ind, c.flat, hardDoc⟩ else some m)
    else if c.d.kind = 3 ∨ c.d.kind = 4 then
      (if c.flat then (if c.d.kind = 3 then (putM m [32]).map fun m1 => { m1 with col := m1.col + 1 } else some m) else lineM o m c)
    else if c.d.kind = 5 ∨ c.d.kind = 6 then lineM o m c
    else some m := by
  obtain ⟨ind, fl, d⟩ := c
  cases d
  rfl
theorem doM_meas {o : Opt} {m m1 : Mach} {c : Cmd} (h : doM o m c = some m1) : m1.meas < m.meas + c.d.wt := by
  have hw := wt_ge1 c.d
  have ha := wt_all c.d
  have h0 := wtL_sub (kid0_sub c.d.kids)
  have h1 := wtL_sub (kid1_sub c.d.kids)
  rw [doM_eq] at h
  by_cases k0 : c.d.kind = 1
  · rw [if_pos k0] at h
    rw [Option.map_eq_some_iff] at h
    obtain ⟨m2, h1, h2⟩ := h
    obtain ⟨rfl, _⟩ := put_meas h1
    subst h2
    show m.meas < _
    omega
  rw [if_neg k0] at h
  by_cases k1 : c.d.kind = 2
  · rw [if_pos k1] at h
    injection h with h; subst h; rw [push_meas]; omega
  rw [if_neg k1] at h
  by_cases k2 : c.d.kind = 11
  · rw [if_pos k2] at h
    injection h with h; subst h; rw [push_meas]; omega
  rw [if_neg k2] at h
  by_cases k3 : c.d.kind = 13
  · rw [if_pos k3] at h
    injection h with h; subst h; rw [push_meas]; omega
  rw [if_neg k3] at h
  by_cases k4 : c.d.kind = 12
  · rw [if_pos k4] at h
    injection h with h; subst h; rw [push_meas]; omega
  rw [if_neg k4] at h
  by_cases k5 : c.d.kind = 7
  · rw [if_pos k5] at h
    injection h with h; subst h; rw [push_meas]; show m.meas + _ < _; omega
  rw [if_neg k5] at h
  by_cases k6 : c.d.kind = 8
  · rw [if_pos k6] at h
    injection h with h
    subst h
    split
    · rw [push_meas]; omega
    · obtain ⟨fl, ds, e, hs⟩ := cond_push o m c.ind c.d.brk c.d.kids
      have := wtL_sub hs
      rw [e, push_meas]
      omega
  rw [if_neg k6] at h
  by_cases k7 : c.d.kind = 9
  · rw [if_pos k7] at h
    injection h with h
    subst h
    split
    · rw [push_meas]; omega
    · have := fill_meas o m c.ind c.d.kids
      omega
  rw [if_neg k7] at h
  by_cases k8 : c.d.kind = 10
  · rw [if_pos k8] at h
    injection h with h
    subst h
    rw [push_meas]
    split <;> omega
  rw [if_neg k8] at h
  by_cases k9 : c.d.kind = 14
  · rw [if_pos k9] at h
    injection h with h
    subst h
    have e1 : (kid0 c.d.kids).length ≤ c.d.kids.length := (kid0_sub _).length_le
    unfold Mach.meas
    show wtC m.stk + (wtC (m.put ++ _) + (m.put ++ _).length) < _
    rw [wtC_app, wtC_map, List.length_append, List.length_map]
    omega
  rw [if_neg k9] at h
  by_cases k10 : c.d.kind = 15
  · rw [if_pos k10] at h
    split at h
    · have := line_meas h
      have e0 : hardDoc.wt = 1 := by decide +kernel
      have e : (⟨c.ind, c.flat, hardDoc⟩ : Cmd).d.wt = 1 := e0
      omega
    · injection h with h; subst h; omega
  rw [if_neg k10] at h
  by_cases k11 : c.d.kind = 3 ∨ c.d.kind = 4
  · rw [if_pos k11] at h
    split at h
    · split at h
      · rw [Option.map_eq_some_iff] at h
        obtain ⟨m2, h1, h2⟩ := h
        obtain ⟨rfl, _⟩ := put_meas h1
        subst h2
        show m.meas < _
        omega
      · injection h with h; subst h; omega
    · exact line_meas h
  rw [if_neg k11] at h
  by_cases k12 : c.d.kind = 5 ∨ c.d.kind = 6
  · rw [if_pos k12] at h
    exact line_meas h
  · rw [if_neg k12] at h
    injection h with h; subst h; omega

/-! ### The column -/
def ColOk (m : Mach) : Prop := m.col ≤ 1000000000000 + (m.out.length : Int)
theorem push_col {m : Mach} {ind : Ind} {fl : Bool} {ds : List Doc} (h : ColOk m) : ColOk (pushM m ind fl ds) := h
theorem fill_col {o : Opt} {m : Mach} {ind : Ind} {ks : List Doc} (h : ColOk m) : ColOk (fillM o m ind ks) := by
  match ks with
  | [] => exact h
  | [a] => exact h
  | a :: b :: l => exact h
theorem line_col {o : Opt} {m m1 : Mach} {c : Cmd} (hw : Ind.wide c.ind ≤ 1000000000000) (hc : ColOk m) (h : lineM o m c = some m1) : ColOk m1 := by
  unfold lineM at h
  split at h
  · injection h with h; subst h; exact hc
  · split at h
    · rw [Option.map_eq_some_iff] at h
      obtain ⟨m2, h1, h2⟩ := h
      subst h2
      unfold ColOk
      show (0 : Int) ≤ _
      omega
    · obtain ⟨m2, h1, h2⟩ := Option.bind_eq_some_iff.1 h
      rw [Option.map_eq_some_iff] at h2
      obtain ⟨m3, h3, h4⟩ := h2
      subst h4
      unfold ColOk
      show Ind.wide c.ind ≤ _
      omega
theorem doM_col {o : Opt} {m m1 : Mach} {c : Cmd} (hw : Ind.wide c.ind ≤ 1000000000000) (hc : ColOk m) (h : doM o m c = some m1) : ColOk m1 := by
  rw [doM_eq] at h
  by_cases k0 : c.d.kind = 1
  · rw [if_pos k0] at h
    rw [Option.map_eq_some_iff] at h
    obtain ⟨m2, h1, h2⟩ := h
    obtain ⟨rfl, _⟩ := put_meas h1
    subst h2
    have e1 := widthB_le c.d.text
    have e2 : c.d.text.size = c.d.text.data.toList.length := by simp
    unfold ColOk at *
    simp only [List.length_append]
    omega
  rw [if_neg k0] at h
  by_cases k1 : c.d.kind = 2
  · rw [if_pos k1] at h
    injection h with h; subst h; exact hc
  rw [if_neg k1] at h
  by_cases k2 : c.d.kind = 11
  · rw [if_pos k2] at h
    injection h with h; subst h; exact hc
  rw [if_neg k2] at h
  by_cases k3 : c.d.kind = 13
  · rw [if_pos k3] at h
    injection h with h; subst h; exact hc
  rw [if_neg k3] at h
  by_cases k4 : c.d.kind = 12
  · rw [if_pos k4] at h
    injection h with h; subst h; exact hc
  rw [if_neg k4] at h
  by_cases k5 : c.d.kind = 7
  · rw [if_pos k5] at h
    injection h with h; subst h; exact hc
  rw [if_neg k5] at h
  by_cases k6 : c.d.kind = 8
  · rw [if_pos k6] at h
    injection h with h
    subst h
    split
    · exact hc
    · obtain ⟨fl, ds, e, hs⟩ := cond_push o m c.ind c.d.brk c.d.kids
      rw [e]
      exact hc
  rw [if_neg k6] at h
  by_cases k7 : c.d.kind = 9
  · rw [if_pos k7] at h
    injection h with h
    subst h
    split
    · exact hc
    · exact fill_col hc
  rw [if_neg k7] at h
  by_cases k8 : c.d.kind = 10
  · rw [if_pos k8] at h
    injection h with h; subst h; exact hc
  rw [if_neg k8] at h
  by_cases k9 : c.d.kind = 14
  · rw [if_pos k9] at h
    injection h with h; subst h; exact hc
  rw [if_neg k9] at h
  by_cases k10 : c.d.kind = 15
  · rw [if_pos k10] at h
    split at h
    · exact line_col (c := ⟨c.ind, c.flat, hardDoc⟩) hw hc h
    · injection h with h; subst h; exact hc
  rw [if_neg k10] at h
  by_cases k11 : c.d.kind = 3 ∨ c.d.kind = 4
  · rw [if_pos k11] at h
    split at h
    · split at h
      · rw [Option.map_eq_some_iff] at h
        obtain ⟨m2, h1, h2⟩ := h
        obtain ⟨rfl, _⟩ := put_meas h1
        subst h2
        unfold ColOk at *
        simp only [List.length_append, List.length_singleton]
        omega
      · injection h with h; subst h; exact hc
    · exact line_col hw hc h
  rw [if_neg k11] at h
  by_cases k12 : c.d.kind = 5 ∨ c.d.kind = 6
  · rw [if_pos k12] at h
    exact line_col hw hc h
  · rw [if_neg k12] at h
    injection h with h; subst h; exact hc

/-! ### A run -/
/-- What is left of a run: it comes to R, whatever the steps that it may take. -/
def Runs (o : Opt) (R : Option Ln) (m : Mach) : Prop := ∃ f, m.meas < f ∧ runM o f m = R
theorem Runs.step {o : Opt} {R : Option Ln} {m : Mach} {c : Cmd} {cs : List Cmd} (h : Runs o R m) (hs : m.stk = c :: cs) :
    match doM o { m with stk := cs } c with
    | none => R = none
    | some m1 => Runs o R m1 ∧ m1.meas < m.meas := by
  obtain ⟨f, hf, hr⟩ := h
  cases f with
  | zero => omega
  | succ f =>
    unfold runM at hr
    rw [hs] at hr
    simp only [] at hr
    have hm : m.meas = c.d.wt + ({ m with stk := cs } : Mach).meas := by
      show wtC m.stk + (wtC m.put + m.put.length) = c.d.wt + (wtC cs + (wtC m.put + m.put.length))
      rw [hs, wtC_cons]
      omega
    cases hd : doM o { m with stk := cs } c with
    | none => rw [hd] at hr; exact hr.symm
    | some m1 =>
      rw [hd] at hr
      have := doM_meas hd
      exact ⟨⟨f, by omega, hr⟩, by omega⟩
theorem Runs.flush {o : Opt} {R : Option Ln} {m : Mach} (h : Runs o R m) (hs : m.stk = []) (hp : m.put ≠ []) : Runs o R (flushM m) ∧ (flushM m).meas < m.meas := by
  obtain ⟨f, hf, hr⟩ := h
  have h1 := flush_meas m
  have h3 : 1 ≤ m.put.length := by
    cases hh : m.put with
    | nil => exact absurd hh hp
    | cons a l => simp
  cases f with
  | zero => omega
  | succ f =>
    unfold runM at hr
    rw [hs] at hr
    simp only [] at hr
    rw [if_neg hp] at hr
    exact ⟨⟨f, by omega, hr⟩, by omega⟩
theorem Runs.done {o : Opt} {R : Option Ln} {m : Mach} (h : Runs o R m) (hs : m.stk = []) (hp : m.put = []) : R = some m.out := by
  obtain ⟨f, hf, hr⟩ := h
  cases f with
  | zero => omega
  | succ f =>
    unfold runM at hr
    rw [hs] at hr
    simp only [] at hr
    rw [if_pos hp] at hr
    exact hr.symm
theorem start_meas (d : Doc) : (startM d).meas = d.wt := by
  unfold Mach.meas startM
  show wtC [⟨[], false, d⟩] + (wtC [] + 0) = _
  simp [wtC]
theorem Runs.start (o : Opt) (d : Doc) : Runs o (runM o (2 * d.nodes) (startM d)) (startM d) := ⟨2 * d.nodes, by rw [start_meas]; have := d.nodes_pos; unfold Doc.wt; omega, rfl⟩
end

section
open Go.RowKit
set_option maxRecDepth 100000
set_option linter.unusedVariables false
set_option linter.unusedSimpArgs false

/-- What is asked where no panic comes. -/
def noPanic (Q : Exit → Act → World → Prop) : Exit → Act → World → Prop
  | .panic _, _, _ => False
  | e, a, w => Q e a w
theorem noPanic_to {Q : Exit → Act → World → Prop} : ∀ e a w, noPanic Q e a w → Q e a w
  | .panic _, _, _, h => h.elim
  | .normal, _, _, h => h
  | .ret, _, _, h => h
  | .exit _, _, _, h => h
  | .goto _, _, _, h => h
  | .outgrown, _, _, h => h
theorem seq_end_np {P : Program} {ops : Array Oper} {S : World → Prop} {Q : Exit → Act → World → Prop} {a : Act} {w : World} (h : Q .normal a w) : wpSeq P ops S (noPanic Q) [] a w := h
theorem np_end {Q : Exit → Act → World → Prop} {a : Act} {w : World} (h : Q .normal a w) : noPanic Q .normal a w := h
set_option maxHeartbeats 8000000 in
theorem lcatch_idle (p q : Addr) (w : World) :
    CallsD Tryd.prog 35 #[.pointer (some p), .pointer (some q)] .returning w fun e u' w' => e = .returned (.tuple #[]) ∧ u' = .returning ∧ w' = w := by
  refine callsD_of_wpS Tryd.func35 rfl fun c₀ cs hu => ?_
  apply wpS_seq
  apply wpS_region
  simp [wpOpsS, go_sem, recoverD, hu, Tryd.ntmps35, Exit.thenS]
  have hnil : ∀ W : World, (binOp .neq 20 .nilIface .nilIface).run Tryd.prog W = .ok (.bool false) W := fun _ => by kernel_rfl
  refine wpS_of_wp ?_
  rw [show (#[Value.pointer (some p), Value.pointer (some q)] ++ ((Array.replicate 14 undef).setIfInBounds 3 Value.nilIface).setIfInBounds 0 Value.nilIface : Array Value) = #[Value.pointer (some p), Value.pointer (some q), Value.nilIface, undef, undef, Value.nilIface, undef, undef, undef, undef, undef, undef, undef, undef, undef, undef] from rfl]
  go_wp2
  exact ⟨rfl, .returning, by rw [← hu], _, results_none rfl _ _ _, rfl, rfl, rfl⟩

set_option maxHeartbeats 8000000 in
theorem lcatch_panicking (p q : Nat) (x y : Value) (older : List PanicEntry) (w : World) (hp : Blk w p [x] 9) (hq : Blk w q [y] 29) (hne : p ≠ q) (B : Nat) (hB : B ≤ p) (hB2 : B ≤ q) :
    CallsD Tryd.prog 35 #[.pointer (some ⟨p, 0, none⟩), .pointer (some ⟨q, 0, none⟩)] (.panicking ({ v := .iface 58 (.agg #[]), recovered := false } :: older)) w fun e u' w' =>
      e = .returned (.tuple #[]) ∧ u' = .panicking ({ v := .iface 58 (.agg #[]), recovered := true } :: older) ∧ Blk w' p [.string ⟨#[]⟩] 9 ∧ Blk w' q [.int .i64 1502] 29 ∧ Below B w w' := by
  refine callsD_of_wpS Tryd.func35 rfl fun c₀ cs hu => ?_
  apply wpS_seq
  apply wpS_region
  simp [wpOpsS, go_sem, recoverD, hu, Tryd.ntmps35, Exit.thenS]
  have hneq : ∀ W : World, (binOp .neq 20 (.iface 58 (.agg #[])) .nilIface).run Tryd.prog W = .ok (.bool true) W := fun _ => by kernel_rfl
  have hta : ∀ W : World, (Instr.typeAssert (.iface 58 (.agg #[])) 20 58 true).run Tryd.prog W = .ok (.tuple #[.agg #[], .bool true]) W := fun _ => by kernel_rfl
  have c0 := hp.cell 0
  have d0 := hq.cell 0
  have f0 := hp.frozen 0
  have g0 := hq.frozen 0
  have hpl := hp.lt
  have hql := hq.lt
  have hqp : ¬ q = p := fun e => hne e.symm
  refine wpS_of_wp ?_
  rw [show (#[Value.pointer (some ⟨p, 0, none⟩), Value.pointer (some ⟨q, 0, none⟩)] ++ ((Array.replicate 14 undef).setIfInBounds 3 (Value.iface 58 (Value.agg #[]))).setIfInBounds 0 (Value.iface 58 (Value.agg #[])) : Array Value) = #[Value.pointer (some ⟨p, 0, none⟩), Value.pointer (some ⟨q, 0, none⟩), Value.iface 58 (Value.agg #[]), undef, undef, Value.iface 58 (Value.agg #[]), undef, undef, undef, undef, undef, undef, undef, undef, undef, undef] from rfl]
  go_wp2_with fail
  refine ⟨rfl, _, rfl, _, results_none rfl _ _ _, rfl, rfl, ?_, ?_, ?_⟩
  · exact (((hp.set 0 _).set_other (by simpa using hne) _).alloc _)
  · exact (((hq.set_other (by simpa using hqp) _).set 0 _).alloc _)
  · exact (((Below.refl B w).setCell (p := ⟨p, 0, none⟩) hB _).setCell (p := ⟨q, 0, none⟩) hB2 _).alloc (by simp; omega) _
theorem own_string {W : World} {B n : Nat} {v : Value} {l : List UInt8} (h : W.ownsRow B 5 1 v n (Lib.byteCells l)) : (convert 35 9 v).run Tryd.prog W = .ok (.string ⟨l.toArray⟩) W := by
  by_cases hl : l = []
  · subst hl
    rcases h.2 with ⟨e, _⟩ | ⟨g, cap, cur, e, _⟩
    · subst e
      exact run_convert_bytes_nil (P := Tryd.prog) W _ _ Tryd.underlying35 Tryd.underlying5 0 0 _ Tryd.underlying9
    · have hn : n = 0 := by have := h.1; rw [Lib.byteCells_length] at this; simp at this; omega
      subst e
      subst hn
      exact run_convert_bytes_back (P := Tryd.prog) W 35 9 5 ⟨g, 0, none⟩ cap [] Tryd.underlying35 Tryd.underlying5 Tryd.underlying9 (fun j hj => absurd hj (by simp))
  · obtain ⟨g, cap, rfl, hc⟩ := own_bytes h hl
    exact run_convert_bytes_back (P := Tryd.prog) W 35 9 5 ⟨g, 0, none⟩ cap l Tryd.underlying35 Tryd.underlying5 Tryd.underlying9 hc
/-- The next command taken off the stack. -/
theorem MAt.popStk {B0 b mb : Nat} {ov : OptV} {s : MS} {w : World} (h : MAt B0 b mb ov s w) {A : Option Addr} {c : Nat} {l : List Cm} {cm : Cm} (hs : s.stk = l ++ [cm]) (hvs : s.vs = .slice A (l.length + 1) c) (s' : MS) (hs' : s' = { s with stk := l, vs := .slice A l.length c }) :
    MAt B0 b mb ov s' (w.setCell ⟨b, 11, none⟩ (.slice A l.length c)) ∧ Goes b mb s s' w (w.setCell ⟨b, 11, none⟩ (.slice A l.length c)) := by
  subst hs'
  obtain ⟨n1, n2, n3, n4⟩ := h.ne
  have hob : (Value.slice A l.length c).ownBlock = s.vs.ownBlock := by rw [hvs]; cases A <;> rfl
  have hF : Goes b mb s { s with stk := l, vs := .slice A l.length c } w (w.setCell ⟨b, 11, none⟩ (.slice A l.length c)) := by
    refine ⟨⟨rfl, rfl, rfl, by simp [World.setCell], fun q hq hx => Below.heap_setCell w ⟨b, 11, none⟩ _ q (fun e => hx (.inl e))⟩, fun q hq => ?_⟩
    rcases hq with hq | hq | hq | hq | hq
    · exact .inl (.inl hq)
    · exact .inl (.inr (.inl hq))
    · exact .inl (.inr (.inr (.inl hq)))
    · exact .inl (.inr (.inr (.inr (.inl (hob ▸ hq)))))
    · exact .inl (.inr (.inr (.inr (.inr hq))))
  have hown := h.stk
  have hl : s.stk.length = l.length + 1 := by rw [hs]; simp
  rw [hvs, hl] at hown
  have ht := own_take hown (k := l.length) (by omega)
  have e1 : (cmCells s.stk).take (l.length * 3) = cmCells l := by rw [hs, cmCells_snoc, ← cmCells_len, List.take_left]
  rw [e1] at ht
  refine ⟨{ blk := h.blk.set 11 (.slice A l.length c), out := own_setCell h.out _ _ (fun q hq => (n2 q hq).1), stk := own_setCell ht _ _ (fun q hq => (n3 q (hob ▸ hq)).1), put := own_setCell h.put _ _ (fun q hq => (n4 q hq).1), map := (Below.heap_setCell w ⟨b, 11, none⟩ _ mb n1.symm).trans h.map, brk := h.brk, apart := fun k hk => h.apart k (hob ▸ hk), lowb := h.lowb, lowm := h.lowm, low := by simpa [World.setCell] using h.low, good := fun c' hc => h.good_goes hF (h.good c' ?_), weight := ?_, len := h.len, col0 := h.col0, col1 := h.col1, opt := h.opt }, hF⟩
  · rw [hs]
    rcases List.mem_append.1 hc with hc | hc
    · exact List.mem_append_left _ (List.mem_append_left _ hc)
    · exact List.mem_append_right _ hc
  · have := h.weight
    unfold MS.weight at *
    rw [hs] at this
    simp only [List.map_append, List.sum_append, List.map_cons, List.map_nil, List.sum_cons, List.sum_nil] at this ⊢
    omega
end
end Go.Proofs.YthljgiimdcbfpaaDoor
