/- Package layout: do, the kinds that ask a mode (printed by gen_do2.py). -/
import Derived.Test.YthljgiimdcbfpaaDoorMDoF
namespace Go.Proofs.YthljgiimdcbfpaaDoor
open Go.RowKit
set_option maxRecDepth 100000
set_option linter.unusedVariables false
set_option linter.unusedSimpArgs false

set_option maxHeartbeats 16000000 in
theorem do_indentif {B0 b mb : Nat} {ov : OptV} {s : MS} {w : World} (h : MAt B0 b mb ov s w) {ind : Ind} {p : Option Addr} (hi : IndAt w (s.F b mb w) ind p) (flat : Bool) {d : Doc} {a : Addr} (hd : DocAt w B0 (s.F b mb w) d a) (hok : CmOk ind d) (hk : d.kind = 12) (hw : s.weight + d.wt ≤ 8388608) :
    Calls Tryd.prog 37 #[.pointer (some ⟨b, 0, none⟩), .agg #[.pointer p, .bool flat, .pointer (some a)]] w fun e w' => Ends B0 b mb ov s w (doM ov.o s.mach ⟨ind, flat, d⟩) e w' := by
  obtain ⟨g, off, kv, rfl, hFg, h6, hkv⟩ := hd
  obtain ⟨A, cap, hkvs⟩ := hkv.slice
  rw [hkvs] at hkv
  obtain ⟨hn0, hnc, kg, koff, hA, hds⟩ := docs_kids h hkv
  have hnl := kids_len_bulk hok.bulk
  have hbW : Below w.heap.size w (w.alloc (.cells #[.pointer p, .bool flat, .pointer (some ⟨g, off, none⟩)] 69)) := (Below.refl _ w).alloc (Nat.le_refl _) _
  have hcW : Blk (w.alloc (.cells #[.pointer p, .bool flat, .pointer (some ⟨g, off, none⟩)] 69)) w.heap.size [.pointer p, .bool flat, .pointer (some ⟨g, off, none⟩)] 69 := Blk.new' (W := w) _ _ rfl
  obtain ⟨W, hW⟩ : ∃ W, W = w.alloc (.cells #[.pointer p, .bool flat, .pointer (some ⟨g, off, none⟩)] 69) := ⟨_, rfl⟩
  rw [← hW] at hbW hcW
  have hgl : g < w.heap.size := hFg.1
  have k0 := (hbW.cell (p := ⟨g, off, none⟩) hgl).trans h6.kind
  have k2 := (hbW.cell (p := ⟨g, off + 2, none⟩) hgl).trans h6.kids
  rw [hk] at k0
  rw [hkvs] at k2
  have HFA : Hid (FAt B0 b mb ov s w p s W) := Lib.hid { m := h.below hbW, g := Goes.of_below hbW, x := hcW.cell 0, lt := hcW.lt, nx := fun hx => by have := h.X_lt hx; omega }
  have x0 := hcW.cell 0
  have x1 := hcW.cell 1
  have x2 := hcW.cell 2
  simp only [List.getElem?_cons_zero, List.getElem?_cons_succ] at x0 x1 x2
  have hWs := hcW.lt
  have HWW := Lib.hid hW
  have HM := Lib.hid h
  have HI := Lib.hid hi
  have HOK := Lib.hid hok
  have HDS := Lib.hid hds
  have HBW := Lib.hid hbW
  have HWT := Lib.hid hw
  have HK := Lib.hid hk
  have HA := Lib.hid hA
  have HFG := Lib.hid hFg
  have hn1 := kids_12 hok.shape hk
  obtain rfl := hA (by omega)
  rw [hn1] at k2
  have hgW : g < W.heap.size := Nat.lt_of_lt_of_le hgl hbW.size
  have HX : Hid (¬ s.X b mb w.heap.size) := Lib.hid HFA.out.nx
  have HWB := Lib.hid (wide_bound hok)
  have HSZ := Lib.hid hbW.size
  have HN1 := Lib.hid hn1
  have HTB : Hid (0 ≤ ov.o.tab ∧ ov.o.tab ≤ 10000) := Lib.hid (by have := tab_bd h.opt; omega)
  have k4 := (hbW.cell (p := ⟨g, off + 4, none⟩) hgl).trans h6.id
  have c13 := HFA.out.m.cells.2.2.2.2.2.2.2.1
  have hlk := look_brk (w := W.drew) HFA.out.m.map HFA.out.m.brk d.id
  have HRF : Hid (doM ov.o s.mach ⟨ind, flat, d⟩ = some (pushM s.mach (if s.brk d.id then (true, ov.o.tab) :: ind else ind) flat [d.kids[0]])) := Lib.hid (by
    rw [← kid0_nth (by omega)]
    cases d
    simp only [Doc.kind] at hk
    subst hk
    rfl)
  clear h hi hok hds hbW hW hw hcW h6 hkv hFg hkvs hn0 hk hnc
  generalize s.brk d.id = y at *
  generalize d.id = ii at *
  have hbl := HFA.out.m.blk.lt
  go_enter Tryd.func37, Tryd.ntmps37
  go_upto_region 1 with fail
  rw [← HWW.out]
  go_upto_region 14 with fail
  refine wp_region_seq (fun w' => (w'.heap[w.heap.size]? = W.heap[w.heap.size]? ∧ w'.heap[g]? = W.heap[g]?) ∧ w'.cell? ⟨b, 13, none⟩ = some (.map (some mb))) 8 1 (by kernel_rfl) rfl (by kernel_rfl) (by intro _ _ d _ _ h; cases d <;> exact h) ⟨⟨rfl, rfl⟩, c13⟩ ?_
  simp only [List.take_succ_cons, List.take_zero, List.drop_succ_cons, List.drop_zero, List.cons_append, List.nil_append]
  repeat (refine wpHeld_step rfl ?_; apply Exists.intro; refine ⟨fun wq hq' => ?_, ?_⟩; (obtain ⟨hq, qc⟩ := hq'; have qx0 := (World.cell?_of_block (a := ⟨w.heap.size, 0, none⟩) hq.1).trans x0; have qx1 := (World.cell?_of_block (a := ⟨w.heap.size, 1, none⟩) hq.1).trans x1; have qx2 := (World.cell?_of_block (a := ⟨w.heap.size, 2, none⟩) hq.1).trans x2; have qk2 := (World.cell?_of_block (a := ⟨g, off + 2, none⟩) hq.2).trans k2; have qk4 := (World.cell?_of_block (a := ⟨g, off + 4, none⟩) hq.2).trans k4; go_simp; first | done | rfl); simp only [Act.put, List.setIfInBounds_toArray, List.set_cons_zero, List.set_cons_succ])
  change wpSeq _ _ _ _ _ _ _
  refine wpSeq_step rfl (fun K hK => ?_)
  go_simp
  refine hK _ _ ⟨⟨rfl, rfl⟩, c13⟩ ?_
  clear hK K
  try simp only [Act.put, List.setIfInBounds_toArray, List.set_cons_zero, List.set_cons_succ]
  first
    | change Exit.then _ _ Exit.normal _ _
    | change Exit.inBlock _ _ Exit.normal _ _
  obtain ⟨V0, eV0⟩ : ∃ V0, V0 = W.drew := ⟨_, rfl⟩
  rw [← eV0]
  have HWV0 : Hid (Below W.heap.size W V0) := Lib.hid (by rw [eV0]; exact (Below.refl W.heap.size W).drew)
  have x0' := (HWV0.out.cell (p := ⟨w.heap.size, 0, none⟩) hWs).trans x0
  have x1' := (HWV0.out.cell (p := ⟨w.heap.size, 1, none⟩) hWs).trans x1
  clear eV0 hlk
  cases y
  · have HR : Hid (doM ov.o s.mach ⟨ind, flat, d⟩ = some (pushM s.mach ind flat [d.kids[0]])) := Lib.hid HRF.out
    go_upto_region 16 with fail
    refine wp_region_seq (fun w' => w'.heap[w.heap.size]? = W.heap[w.heap.size]? ∧ w'.heap[g]? = W.heap[g]?) 9 2 (by kernel_rfl) rfl (by kernel_rfl) (by intro _ _ d _ _ h; cases d <;> exact h) ⟨HWV0.out.block _ hWs, HWV0.out.block _ hgW⟩ ?_
    simp only [List.take_succ_cons, List.take_zero, List.drop_succ_cons, List.drop_zero, List.cons_append, List.nil_append]
    repeat (refine wpHeld_step rfl ?_; apply Exists.intro; refine ⟨fun wq hq => ?_, ?_⟩; (have qx0 := (World.cell?_of_block (a := ⟨w.heap.size, 0, none⟩) hq.1).trans x0; have qx1 := (World.cell?_of_block (a := ⟨w.heap.size, 1, none⟩) hq.1).trans x1; have qx2 := (World.cell?_of_block (a := ⟨w.heap.size, 2, none⟩) hq.1).trans x2; have qk2 := (World.cell?_of_block (a := ⟨g, off + 2, none⟩) hq.2).trans k2; go_simp; first | done | rfl); simp only [Act.put, List.setIfInBounds_toArray, List.set_cons_zero, List.set_cons_succ])
    change wpSeq _ _ _ _ _ _ _
    refine wpSeq_step rfl (fun K hK => ?_)
    go_simp
    have hbVB : Below V0.heap.size V0 (V0.alloc (.cells #[.pointer (some ⟨kg, koff, none⟩)] 66)).drew := ((Below.refl _ _).alloc (Nat.le_refl _) _).drew
    have hkVB : Blk (V0.alloc (.cells #[.pointer (some ⟨kg, koff, none⟩)] 66)).drew V0.heap.size [.pointer (some ⟨kg, koff, none⟩)] 66 := Blk.new' (W := V0) _ _ rfl
    obtain ⟨VB, eVB⟩ : ∃ VB, VB = (V0.alloc (.cells #[.pointer (some ⟨kg, koff, none⟩)] 66)).drew := ⟨_, rfl⟩
    rw [← eVB] at hbVB hkVB  ⊢
    have HKVB := Lib.hid hkVB
    have HLVB := Lib.hid hbVB
    have HWVB : Hid (Below W.heap.size W VB) := Lib.hid (HWV0.out.trans (hbVB.mono HWV0.out.size))
    clear hbVB eVB hkVB
    refine hK _ _ ⟨HWVB.out.block _ hWs, HWVB.out.block _ hgW⟩ ?_
    clear hK K
    try simp only [Act.put, List.setIfInBounds_toArray, List.set_cons_zero, List.set_cons_succ]
    refine wpSeq_step rfl (fun K hK => ?_)
    go_simp
    refine (push_new (n := 1) HM.out (HBW.out.trans (HWVB.out.mono HBW.out.size)) ((Goes.of_below (b := b) (mb := mb) (s := s) (HBW.out.trans (HWVB.out.mono HBW.out.size))).ind HI.out) flat (docs_nth HDS.out 0 (by have := HN1.out; omega)) (HOK.out.kid (List.getElem_mem _)) HKVB.out (by have := HWV0.out.size; have := HSZ.out; omega) rfl (by have := wt_nth d 0 (by have := HN1.out; omega); have := HWT.out; omega)).mono ?_
    rintro e w9 ⟨rfl, t9, m9, a9, g9, f9⟩
    have HM9 := Lib.hid m9
    have HA9 := Lib.hid a9
    have HG9 := Lib.hid g9
    refine hK _ _ ⟨(f9 _ (by have := HWVB.out.size; omega) HX.out).trans (HWVB.out.block _ hWs), (f9 _ (by have := HWVB.out.size; omega) HFG.out.2).trans (HWVB.out.block _ hgW)⟩ ?_
    clear m9 a9 g9 f9
    clear hK K
    try simp only [Act.put, List.setIfInBounds_toArray, List.set_cons_zero, List.set_cons_succ]
    first
      | change Exit.then _ _ Exit.normal _ _
      | change Exit.inBlock _ _ Exit.normal _ _
    go_wp2_with fail
    go_end0
    rw [HR.out]
    exact ⟨rfl, t9, HM9.out, HA9.out, HG9.out⟩
  · have HR : Hid (doM ov.o s.mach ⟨ind, flat, d⟩ = some (pushM s.mach ((true, ov.o.tab) :: ind) flat [d.kids[0]])) := Lib.hid HRF.out
    go_wp2_with fail
    refine (step_is (HFA.out.next HWV0.out).m ((HFA.out.next HWV0.out).g.ind HI.out) HWB.out).mono ?_
    rintro e w1 ⟨gs, rfl, hb1, hi1⟩
    have HL1 := Lib.hid hb1
    have HW1 : Hid (Below W.heap.size W w1) := Lib.hid (HWV0.out.trans (hb1.mono HWV0.out.size))
    have HI1 := Lib.hid hi1
    clear hb1 hi1
    go_upto_region 16 with fail
    refine wp_region_seq (fun w' => w'.heap[w.heap.size]? = W.heap[w.heap.size]? ∧ w'.heap[g]? = W.heap[g]?) 9 2 (by kernel_rfl) rfl (by kernel_rfl) (by intro _ _ d _ _ h; cases d <;> exact h) ⟨HW1.out.block _ hWs, HW1.out.block _ hgW⟩ ?_
    simp only [List.take_succ_cons, List.take_zero, List.drop_succ_cons, List.drop_zero, List.cons_append, List.nil_append]
    repeat (refine wpHeld_step rfl ?_; apply Exists.intro; refine ⟨fun wq hq => ?_, ?_⟩; (have qx0 := (World.cell?_of_block (a := ⟨w.heap.size, 0, none⟩) hq.1).trans x0; have qx1 := (World.cell?_of_block (a := ⟨w.heap.size, 1, none⟩) hq.1).trans x1; have qx2 := (World.cell?_of_block (a := ⟨w.heap.size, 2, none⟩) hq.1).trans x2; have qk2 := (World.cell?_of_block (a := ⟨g, off + 2, none⟩) hq.2).trans k2; go_simp; first | done | rfl); simp only [Act.put, List.setIfInBounds_toArray, List.set_cons_zero, List.set_cons_succ])
    change wpSeq _ _ _ _ _ _ _
    refine wpSeq_step rfl (fun K hK => ?_)
    go_simp
    have hbVB : Below w1.heap.size w1 (w1.alloc (.cells #[.pointer (some ⟨kg, koff, none⟩)] 66)).drew := ((Below.refl _ _).alloc (Nat.le_refl _) _).drew
    have hkVB : Blk (w1.alloc (.cells #[.pointer (some ⟨kg, koff, none⟩)] 66)).drew w1.heap.size [.pointer (some ⟨kg, koff, none⟩)] 66 := Blk.new' (W := w1) _ _ rfl
    obtain ⟨VB, eVB⟩ : ∃ VB, VB = (w1.alloc (.cells #[.pointer (some ⟨kg, koff, none⟩)] 66)).drew := ⟨_, rfl⟩
    rw [← eVB] at hbVB hkVB  ⊢
    have HKVB := Lib.hid hkVB
    have HLVB := Lib.hid hbVB
    have HWVB : Hid (Below W.heap.size W VB) := Lib.hid (HW1.out.trans (hbVB.mono HW1.out.size))
    clear hbVB eVB hkVB
    refine hK _ _ ⟨HWVB.out.block _ hWs, HWVB.out.block _ hgW⟩ ?_
    clear hK K
    try simp only [Act.put, List.setIfInBounds_toArray, List.set_cons_zero, List.set_cons_succ]
    refine wpSeq_step rfl (fun K hK => ?_)
    go_simp
    refine (push_new (n := 1) HM.out (HBW.out.trans (HWVB.out.mono HBW.out.size)) ((Goes.of_below (b := b) (mb := mb) (s := s) HLVB.out).ind HI1.out) flat (docs_nth HDS.out 0 (by have := HN1.out; omega)) (HOK.out.kidIn (List.getElem_mem _) HTB.out.1 HTB.out.2) HKVB.out (by have := HW1.out.size; have := HSZ.out; omega) rfl (by have := wt_nth d 0 (by have := HN1.out; omega); have := HWT.out; omega)).mono ?_
    rintro e w9 ⟨rfl, t9, m9, a9, g9, f9⟩
    have HM9 := Lib.hid m9
    have HA9 := Lib.hid a9
    have HG9 := Lib.hid g9
    refine hK _ _ ⟨(f9 _ (by have := HWVB.out.size; omega) HX.out).trans (HWVB.out.block _ hWs), (f9 _ (by have := HWVB.out.size; omega) HFG.out.2).trans (HWVB.out.block _ hgW)⟩ ?_
    clear m9 a9 g9 f9
    clear hK K
    try simp only [Act.put, List.setIfInBounds_toArray, List.set_cons_zero, List.set_cons_succ]
    first
      | change Exit.then _ _ Exit.normal _ _
      | change Exit.inBlock _ _ Exit.normal _ _
    go_wp2_with fail
    go_end0
    rw [HR.out]
    exact ⟨rfl, t9, HM9.out, HA9.out, HG9.out⟩

set_option maxHeartbeats 16000000 in
theorem do_ifbreak {B0 b mb : Nat} {ov : OptV} {s : MS} {w : World} (h : MAt B0 b mb ov s w) {ind : Ind} {p : Option Addr} (hi : IndAt w (s.F b mb w) ind p) (flat : Bool) {d : Doc} {a : Addr} (hd : DocAt w B0 (s.F b mb w) d a) (hok : CmOk ind d) (hk : d.kind = 10) (hw : s.weight + d.wt ≤ 8388608) :
    Calls Tryd.prog 37 #[.pointer (some ⟨b, 0, none⟩), .agg #[.pointer p, .bool flat, .pointer (some a)]] w fun e w' => Ends B0 b mb ov s w (doM ov.o s.mach ⟨ind, flat, d⟩) e w' := by
  obtain ⟨g, off, kv, rfl, hFg, h6, hkv⟩ := hd
  obtain ⟨A, cap, hkvs⟩ := hkv.slice
  rw [hkvs] at hkv
  obtain ⟨hn0, hnc, kg, koff, hA, hds⟩ := docs_kids h hkv
  have hnl := kids_len_bulk hok.bulk
  have hbW : Below w.heap.size w (w.alloc (.cells #[.pointer p, .bool flat, .pointer (some ⟨g, off, none⟩)] 69)) := (Below.refl _ w).alloc (Nat.le_refl _) _
  have hcW : Blk (w.alloc (.cells #[.pointer p, .bool flat, .pointer (some ⟨g, off, none⟩)] 69)) w.heap.size [.pointer p, .bool flat, .pointer (some ⟨g, off, none⟩)] 69 := Blk.new' (W := w) _ _ rfl
  obtain ⟨W, hW⟩ : ∃ W, W = w.alloc (.cells #[.pointer p, .bool flat, .pointer (some ⟨g, off, none⟩)] 69) := ⟨_, rfl⟩
  rw [← hW] at hbW hcW
  have hgl : g < w.heap.size := hFg.1
  have k0 := (hbW.cell (p := ⟨g, off, none⟩) hgl).trans h6.kind
  have k2 := (hbW.cell (p := ⟨g, off + 2, none⟩) hgl).trans h6.kids
  rw [hk] at k0
  rw [hkvs] at k2
  have HFA : Hid (FAt B0 b mb ov s w p s W) := Lib.hid { m := h.below hbW, g := Goes.of_below hbW, x := hcW.cell 0, lt := hcW.lt, nx := fun hx => by have := h.X_lt hx; omega }
  have x0 := hcW.cell 0
  have x1 := hcW.cell 1
  have x2 := hcW.cell 2
  simp only [List.getElem?_cons_zero, List.getElem?_cons_succ] at x0 x1 x2
  have hWs := hcW.lt
  have HWW := Lib.hid hW
  have HM := Lib.hid h
  have HI := Lib.hid hi
  have HOK := Lib.hid hok
  have HDS := Lib.hid hds
  have HBW := Lib.hid hbW
  have HWT := Lib.hid hw
  have HK := Lib.hid hk
  have HA := Lib.hid hA
  have HFG := Lib.hid hFg
  have hn1 := kids_10 hok.shape hk
  obtain rfl := hA (by omega)
  rw [hn1] at k2
  have hgW : g < W.heap.size := Nat.lt_of_lt_of_le hgl hbW.size
  have HX : Hid (¬ s.X b mb w.heap.size) := Lib.hid HFA.out.nx
  have HWB := Lib.hid (wide_bound hok)
  have HSZ := Lib.hid hbW.size
  have HN1 := Lib.hid hn1
  have k4 := (hbW.cell (p := ⟨g, off + 4, none⟩) hgl).trans h6.id
  have hmd := mode_is (w := W.drew) (HFA.out.next (Below.refl W.heap.size W).drew).m d.id flat
  have HRF : Hid (doM ov.o s.mach ⟨ind, flat, d⟩ = some (pushM s.mach ind flat (if modeB s.brk d.id flat then [d.kids[1]] else [d.kids[0]]))) := Lib.hid (by
    rw [← kid0_nth (by omega), ← kid1_nth (by omega)]
    cases d
    simp only [Doc.kind] at hk
    subst hk
    rfl)
  clear h hi hok hds hbW hW hw hcW h6 hkv hFg hkvs hn0 hk hnc
  have HMD := Lib.hid hmd
  generalize modeB s.brk d.id flat = y at *
  generalize d.id = ii at *
  clear hmd
  go_enter Tryd.func37, Tryd.ntmps37
  go_upto_region 1 with fail
  rw [← HWW.out]
  go_upto_region 32 with fail
  refine wp_region_seq (fun w' => w'.heap[w.heap.size]? = W.heap[w.heap.size]? ∧ w'.heap[g]? = W.heap[g]?) 7 1 (by kernel_rfl) rfl (by kernel_rfl) (by intro _ _ d _ _ h; cases d <;> exact h) ⟨rfl, rfl⟩ ?_
  simp only [List.take_succ_cons, List.take_zero, List.drop_succ_cons, List.drop_zero, List.cons_append, List.nil_append]
  repeat (refine wpHeld_step rfl ?_; apply Exists.intro; refine ⟨fun wq hq => ?_, ?_⟩; (have qx0 := (World.cell?_of_block (a := ⟨w.heap.size, 0, none⟩) hq.1).trans x0; have qx1 := (World.cell?_of_block (a := ⟨w.heap.size, 1, none⟩) hq.1).trans x1; have qx2 := (World.cell?_of_block (a := ⟨w.heap.size, 2, none⟩) hq.1).trans x2; have qk2 := (World.cell?_of_block (a := ⟨g, off + 2, none⟩) hq.2).trans k2; have qk4 := (World.cell?_of_block (a := ⟨g, off + 4, none⟩) hq.2).trans k4; go_simp; first | done | rfl); simp only [Act.put, List.setIfInBounds_toArray, List.set_cons_zero, List.set_cons_succ])
  change wpSeq _ _ _ _ _ _ _
  refine wpSeq_step rfl (fun K hK => ?_)
  go_simp
  refine HMD.out.mono ?_
  rintro e wt ⟨rfl, rfl⟩
  refine hK _ _ ⟨rfl, rfl⟩ ?_
  clear hK K
  try simp only [Act.put, List.setIfInBounds_toArray, List.set_cons_zero, List.set_cons_succ]
  first
    | change Exit.then _ _ Exit.normal _ _
    | change Exit.inBlock _ _ Exit.normal _ _
  obtain ⟨V0, eV0⟩ : ∃ V0, V0 = W.drew := ⟨_, rfl⟩
  rw [← eV0]
  have HWV0 : Hid (Below W.heap.size W V0) := Lib.hid (by rw [eV0]; exact (Below.refl W.heap.size W).drew)
  have x0' := (HWV0.out.cell (p := ⟨w.heap.size, 0, none⟩) hWs).trans x0
  have x1' := (HWV0.out.cell (p := ⟨w.heap.size, 1, none⟩) hWs).trans x1
  have k2' := (HWV0.out.cell (p := ⟨g, off + 2, none⟩) hgW).trans k2
  clear eV0
  cases y
  · have HR : Hid (doM ov.o s.mach ⟨ind, flat, d⟩ = some (pushM s.mach ind flat [d.kids[0]])) := Lib.hid HRF.out
    go_wp2_with fail
    refine (push_new (n := 1) HM.out (HBW.out.trans ((HWV0.out.alloc HWV0.out.size _).mono HBW.out.size)) ((Goes.of_below (b := b) (mb := mb) (s := s) (HBW.out.trans ((HWV0.out.alloc HWV0.out.size _).mono HBW.out.size))).ind HI.out) flat (by have := docs_nth HDS.out 0 (by have := HN1.out; omega); simpa using this) (HOK.out.kid (List.getElem_mem _)) (Blk.new V0 [.pointer (some ⟨kg, koff, none⟩)] 66) (by have := HWV0.out.size; have := HSZ.out; omega) rfl (by have := wt_nth d 0 (by have := HN1.out; omega); have := HWT.out; omega)).mono ?_
    rintro e w9 ⟨rfl, t9, m9, a9, g9, f9⟩
    have HM9 := Lib.hid m9
    have HA9 := Lib.hid a9
    have HG9 := Lib.hid g9
    clear m9 a9 g9 f9
    go_wp2_with fail
    go_end0
    rw [HR.out]
    exact ⟨rfl, t9, HM9.out, HA9.out, HG9.out⟩
  · have HR : Hid (doM ov.o s.mach ⟨ind, flat, d⟩ = some (pushM s.mach ind flat [d.kids[1]])) := Lib.hid HRF.out
    go_wp2_with fail
    refine (push_new (n := 1) HM.out (HBW.out.trans ((HWV0.out.alloc HWV0.out.size _).mono HBW.out.size)) ((Goes.of_below (b := b) (mb := mb) (s := s) (HBW.out.trans ((HWV0.out.alloc HWV0.out.size _).mono HBW.out.size))).ind HI.out) flat (by have := docs_nth HDS.out 1 (by have := HN1.out; omega); simpa using this) (HOK.out.kid (List.getElem_mem _)) (Blk.new V0 [.pointer (some ⟨kg, koff + 6, none⟩)] 66) (by have := HWV0.out.size; have := HSZ.out; omega) rfl (by have := wt_nth d 1 (by have := HN1.out; omega); have := HWT.out; omega)).mono ?_
    rintro e w9 ⟨rfl, t9, m9, a9, g9, f9⟩
    have HM9 := Lib.hid m9
    have HA9 := Lib.hid a9
    have HG9 := Lib.hid g9
    clear m9 a9 g9 f9
    go_wp2_with fail
    go_end0
    rw [HR.out]
    exact ⟨rfl, t9, HM9.out, HA9.out, HG9.out⟩
end Go.Proofs.YthljgiimdcbfpaaDoor
