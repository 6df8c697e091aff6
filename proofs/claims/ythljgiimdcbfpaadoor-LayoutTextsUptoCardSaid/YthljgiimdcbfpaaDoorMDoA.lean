/- Package layout: do, first kinds (printed by gen_do.py). -/
import Derived.Test.YthljgiimdcbfpaaDoorMFill
namespace Go.Proofs.YthljgiimdcbfpaaDoor
section
open Go.RowKit
set_option maxRecDepth 100000
set_option linter.unusedVariables false
set_option linter.unusedSimpArgs false

set_option maxHeartbeats 16000000 in
theorem do_concat {B0 b mb : Nat} {ov : OptV} {s : MS} {w : World} (h : MAt B0 b mb ov s w) {ind : Ind} {p : Option Addr} (hi : IndAt w (s.F b mb w) ind p) (flat : Bool) {d : Doc} {a : Addr} (hd : DocAt w B0 (s.F b mb w) d a) (hok : CmOk ind d) (hk : d.kind = 2) (hw : s.weight + d.wt ≤ 8388608) :
    Calls Tryd.prog 37 #[.pointer (some ⟨b, 0, none⟩), .agg #[.pointer p, .bool flat, .pointer (some a)]] w fun e w' => Ends B0 b mb ov s w (doM ov.o s.mach ⟨ind, flat, d⟩) e w' := by
  obtain ⟨g, off, kv, rfl, hFg, h6, hkv⟩ := hd
  obtain ⟨A, cap, hkvs⟩ := hkv.slice
  rw [hkvs] at hkv
  obtain ⟨hn0, hnc, kg, koff, hA, hds⟩ := docs_kids h hkv
  have hnl := kids_len_bulk hok.bulk
  have hbW : Below w.heap.size w (w.alloc (.cells #[.pointer p, .bool flat, .pointer (some ⟨g, off, none⟩)] 69)) := (Below.refl _ w).alloc (Nat.le_refl _) _
  have hcW : Blk (w.alloc (.cells #[.pointer p, .bool flat, .pointer (some ⟨g, off, none⟩)] 69)) w.heap.size [.pointer p, .bool flat, .pointer (some ⟨g, off, none⟩)] 69 := Blk.new' (W := w) _ _ rfl
  obtain ⟨W, hW⟩ : ∃ W, W = w.alloc (.cells #[.pointer p, .bool flat, .pointer (some ⟨g, off, none⟩)] 69) := ⟨_, rfl⟩
  rw [← hW] at hbW hcW
  have hgl : g < w.heap.size := hFg.1
  have k0 := (hbW.cell (p := ⟨g, off, none⟩) hgl).trans h6.kind
  have k2 := (hbW.cell (p := ⟨g, off + 2, none⟩) hgl).trans h6.kids
  rw [hk] at k0
  rw [hkvs] at k2
  have HFA : Hid (FAt B0 b mb ov s w p s W) := Lib.hid { m := h.below hbW, g := Goes.of_below hbW, x := hcW.cell 0, lt := hcW.lt, nx := fun hx => by have := h.X_lt hx; omega }
  have x0 := hcW.cell 0
  have x1 := hcW.cell 1
  have x2 := hcW.cell 2
  simp only [List.getElem?_cons_zero, List.getElem?_cons_succ] at x0 x1 x2
  have hWs := hcW.lt
  have HWW := Lib.hid hW
  have HM := Lib.hid h
  have HI := Lib.hid hi
  have HOK := Lib.hid hok
  have HDS := Lib.hid hds
  have HBW := Lib.hid hbW
  have HWT := Lib.hid hw
  have HK := Lib.hid hk
  have HA := Lib.hid hA
  have HFG := Lib.hid hFg
  have HR : Hid (doM ov.o s.mach ⟨ind, flat, d⟩ = some (pushM s.mach ind flat d.kids)) := Lib.hid (by
    cases d
    simp only [Doc.kind] at hk
    subst hk
    rfl)
  have HKI := Lib.hid (fun (W : World) => kids_is A kg koff d.kids.length cap W hnl hnc hA)
  clear h hi hok hds hbW hW hw hcW h6 hkv hFg hkvs hA hn0 hk hnc
  go_enter Tryd.func37, Tryd.ntmps37
  go_upto_region 1 with fail
  rw [← HWW.out]
  go_upto_region 7 with fail
  refine wp_region_seq (fun w' => w'.cell? ⟨w.heap.size, 0, none⟩ = some (.pointer p) ∧ w'.cell? ⟨w.heap.size, 1, none⟩ = some (.bool flat) ∧ w'.cell? ⟨g, off + 2, none⟩ = some (.slice A d.kids.length cap)) 9 2 (by kernel_rfl) rfl (by kernel_rfl) (by intro _ _ d _ _ h; cases d <;> exact h) ⟨x0, x1, k2⟩ ?_
  simp only [List.take_succ_cons, List.take_zero, List.drop_succ_cons, List.drop_zero, List.cons_append, List.nil_append]
  repeat (refine wpHeld_step rfl ?_; apply Exists.intro; refine ⟨fun wq hq => ?_, ?_⟩; (obtain ⟨q1, q2, q3⟩ := hq; go_simp; first | done | rfl); simp only [Act.put, List.setIfInBounds_toArray, List.set_cons_zero, List.set_cons_succ])
  change wpSeq _ _ _ _ _ _ _
  refine wpSeq_step rfl (fun K hK => ?_)
  go_simp
  go_at_call 47
  refine (HKI.out _).mono ?_
  rintro e wt ⟨rfl, hbt, hpb⟩
  have hbt' : Below W.heap.size W wt := (Below.refl _ W).drew.trans (hbt : Below W.heap.size W.drew wt)
  have y0 := (hbt'.cell (p := ⟨w.heap.size, 0, none⟩) hWs).trans x0
  have y1 := (hbt'.cell (p := ⟨w.heap.size, 1, none⟩) hWs).trans x1
  have y2 := (hbt'.cell (p := ⟨g, off + 2, none⟩) (by show g < W.heap.size; omega)).trans k2
  refine hK _ _ ⟨y0, y1, y2⟩ ?_
  clear hK K
  try simp only [Act.put, List.setIfInBounds_toArray, List.set_cons_zero, List.set_cons_succ]
  refine wpSeq_step rfl (fun K hK => ?_)
  go_simp
  refine (push_some HM.out (HBW.out.trans (hbt'.mono HBW.out.size)) HI.out flat HDS.out (fun x hx => HOK.out.kid hx) hpb (by show w.heap.size ≤ W.heap.size; exact HBW.out.size) (kidAddrs_len _ _ _).symm (by have := wt_kids d; have := HWT.out; omega)).mono ?_
  intro e w9 he
  obtain ⟨rfl, s9, m9, a9, g9⟩ := he
  have hws : W.heap.size ≤ wt.heap.size := hbt'.size
  have z0 := (World.cell?_of_block (a := ⟨w.heap.size, 0, none⟩) (g9.1.block w.heap.size (by omega) (fun hx => by have := HM.out.X_lt hx; omega))).trans y0
  have z1 := (World.cell?_of_block (a := ⟨w.heap.size, 1, none⟩) (g9.1.block w.heap.size (by omega) (fun hx => by have := HM.out.X_lt hx; omega))).trans y1
  have z2 := (World.cell?_of_block (a := ⟨g, off + 2, none⟩) (g9.1.block g (by omega) HFG.out.2)).trans y2
  have HM9 := Lib.hid m9
  have HA9 := Lib.hid a9
  have HG9 := Lib.hid ((Goes.of_below (b := b) (mb := mb) (s := s) (HBW.out.trans (hbt'.mono HBW.out.size))).trans g9)
  refine hK _ _ ⟨z0, z1, z2⟩ ?_
  clear m9 a9 g9 hbt hbt' hpb
  clear hK K
  try simp only [Act.put, List.setIfInBounds_toArray, List.set_cons_zero, List.set_cons_succ]
  first
    | change Exit.then _ _ Exit.normal _ _
    | change Exit.inBlock _ _ Exit.normal _ _
  go_wp2_with fail
  go_end0
  rw [HR.out]
  exact ⟨rfl, s9, HM9.out, HA9.out, HG9.out⟩

set_option maxHeartbeats 16000000 in
theorem do_fill {B0 b mb : Nat} {ov : OptV} {s : MS} {w : World} (h : MAt B0 b mb ov s w) {ind : Ind} {p : Option Addr} (hi : IndAt w (s.F b mb w) ind p) (flat : Bool) {d : Doc} {a : Addr} (hd : DocAt w B0 (s.F b mb w) d a) (hok : CmOk ind d) (hk : d.kind = 9) (hw : s.weight + d.wt ≤ 8388608) :
    Calls Tryd.prog 37 #[.pointer (some ⟨b, 0, none⟩), .agg #[.pointer p, .bool flat, .pointer (some a)]] w fun e w' => Ends B0 b mb ov s w (doM ov.o s.mach ⟨ind, flat, d⟩) e w' := by
  obtain ⟨g, off, kv, rfl, hFg, h6, hkv⟩ := hd
  obtain ⟨A, cap, hkvs⟩ := hkv.slice
  rw [hkvs] at hkv
  obtain ⟨hn0, hnc, kg, koff, hA, hds⟩ := docs_kids h hkv
  have hnl := kids_len_bulk hok.bulk
  have hbW : Below w.heap.size w (w.alloc (.cells #[.pointer p, .bool flat, .pointer (some ⟨g, off, none⟩)] 69)) := (Below.refl _ w).alloc (Nat.le_refl _) _
  have hcW : Blk (w.alloc (.cells #[.pointer p, .bool flat, .pointer (some ⟨g, off, none⟩)] 69)) w.heap.size [.pointer p, .bool flat, .pointer (some ⟨g, off, none⟩)] 69 := Blk.new' (W := w) _ _ rfl
  obtain ⟨W, hW⟩ : ∃ W, W = w.alloc (.cells #[.pointer p, .bool flat, .pointer (some ⟨g, off, none⟩)] 69) := ⟨_, rfl⟩
  rw [← hW] at hbW hcW
  have hgl : g < w.heap.size := hFg.1
  have k0 := (hbW.cell (p := ⟨g, off, none⟩) hgl).trans h6.kind
  have k2 := (hbW.cell (p := ⟨g, off + 2, none⟩) hgl).trans h6.kids
  rw [hk] at k0
  rw [hkvs] at k2
  have HFA : Hid (FAt B0 b mb ov s w p s W) := Lib.hid { m := h.below hbW, g := Goes.of_below hbW, x := hcW.cell 0, lt := hcW.lt, nx := fun hx => by have := h.X_lt hx; omega }
  have x0 := hcW.cell 0
  have x1 := hcW.cell 1
  have x2 := hcW.cell 2
  simp only [List.getElem?_cons_zero, List.getElem?_cons_succ] at x0 x1 x2
  have hWs := hcW.lt
  have HWW := Lib.hid hW
  have HM := Lib.hid h
  have HI := Lib.hid hi
  have HOK := Lib.hid hok
  have HDS := Lib.hid hds
  have HBW := Lib.hid hbW
  have HWT := Lib.hid hw
  have HK := Lib.hid hk
  have HA := Lib.hid hA
  have HFG := Lib.hid hFg
  have hdd : DocAt w B0 (s.F b mb w) d ⟨g, off, none⟩ := ⟨g, off, _, rfl, hFg, h6, by rw [hkvs]; exact hkv⟩
  have HDD := Lib.hid hdd
  have HR : Hid (doM ov.o s.mach ⟨ind, flat, d⟩ = some (if flat then pushM s.mach ind true d.kids else fillM ov.o s.mach ind d.kids)) := Lib.hid (by
    cases d
    simp only [Doc.kind] at hk
    subst hk
    rfl)
  have HKI := Lib.hid (fun (W : World) => kids_is A kg koff d.kids.length cap W hnl hnc hA)
  clear hdd
  clear h hi hok hds hbW hW hw hcW h6 hkv hFg hkvs hA hn0 hk hnc
  cases flat
  · have HF := Lib.hid (fill_is HFA.out.m (HFA.out.g.ind HI.out) false (HM.out.doc_goes HFA.out.g HDD.out) HOK.out HK.out (by have := HWT.out; omega))
    go_enter Tryd.func37, Tryd.ntmps37
    go_upto_region 1 with fail
    rw [← HWW.out]
    go_wp2_with fail
    refine HF.out.mono ?_
    intro e w9 he
    obtain ⟨rfl, s9, m9, a9, g9⟩ := he
    have HM9 := Lib.hid m9
    have HA9 := Lib.hid a9
    have HG9 := Lib.hid (HFA.out.g.trans g9)
    clear m9 a9 g9
    go_wp2_with fail
    go_end0
    rw [HR.out]
    exact ⟨rfl, s9, HM9.out, HA9.out, HG9.out⟩
  · go_enter Tryd.func37, Tryd.ntmps37
    go_upto_region 1 with fail
    rw [← HWW.out]
    go_upto_region 28 with fail
    refine wp_region_seq (fun w' => w'.cell? ⟨w.heap.size, 0, none⟩ = some (.pointer p) ∧ w'.cell? ⟨w.heap.size, 1, none⟩ = some (.bool true) ∧ w'.cell? ⟨g, off + 2, none⟩ = some (.slice A d.kids.length cap)) 7 2 (by kernel_rfl) rfl (by kernel_rfl) (by intro _ _ d _ _ h; cases d <;> exact h) ⟨x0, x1, k2⟩ ?_
    simp only [List.take_succ_cons, List.take_zero, List.drop_succ_cons, List.drop_zero, List.cons_append, List.nil_append]
    repeat (refine wpHeld_step rfl ?_; apply Exists.intro; refine ⟨fun wq hq => ?_, ?_⟩; (obtain ⟨q1, q2, q3⟩ := hq; go_simp; first | done | rfl); simp only [Act.put, List.setIfInBounds_toArray, List.set_cons_zero, List.set_cons_succ])
    change wpSeq _ _ _ _ _ _ _
    refine wpSeq_step rfl (fun K hK => ?_)
    go_simp
    go_at_call 47
    refine (HKI.out _).mono ?_
    rintro e wt ⟨rfl, hbt, hpb⟩
    have hbt' : Below W.heap.size W wt := (Below.refl _ W).drew.trans (hbt : Below W.heap.size W.drew wt)
    have y0 := (hbt'.cell (p := ⟨w.heap.size, 0, none⟩) hWs).trans x0
    have y1 := (hbt'.cell (p := ⟨w.heap.size, 1, none⟩) hWs).trans x1
    have y2 := (hbt'.cell (p := ⟨g, off + 2, none⟩) (by show g < W.heap.size; omega)).trans k2
    refine hK _ _ ⟨y0, y1, y2⟩ ?_
    clear hK K
    try simp only [Act.put, List.setIfInBounds_toArray, List.set_cons_zero, List.set_cons_succ]
    refine wpSeq_step rfl (fun K hK => ?_)
    go_simp
    refine (push_some HM.out (HBW.out.trans (hbt'.mono HBW.out.size)) HI.out true HDS.out (fun x hx => HOK.out.kid hx) hpb (by show w.heap.size ≤ W.heap.size; exact HBW.out.size) (kidAddrs_len _ _ _).symm (by have := wt_kids d; have := HWT.out; omega)).mono ?_
    intro e w9 he
    obtain ⟨rfl, s9, m9, a9, g9⟩ := he
    have hws : W.heap.size ≤ wt.heap.size := hbt'.size
    have z0 := (World.cell?_of_block (a := ⟨w.heap.size, 0, none⟩) (g9.1.block w.heap.size (by omega) (fun hx => by have := HM.out.X_lt hx; omega))).trans y0
    have z1 := (World.cell?_of_block (a := ⟨w.heap.size, 1, none⟩) (g9.1.block w.heap.size (by omega) (fun hx => by have := HM.out.X_lt hx; omega))).trans y1
    have z2 := (World.cell?_of_block (a := ⟨g, off + 2, none⟩) (g9.1.block g (by omega) HFG.out.2)).trans y2
    have HM9 := Lib.hid m9
    have HA9 := Lib.hid a9
    have HG9 := Lib.hid ((Goes.of_below (b := b) (mb := mb) (s := s) (HBW.out.trans (hbt'.mono HBW.out.size))).trans g9)
    refine hK _ _ ⟨z0, z1, z2⟩ ?_
    clear m9 a9 g9 hbt hbt' hpb
    clear hK K
    try simp only [Act.put, List.setIfInBounds_toArray, List.set_cons_zero, List.set_cons_succ]
    first
      | change Exit.then _ _ Exit.normal _ _
      | change Exit.inBlock _ _ Exit.normal _ _
    go_wp2_with fail
    go_end0
    rw [HR.out]
    exact ⟨rfl, s9, HM9.out, HA9.out, HG9.out⟩

set_option maxHeartbeats 16000000 in
theorem do_cond {B0 b mb : Nat} {ov : OptV} {s : MS} {w : World} (h : MAt B0 b mb ov s w) {ind : Ind} {p : Option Addr} (hi : IndAt w (s.F b mb w) ind p) (flat : Bool) {d : Doc} {a : Addr} (hd : DocAt w B0 (s.F b mb w) d a) (hok : CmOk ind d) (hk : d.kind = 8) (hw : s.weight + d.wt ≤ 8388608) :
    Calls Tryd.prog 37 #[.pointer (some ⟨b, 0, none⟩), .agg #[.pointer p, .bool flat, .pointer (some a)]] w fun e w' => Ends B0 b mb ov s w (doM ov.o s.mach ⟨ind, flat, d⟩) e w' := by
  obtain ⟨g, off, kv, rfl, hFg, h6, hkv⟩ := hd
  obtain ⟨A, cap, hkvs⟩ := hkv.slice
  rw [hkvs] at hkv
  obtain ⟨hn0, hnc, kg, koff, hA, hds⟩ := docs_kids h hkv
  have hnl := kids_len_bulk hok.bulk
  have hbW : Below w.heap.size w (w.alloc (.cells #[.pointer p, .bool flat, .pointer (some ⟨g, off, none⟩)] 69)) := (Below.refl _ w).alloc (Nat.le_refl _) _
  have hcW : Blk (w.alloc (.cells #[.pointer p, .bool flat, .pointer (some ⟨g, off, none⟩)] 69)) w.heap.size [.pointer p, .bool flat, .pointer (some ⟨g, off, none⟩)] 69 := Blk.new' (W := w) _ _ rfl
  obtain ⟨W, hW⟩ : ∃ W, W = w.alloc (.cells #[.pointer p, .bool flat, .pointer (some ⟨g, off, none⟩)] 69) := ⟨_, rfl⟩
  rw [← hW] at hbW hcW
  have hgl : g < w.heap.size := hFg.1
  have k0 := (hbW.cell (p := ⟨g, off, none⟩) hgl).trans h6.kind
  have k2 := (hbW.cell (p := ⟨g, off + 2, none⟩) hgl).trans h6.kids
  rw [hk] at k0
  rw [hkvs] at k2
  have HFA : Hid (FAt B0 b mb ov s w p s W) := Lib.hid { m := h.below hbW, g := Goes.of_below hbW, x := hcW.cell 0, lt := hcW.lt, nx := fun hx => by have := h.X_lt hx; omega }
  have x0 := hcW.cell 0
  have x1 := hcW.cell 1
  have x2 := hcW.cell 2
  simp only [List.getElem?_cons_zero, List.getElem?_cons_succ] at x0 x1 x2
  have hWs := hcW.lt
  have HWW := Lib.hid hW
  have HM := Lib.hid h
  have HI := Lib.hid hi
  have HOK := Lib.hid hok
  have HDS := Lib.hid hds
  have HBW := Lib.hid hbW
  have HWT := Lib.hid hw
  have HK := Lib.hid hk
  have HA := Lib.hid hA
  have HFG := Lib.hid hFg
  have hdd : DocAt w B0 (s.F b mb w) d ⟨g, off, none⟩ := ⟨g, off, _, rfl, hFg, h6, by rw [hkvs]; exact hkv⟩
  have HDD := Lib.hid hdd
  have hn1 := kids_8 hok.shape hk
  obtain rfl := hA (by omega)
  obtain ⟨n, hn⟩ : ∃ n, d.kids.length = n + 1 := ⟨d.kids.length - 1, by omega⟩
  rw [hn] at k2
  have HR : Hid (doM ov.o s.mach ⟨ind, flat, d⟩ = some (if flat then pushM s.mach ind true [d.kids[0]'(by omega)] else condM ov.o s.mach ind d.brk d.kids)) := Lib.hid (by
    rw [← kid0_nth (by omega)]
    cases d
    simp only [Doc.kind] at hk
    subst hk
    rfl)
  clear hdd
  clear h hi hok hds hbW hW hw hcW h6 hkv hFg hkvs hA hn0 hk hnc
  cases flat
  · have HF := Lib.hid (cond_is HFA.out.m (HFA.out.g.ind HI.out) false (HM.out.doc_goes HFA.out.g HDD.out) HOK.out HK.out (by have := HWT.out; omega))
    go_enter Tryd.func37, Tryd.ntmps37
    go_upto_region 1 with fail
    rw [← HWW.out]
    go_wp2_with fail
    refine HF.out.mono ?_
    intro e w9 he
    obtain ⟨rfl, s9, m9, a9, g9⟩ := he
    have HM9 := Lib.hid m9
    have HA9 := Lib.hid a9
    have HG9 := Lib.hid (HFA.out.g.trans g9)
    clear m9 a9 g9
    go_wp2_with fail
    go_end0
    rw [HR.out]
    exact ⟨rfl, s9, HM9.out, HA9.out, HG9.out⟩
  · go_enter Tryd.func37, Tryd.ntmps37
    go_upto_region 1 with fail
    rw [← HWW.out]
    go_upto_region 24 with fail
    refine wp_region_seq (fun w' => w'.cell? ⟨w.heap.size, 0, none⟩ = some (.pointer p) ∧ w'.cell? ⟨w.heap.size, 1, none⟩ = some (.bool true) ∧ w'.cell? ⟨g, off + 2, none⟩ = some (.slice (some ⟨kg, koff, none⟩) (n + 1) cap)) 8 2 (by kernel_rfl) rfl (by kernel_rfl) (by intro _ _ d _ _ h; cases d <;> exact h) ⟨x0, x1, k2⟩ ?_
    simp only [List.take_succ_cons, List.take_zero, List.drop_succ_cons, List.drop_zero, List.cons_append, List.nil_append]
    repeat (refine wpHeld_step rfl ?_; apply Exists.intro; refine ⟨fun wq hq => ?_, ?_⟩; (obtain ⟨q1, q2, q3⟩ := hq; go_simp; first | done | rfl); simp only [Act.put, List.setIfInBounds_toArray, List.set_cons_zero, List.set_cons_succ])
    change wpSeq _ _ _ _ _ _ _
    refine wpSeq_step rfl (fun K hK => ?_)
    go_simp
    have hbv : Below W.heap.size W (W.alloc (.cells #[.pointer (some ⟨kg, koff, none⟩)] 66)).drew := ((Below.refl _ _).alloc (Nat.le_refl _) _).drew
    have HBV := Lib.hid hbv
    have y0 := (hbv.cell (p := ⟨w.heap.size, 0, none⟩) hWs).trans x0
    have y1 := (hbv.cell (p := ⟨w.heap.size, 1, none⟩) hWs).trans x1
    have y2 := (hbv.cell (p := ⟨g, off + 2, none⟩) (by show g < W.heap.size; omega)).trans k2
    have hvs := hbv.size
    refine hK _ _ ⟨y0, y1, y2⟩ ?_
    clear hbv
    clear hK K
    try simp only [Act.put, List.setIfInBounds_toArray, List.set_cons_zero, List.set_cons_succ]
    refine wpSeq_step rfl (fun K hK => ?_)
    go_simp
    refine (push_some HM.out (HBW.out.trans (HBV.out.mono HBW.out.size)) HI.out true (docs_nth HDS.out 0 (by omega)) (fun x hx => by rw [List.mem_singleton] at hx; rw [hx]; exact HOK.out.kid (List.getElem_mem _)) (la := [⟨kg, koff, none⟩]) (by exact Blk.new' (W := W) (g := W.heap.size) [.pointer (some ⟨kg, koff, none⟩)] 66 rfl) (by exact HBW.out.size) rfl (by have := wt_nth d 0 (by omega); have := HWT.out; omega)).mono ?_
    intro e w9 he
    obtain ⟨rfl, s9, m9, a9, g9⟩ := he
    have z0 := (World.cell?_of_block (a := ⟨w.heap.size, 0, none⟩) (g9.1.block w.heap.size (by omega) (fun hx => by have := HM.out.X_lt hx; omega))).trans y0
    have z1 := (World.cell?_of_block (a := ⟨w.heap.size, 1, none⟩) (g9.1.block w.heap.size (by omega) (fun hx => by have := HM.out.X_lt hx; omega))).trans y1
    have z2 := (World.cell?_of_block (a := ⟨g, off + 2, none⟩) (g9.1.block g (by omega) HFG.out.2)).trans y2
    have HM9 := Lib.hid m9
    have HA9 := Lib.hid a9
    have HG9 := Lib.hid ((Goes.of_below (b := b) (mb := mb) (s := s) (HBW.out.trans (HBV.out.mono HBW.out.size))).trans g9)
    refine hK _ _ ⟨z0, z1, z2⟩ ?_
    clear m9 a9 g9 hvs
    clear hK K
    try simp only [Act.put, List.setIfInBounds_toArray, List.set_cons_zero, List.set_cons_succ]
    first
      | change Exit.then _ _ Exit.normal _ _
      | change Exit.inBlock _ _ Exit.normal _ _
    go_wp2_with fail
    go_end0
    rw [HR.out]
    exact ⟨rfl, s9, HM9.out, HA9.out, HG9.out⟩
end

section
open Go.RowKit
set_option maxRecDepth 100000
set_option linter.unusedVariables false
set_option linter.unusedSimpArgs false

set_option maxHeartbeats 16000000 in
theorem do_hard {B0 b mb : Nat} {ov : OptV} {s : MS} {w : World} (h : MAt B0 b mb ov s w) {ind : Ind} {p : Option Addr} (hi : IndAt w (s.F b mb w) ind p) (flat : Bool) {d : Doc} {a : Addr} (hd : DocAt w B0 (s.F b mb w) d a) (hok : CmOk ind d) (hk : d.kind = 5) (hw : s.weight + d.wt ≤ 8388608) :
    Calls Tryd.prog 37 #[.pointer (some ⟨b, 0, none⟩), .agg #[.pointer p, .bool flat, .pointer (some a)]] w fun e w' => Ends B0 b mb ov s w (doM ov.o s.mach ⟨ind, flat, d⟩) e w' := by
  obtain ⟨g, off, kv, rfl, hFg, h6, hkv⟩ := hd
  obtain ⟨A, cap, hkvs⟩ := hkv.slice
  rw [hkvs] at hkv
  obtain ⟨hn0, hnc, kg, koff, hA, hds⟩ := docs_kids h hkv
  have hnl := kids_len_bulk hok.bulk
  have hbW : Below w.heap.size w (w.alloc (.cells #[.pointer p, .bool flat, .pointer (some ⟨g, off, none⟩)] 69)) := (Below.refl _ w).alloc (Nat.le_refl _) _
  have hcW : Blk (w.alloc (.cells #[.pointer p, .bool flat, .pointer (some ⟨g, off, none⟩)] 69)) w.heap.size [.pointer p, .bool flat, .pointer (some ⟨g, off, none⟩)] 69 := Blk.new' (W := w) _ _ rfl
  obtain ⟨W, hW⟩ : ∃ W, W = w.alloc (.cells #[.pointer p, .bool flat, .pointer (some ⟨g, off, none⟩)] 69) := ⟨_, rfl⟩
  rw [← hW] at hbW hcW
  have hgl : g < w.heap.size := hFg.1
  have k0 := (hbW.cell (p := ⟨g, off, none⟩) hgl).trans h6.kind
  have k2 := (hbW.cell (p := ⟨g, off + 2, none⟩) hgl).trans h6.kids
  rw [hk] at k0
  rw [hkvs] at k2
  have HFA : Hid (FAt B0 b mb ov s w p s W) := Lib.hid { m := h.below hbW, g := Goes.of_below hbW, x := hcW.cell 0, lt := hcW.lt, nx := fun hx => by have := h.X_lt hx; omega }
  have x0 := hcW.cell 0
  have x1 := hcW.cell 1
  have x2 := hcW.cell 2
  simp only [List.getElem?_cons_zero, List.getElem?_cons_succ] at x0 x1 x2
  have hWs := hcW.lt
  have HWW := Lib.hid hW
  have HM := Lib.hid h
  have HI := Lib.hid hi
  have HOK := Lib.hid hok
  have HDS := Lib.hid hds
  have HBW := Lib.hid hbW
  have HWT := Lib.hid hw
  have HK := Lib.hid hk
  have HA := Lib.hid hA
  have HFG := Lib.hid hFg
  have hdd : DocAt w B0 (s.F b mb w) d ⟨g, off, none⟩ := ⟨g, off, _, rfl, hFg, h6, by rw [hkvs]; exact hkv⟩
  have HDD := Lib.hid hdd
  have HR : Hid (doM ov.o s.mach ⟨ind, flat, d⟩ = lineM ov.o s.mach (Cm.cmd ⟨ind, flat, d, p, ⟨g, off, none⟩⟩)) := Lib.hid (by
    cases d
    simp only [Doc.kind] at hk
    subst hk
    rfl)
  have HF := Lib.hid (line_is HFA.out.m ⟨ind, flat, d, p, ⟨g, off, none⟩⟩ ⟨HOK.out, HFA.out.g.ind HI.out, HM.out.doc_goes HFA.out.g HDD.out⟩ HWT.out)
  clear hdd
  clear h hi hok hds hbW hW hw hcW h6 hkv hFg hkvs hA hn0 hk hnc
  go_enter Tryd.func37, Tryd.ntmps37
  go_upto_region 1 with fail
  rw [← HWW.out]
  go_wp2_with fail
  refine HF.out.mono ?_
  intro e w9 he
  have HE := Lib.hid he
  clear he
  cases hl : lineM ov.o s.mach (Cm.cmd ⟨ind, flat, d, p, ⟨g, off, none⟩⟩) with
  | none =>
    obtain ⟨rfl, hfr⟩ := ends_none HE.out hl
    refine ⟨rfl, ?_⟩
    rw [HR.out, hl]
    exact ⟨rfl, ends_long HFA.out.g hfr⟩
  | some m1 =>
    obtain ⟨rfl, s9, m9, a9, g9⟩ := ends_some HE.out hl
    have HLM := Lib.hid hl
    have HM9 := Lib.hid m9
    have HA9 := Lib.hid a9
    have HG9 := Lib.hid (HFA.out.g.trans g9)
    clear m9 a9 g9 hl
    go_wp2_with fail
    go_end0
    rw [HR.out, HLM.out]
    exact ⟨rfl, s9, HM9.out, HA9.out, HG9.out⟩

set_option maxHeartbeats 16000000 in
theorem do_literal {B0 b mb : Nat} {ov : OptV} {s : MS} {w : World} (h : MAt B0 b mb ov s w) {ind : Ind} {p : Option Addr} (hi : IndAt w (s.F b mb w) ind p) (flat : Bool) {d : Doc} {a : Addr} (hd : DocAt w B0 (s.F b mb w) d a) (hok : CmOk ind d) (hk : d.kind = 6) (hw : s.weight + d.wt ≤ 8388608) :
    Calls Tryd.prog 37 #[.pointer (some ⟨b, 0, none⟩), .agg #[.pointer p, .bool flat, .pointer (some a)]] w fun e w' => Ends B0 b mb ov s w (doM ov.o s.mach ⟨ind, flat, d⟩) e w' := by
  obtain ⟨g, off, kv, rfl, hFg, h6, hkv⟩ := hd
  obtain ⟨A, cap, hkvs⟩ := hkv.slice
  rw [hkvs] at hkv
  obtain ⟨hn0, hnc, kg, koff, hA, hds⟩ := docs_kids h hkv
  have hnl := kids_len_bulk hok.bulk
  have hbW : Below w.heap.size w (w.alloc (.cells #[.pointer p, .bool flat, .pointer (some ⟨g, off, none⟩)] 69)) := (Below.refl _ w).alloc (Nat.le_refl _) _
  have hcW : Blk (w.alloc (.cells #[.pointer p, .bool flat, .pointer (some ⟨g, off, none⟩)] 69)) w.heap.size [.pointer p, .bool flat, .pointer (some ⟨g, off, none⟩)] 69 := Blk.new' (W := w) _ _ rfl
  obtain ⟨W, hW⟩ : ∃ W, W = w.alloc (.cells #[.pointer p, .bool flat, .pointer (some ⟨g, off, none⟩)] 69) := ⟨_, rfl⟩
  rw [← hW] at hbW hcW
  have hgl : g < w.heap.size := hFg.1
  have k0 := (hbW.cell (p := ⟨g, off, none⟩) hgl).trans h6.kind
  have k2 := (hbW.cell (p := ⟨g, off + 2, none⟩) hgl).trans h6.kids
  rw [hk] at k0
  rw [hkvs] at k2
  have HFA : Hid (FAt B0 b mb ov s w p s W) := Lib.hid { m := h.below hbW, g := Goes.of_below hbW, x := hcW.cell 0, lt := hcW.lt, nx := fun hx => by have := h.X_lt hx; omega }
  have x0 := hcW.cell 0
  have x1 := hcW.cell 1
  have x2 := hcW.cell 2
  simp only [List.getElem?_cons_zero, List.getElem?_cons_succ] at x0 x1 x2
  have hWs := hcW.lt
  have HWW := Lib.hid hW
  have HM := Lib.hid h
  have HI := Lib.hid hi
  have HOK := Lib.hid hok
  have HDS := Lib.hid hds
  have HBW := Lib.hid hbW
  have HWT := Lib.hid hw
  have HK := Lib.hid hk
  have HA := Lib.hid hA
  have HFG := Lib.hid hFg
  have hdd : DocAt w B0 (s.F b mb w) d ⟨g, off, none⟩ := ⟨g, off, _, rfl, hFg, h6, by rw [hkvs]; exact hkv⟩
  have HDD := Lib.hid hdd
  have HR : Hid (doM ov.o s.mach ⟨ind, flat, d⟩ = lineM ov.o s.mach (Cm.cmd ⟨ind, flat, d, p, ⟨g, off, none⟩⟩)) := Lib.hid (by
    cases d
    simp only [Doc.kind] at hk
    subst hk
    rfl)
  have HF := Lib.hid (line_is HFA.out.m ⟨ind, flat, d, p, ⟨g, off, none⟩⟩ ⟨HOK.out, HFA.out.g.ind HI.out, HM.out.doc_goes HFA.out.g HDD.out⟩ HWT.out)
  clear hdd
  clear h hi hok hds hbW hW hw hcW h6 hkv hFg hkvs hA hn0 hk hnc
  go_enter Tryd.func37, Tryd.ntmps37
  go_upto_region 1 with fail
  rw [← HWW.out]
  go_wp2_with fail
  refine HF.out.mono ?_
  intro e w9 he
  have HE := Lib.hid he
  clear he
  cases hl : lineM ov.o s.mach (Cm.cmd ⟨ind, flat, d, p, ⟨g, off, none⟩⟩) with
  | none =>
    obtain ⟨rfl, hfr⟩ := ends_none HE.out hl
    refine ⟨rfl, ?_⟩
    rw [HR.out, hl]
    exact ⟨rfl, ends_long HFA.out.g hfr⟩
  | some m1 =>
    obtain ⟨rfl, s9, m9, a9, g9⟩ := ends_some HE.out hl
    have HLM := Lib.hid hl
    have HM9 := Lib.hid m9
    have HA9 := Lib.hid a9
    have HG9 := Lib.hid (HFA.out.g.trans g9)
    clear m9 a9 g9 hl
    go_wp2_with fail
    go_end0
    rw [HR.out, HLM.out]
    exact ⟨rfl, s9, HM9.out, HA9.out, HG9.out⟩
end

section
open Go.RowKit
set_option maxRecDepth 100000
set_option linter.unusedVariables false
set_option linter.unusedSimpArgs false

set_option maxHeartbeats 16000000 in
theorem do_break {B0 b mb : Nat} {ov : OptV} {s : MS} {w : World} (h : MAt B0 b mb ov s w) {ind : Ind} {p : Option Addr} (hi : IndAt w (s.F b mb w) ind p) (flat : Bool) {d : Doc} {a : Addr} (hd : DocAt w B0 (s.F b mb w) d a) (hok : CmOk ind d) (hk : d.kind = 16) (hw : s.weight + d.wt ≤ 8388608) :
    Calls Tryd.prog 37 #[.pointer (some ⟨b, 0, none⟩), .agg #[.pointer p, .bool flat, .pointer (some a)]] w fun e w' => Ends B0 b mb ov s w (doM ov.o s.mach ⟨ind, flat, d⟩) e w' := by
  obtain ⟨g, off, kv, rfl, hFg, h6, hkv⟩ := hd
  obtain ⟨A, cap, hkvs⟩ := hkv.slice
  rw [hkvs] at hkv
  obtain ⟨hn0, hnc, kg, koff, hA, hds⟩ := docs_kids h hkv
  have hnl := kids_len_bulk hok.bulk
  have hbW : Below w.heap.size w (w.alloc (.cells #[.pointer p, .bool flat, .pointer (some ⟨g, off, none⟩)] 69)) := (Below.refl _ w).alloc (Nat.le_refl _) _
  have hcW : Blk (w.alloc (.cells #[.pointer p, .bool flat, .pointer (some ⟨g, off, none⟩)] 69)) w.heap.size [.pointer p, .bool flat, .pointer (some ⟨g, off, none⟩)] 69 := Blk.new' (W := w) _ _ rfl
  obtain ⟨W, hW⟩ : ∃ W, W = w.alloc (.cells #[.pointer p, .bool flat, .pointer (some ⟨g, off, none⟩)] 69) := ⟨_, rfl⟩
  rw [← hW] at hbW hcW
  have hgl : g < w.heap.size := hFg.1
  have k0 := (hbW.cell (p := ⟨g, off, none⟩) hgl).trans h6.kind
  have k2 := (hbW.cell (p := ⟨g, off + 2, none⟩) hgl).trans h6.kids
  rw [hk] at k0
  rw [hkvs] at k2
  have HFA : Hid (FAt B0 b mb ov s w p s W) := Lib.hid { m := h.below hbW, g := Goes.of_below hbW, x := hcW.cell 0, lt := hcW.lt, nx := fun hx => by have := h.X_lt hx; omega }
  have x0 := hcW.cell 0
  have x1 := hcW.cell 1
  have x2 := hcW.cell 2
  simp only [List.getElem?_cons_zero, List.getElem?_cons_succ] at x0 x1 x2
  have hWs := hcW.lt
  have HWW := Lib.hid hW
  have HM := Lib.hid h
  have HI := Lib.hid hi
  have HOK := Lib.hid hok
  have HDS := Lib.hid hds
  have HBW := Lib.hid hbW
  have HWT := Lib.hid hw
  have HK := Lib.hid hk
  have HA := Lib.hid hA
  have HFG := Lib.hid hFg
  have HR : Hid (doM ov.o s.mach ⟨ind, flat, d⟩ = some s.mach) := Lib.hid (by
    cases d
    simp only [Doc.kind] at hk
    subst hk
    rfl)
  clear h hi hok hds hbW hW hw hcW h6 hkv hFg hkvs hA hn0 hk hnc
  go_enter Tryd.func37, Tryd.ntmps37
  go_upto_region 1 with fail
  rw [← HWW.out]
  go_wp2_with fail
  go_end0
  rw [HR.out]
  exact ⟨rfl, s, rfl, HFA.out.m, HFA.out.g⟩

set_option maxHeartbeats 16000000 in
theorem do_soft {B0 b mb : Nat} {ov : OptV} {s : MS} {w : World} (h : MAt B0 b mb ov s w) {ind : Ind} {p : Option Addr} (hi : IndAt w (s.F b mb w) ind p) (flat : Bool) {d : Doc} {a : Addr} (hd : DocAt w B0 (s.F b mb w) d a) (hok : CmOk ind d) (hk : d.kind = 4) (hw : s.weight + d.wt ≤ 8388608) :
    Calls Tryd.prog 37 #[.pointer (some ⟨b, 0, none⟩), .agg #[.pointer p, .bool flat, .pointer (some a)]] w fun e w' => Ends B0 b mb ov s w (doM ov.o s.mach ⟨ind, flat, d⟩) e w' := by
  obtain ⟨g, off, kv, rfl, hFg, h6, hkv⟩ := hd
  obtain ⟨A, cap, hkvs⟩ := hkv.slice
  rw [hkvs] at hkv
  obtain ⟨hn0, hnc, kg, koff, hA, hds⟩ := docs_kids h hkv
  have hnl := kids_len_bulk hok.bulk
  have hbW : Below w.heap.size w (w.alloc (.cells #[.pointer p, .bool flat, .pointer (some ⟨g, off, none⟩)] 69)) := (Below.refl _ w).alloc (Nat.le_refl _) _
  have hcW : Blk (w.alloc (.cells #[.pointer p, .bool flat, .pointer (some ⟨g, off, none⟩)] 69)) w.heap.size [.pointer p, .bool flat, .pointer (some ⟨g, off, none⟩)] 69 := Blk.new' (W := w) _ _ rfl
  obtain ⟨W, hW⟩ : ∃ W, W = w.alloc (.cells #[.pointer p, .bool flat, .pointer (some ⟨g, off, none⟩)] 69) := ⟨_, rfl⟩
  rw [← hW] at hbW hcW
  have hgl : g < w.heap.size := hFg.1
  have k0 := (hbW.cell (p := ⟨g, off, none⟩) hgl).trans h6.kind
  have k2 := (hbW.cell (p := ⟨g, off + 2, none⟩) hgl).trans h6.kids
  rw [hk] at k0
  rw [hkvs] at k2
  have HFA : Hid (FAt B0 b mb ov s w p s W) := Lib.hid { m := h.below hbW, g := Goes.of_below hbW, x := hcW.cell 0, lt := hcW.lt, nx := fun hx => by have := h.X_lt hx; omega }
  have x0 := hcW.cell 0
  have x1 := hcW.cell 1
  have x2 := hcW.cell 2
  simp only [List.getElem?_cons_zero, List.getElem?_cons_succ] at x0 x1 x2
  have hWs := hcW.lt
  have HWW := Lib.hid hW
  have HM := Lib.hid h
  have HI := Lib.hid hi
  have HOK := Lib.hid hok
  have HDS := Lib.hid hds
  have HBW := Lib.hid hbW
  have HWT := Lib.hid hw
  have HK := Lib.hid hk
  have HA := Lib.hid hA
  have HFG := Lib.hid hFg
  have hdd : DocAt w B0 (s.F b mb w) d ⟨g, off, none⟩ := ⟨g, off, _, rfl, hFg, h6, by rw [hkvs]; exact hkv⟩
  have HDD := Lib.hid hdd
  have HRF : Hid (doM ov.o s.mach ⟨ind, flat, d⟩ = if flat then some s.mach else lineM ov.o s.mach (Cm.cmd ⟨ind, flat, d, p, ⟨g, off, none⟩⟩)) := Lib.hid (by
    cases d
    simp only [Doc.kind] at hk
    subst hk
    rfl)
  clear hdd
  clear h hi hok hds hbW hW hw hcW h6 hkv hFg hkvs hA hn0 hk hnc
  cases flat
  · have HR : Hid (doM ov.o s.mach ⟨ind, false, d⟩ = lineM ov.o s.mach (Cm.cmd ⟨ind, false, d, p, ⟨g, off, none⟩⟩)) := Lib.hid HRF.out
    have HF := Lib.hid (line_is HFA.out.m ⟨ind, false, d, p, ⟨g, off, none⟩⟩ ⟨HOK.out, HFA.out.g.ind HI.out, HM.out.doc_goes HFA.out.g HDD.out⟩ HWT.out)
    go_enter Tryd.func37, Tryd.ntmps37
    go_upto_region 1 with fail
    rw [← HWW.out]
    go_wp2_with fail
    refine HF.out.mono ?_
    intro e w9 he
    have HE := Lib.hid he
    clear he
    cases hl : lineM ov.o s.mach (Cm.cmd ⟨ind, false, d, p, ⟨g, off, none⟩⟩) with
    | none =>
      obtain ⟨rfl, hfr⟩ := ends_none HE.out hl
      refine ⟨rfl, ?_⟩
      rw [HR.out, hl]
      exact ⟨rfl, ends_long HFA.out.g hfr⟩
    | some m1 =>
      obtain ⟨rfl, s9, m9, a9, g9⟩ := ends_some HE.out hl
      have HLM := Lib.hid hl
      have HM9 := Lib.hid m9
      have HA9 := Lib.hid a9
      have HG9 := Lib.hid (HFA.out.g.trans g9)
      clear m9 a9 g9 hl
      go_wp2_with fail
      go_end0
      rw [HR.out, HLM.out]
      exact ⟨rfl, s9, HM9.out, HA9.out, HG9.out⟩
  · have HR : Hid (doM ov.o s.mach ⟨ind, true, d⟩ = some s.mach) := Lib.hid HRF.out
    go_enter Tryd.func37, Tryd.ntmps37
    go_upto_region 1 with fail
    rw [← HWW.out]
    go_wp2_with fail
    go_end0
    rw [HR.out]
    exact ⟨rfl, s, rfl, HFA.out.m, HFA.out.g⟩
end
end Go.Proofs.YthljgiimdcbfpaaDoor
