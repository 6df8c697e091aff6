/- Package layout: do, aligns (printed by gen_do2.py). -/
import Derived.Test.YthljgiimdcbfpaaDoorMDoD
namespace Go.Proofs.YthljgiimdcbfpaaDoor
open Go.RowKit
set_option maxRecDepth 100000
set_option linter.unusedVariables false
set_option linter.unusedSimpArgs false

theorem by_13 {d : Doc} (hs : d.shape = true) (hk : d.kind = 13) : 0 ≤ d.width ∧ d.width ≤ 10000 := by
  rw [Doc.shape_eq, Bool.and_eq_true] at hs
  have := hs.1
  unfold Doc.formed at this
  rw [hk] at this
  simp [formedF, formedY] at this
  omega

set_option maxHeartbeats 16000000 in
theorem do_align {B0 b mb : Nat} {ov : OptV} {s : MS} {w : World} (h : MAt B0 b mb ov s w) {ind : Ind} {p : Option Addr} (hi : IndAt w (s.F b mb w) ind p) (flat : Bool) {d : Doc} {a : Addr} (hd : DocAt w B0 (s.F b mb w) d a) (hok : CmOk ind d) (hk : d.kind = 13) (hw : s.weight + d.wt ≤ 8388608) :
    Calls Tryd.prog 37 #[.pointer (some ⟨b, 0, none⟩), .agg #[.pointer p, .bool flat, .pointer (some a)]] w fun e w' => Ends B0 b mb ov s w (doM ov.o s.mach ⟨ind, flat, d⟩) e w' := by
  obtain ⟨g, off, kv, rfl, hFg, h6, hkv⟩ := hd
  obtain ⟨A, cap, hkvs⟩ := hkv.slice
  rw [hkvs] at hkv
  obtain ⟨hn0, hnc, kg, koff, hA, hds⟩ := docs_kids h hkv
  have hnl := kids_len_bulk hok.bulk
  have hbW : Below w.heap.size w (w.alloc (.cells #[.pointer p, .bool flat, .pointer (some ⟨g, off, none⟩)] 69)) := (Below.refl _ w).alloc (Nat.le_refl _) _
  have hcW : Blk (w.alloc (.cells #[.pointer p, .bool flat, .pointer (some ⟨g, off, none⟩)] 69)) w.heap.size [.pointer p, .bool flat, .pointer (some ⟨g, off, none⟩)] 69 := Blk.new' (W := w) _ _ rfl
  obtain ⟨W, hW⟩ : ∃ W, W = w.alloc (.cells #[.pointer p, .bool flat, .pointer (some ⟨g, off, none⟩)] 69) := ⟨_, rfl⟩
  rw [← hW] at hbW hcW
  have hgl : g < w.heap.size := hFg.1
  have k0 := (hbW.cell (p := ⟨g, off, none⟩) hgl).trans h6.kind
  have k2 := (hbW.cell (p := ⟨g, off + 2, none⟩) hgl).trans h6.kids
  rw [hk] at k0
  rw [hkvs] at k2
  have HFA : Hid (FAt B0 b mb ov s w p s W) := Lib.hid { m := h.below hbW, g := Goes.of_below hbW, x := hcW.cell 0, lt := hcW.lt, nx := fun hx => by have := h.X_lt hx; omega }
  have x0 := hcW.cell 0
  have x1 := hcW.cell 1
  have x2 := hcW.cell 2
  simp only [List.getElem?_cons_zero, List.getElem?_cons_succ] at x0 x1 x2
  have hWs := hcW.lt
  have HWW := Lib.hid hW
  have HM := Lib.hid h
  have HI := Lib.hid hi
  have HOK := Lib.hid hok
  have HDS := Lib.hid hds
  have HBW := Lib.hid hbW
  have HWT := Lib.hid hw
  have HK := Lib.hid hk
  have HA := Lib.hid hA
  have HFG := Lib.hid hFg
  have hn1 := kids_13 hok.shape hk
  obtain rfl := hA (by omega)
  rw [hn1] at k2
  have hgW : g < W.heap.size := Nat.lt_of_lt_of_le hgl hbW.size
  have HX : Hid (¬ s.X b mb w.heap.size) := Lib.hid HFA.out.nx
  have HWB := Lib.hid (wide_bound hok)
  have HSZ := Lib.hid hbW.size
  have HN1 := Lib.hid hn1
  have HTB := Lib.hid (by_13 hok.shape hk)
  have k5 := (hbW.cell (p := ⟨g, off + 5, none⟩) hgl).trans h6.width
  have HR : Hid (doM ov.o s.mach ⟨ind, flat, d⟩ = some (pushM s.mach ((false, d.width) :: ind) flat [d.kids[0]])) := Lib.hid (by
    rw [← kid0_nth (by omega)]
    cases d
    simp only [Doc.kind] at hk
    subst hk
    rfl)
  clear h hi hok hds hbW hW hw hcW h6 hkv hFg hkvs hn0 hk hnc
  generalize d.width = y at *
  have hw1 : IntKind.i64.wrap (Ind.wide ind + y) = Ind.wide ind + y := by rw [IntKind.wrap_i64]; have := HWB.out; have := HTB.out; omega
  go_enter Tryd.func37, Tryd.ntmps37
  go_upto_region 1 with fail
  rw [← HWW.out]
  go_upto_region 11 with fail
  refine wp_region_held (S := fun w' => w'.heap[w.heap.size]? = W.heap[w.heap.size]? ∧ w'.heap[g]? = W.heap[g]?) (by kernel_rfl) ?_
  change wpAnyH _ _ _ _ _ 26 _ _ _
  refine any_take 0 rfl (by kernel_rfl) (by kernel_rfl) (by kernel_rfl) rfl (by intro _ _ d _ _ h; cases d <;> exact h) ⟨(Below.refl W.heap.size W).block _ hWs, (Below.refl W.heap.size W).block _ hgW⟩ ?_
  apply Exists.intro
  refine ⟨fun wq hq => ?_, ?_⟩
  · have qx0 := (World.cell?_of_block (a := ⟨w.heap.size, 0, none⟩) hq.1).trans x0; have qx1 := (World.cell?_of_block (a := ⟨w.heap.size, 1, none⟩) hq.1).trans x1; have qx2 := (World.cell?_of_block (a := ⟨w.heap.size, 2, none⟩) hq.1).trans x2; have qk2 := (World.cell?_of_block (a := ⟨g, off + 2, none⟩) hq.2).trans k2; have qk5 := (World.cell?_of_block (a := ⟨g, off + 5, none⟩) hq.2).trans k5
    go_simp
    first | done | rfl
  simp only [Act.put, List.setIfInBounds_toArray, List.set_cons_zero, List.set_cons_succ]
  refine any_take 1 rfl (by kernel_rfl) (by kernel_rfl) (by kernel_rfl) rfl (by intro _ _ d _ _ h; cases d <;> exact h) ⟨(Below.refl W.heap.size W).block _ hWs, (Below.refl W.heap.size W).block _ hgW⟩ ?_
  apply Exists.intro
  refine ⟨fun wq hq => ?_, ?_⟩
  · have qx0 := (World.cell?_of_block (a := ⟨w.heap.size, 0, none⟩) hq.1).trans x0; have qx1 := (World.cell?_of_block (a := ⟨w.heap.size, 1, none⟩) hq.1).trans x1; have qx2 := (World.cell?_of_block (a := ⟨w.heap.size, 2, none⟩) hq.1).trans x2; have qk2 := (World.cell?_of_block (a := ⟨g, off + 2, none⟩) hq.2).trans k2; have qk5 := (World.cell?_of_block (a := ⟨g, off + 5, none⟩) hq.2).trans k5
    go_simp
    first | done | rfl
  simp only [Act.put, List.setIfInBounds_toArray, List.set_cons_zero, List.set_cons_succ]
  refine any_take 2 rfl (by kernel_rfl) (by kernel_rfl) (by kernel_rfl) rfl (by intro _ _ d _ _ h; cases d <;> exact h) ⟨(Below.refl W.heap.size W).block _ hWs, (Below.refl W.heap.size W).block _ hgW⟩ ?_
  apply Exists.intro
  refine ⟨fun wq hq => ?_, ?_⟩
  · have qx0 := (World.cell?_of_block (a := ⟨w.heap.size, 0, none⟩) hq.1).trans x0; have qx1 := (World.cell?_of_block (a := ⟨w.heap.size, 1, none⟩) hq.1).trans x1; have qx2 := (World.cell?_of_block (a := ⟨w.heap.size, 2, none⟩) hq.1).trans x2; have qk2 := (World.cell?_of_block (a := ⟨g, off + 2, none⟩) hq.2).trans k2; have qk5 := (World.cell?_of_block (a := ⟨g, off + 5, none⟩) hq.2).trans k5
    go_simp
    first | done | rfl
  simp only [Act.put, List.setIfInBounds_toArray, List.set_cons_zero, List.set_cons_succ]
  refine any_take 3 rfl (by kernel_rfl) (by kernel_rfl) (by kernel_rfl) rfl (by intro _ _ d _ _ h; cases d <;> exact h) ⟨(Below.refl W.heap.size W).block _ hWs, (Below.refl W.heap.size W).block _ hgW⟩ ?_
  apply Exists.intro
  refine ⟨fun wq hq => ?_, ?_⟩
  · have qx0 := (World.cell?_of_block (a := ⟨w.heap.size, 0, none⟩) hq.1).trans x0; have qx1 := (World.cell?_of_block (a := ⟨w.heap.size, 1, none⟩) hq.1).trans x1; have qx2 := (World.cell?_of_block (a := ⟨w.heap.size, 2, none⟩) hq.1).trans x2; have qk2 := (World.cell?_of_block (a := ⟨g, off + 2, none⟩) hq.2).trans k2; have qk5 := (World.cell?_of_block (a := ⟨g, off + 5, none⟩) hq.2).trans k5
    go_simp
    first | done | rfl
  simp only [Act.put, List.setIfInBounds_toArray, List.set_cons_zero, List.set_cons_succ]
  refine any_take 4 rfl (by kernel_rfl) (by kernel_rfl) (by kernel_rfl) rfl (by intro _ _ d _ _ h; cases d <;> exact h) ⟨(Below.refl W.heap.size W).block _ hWs, (Below.refl W.heap.size W).block _ hgW⟩ ?_
  apply Exists.intro
  refine ⟨fun wq hq => ?_, ?_⟩
  · have qx0 := (World.cell?_of_block (a := ⟨w.heap.size, 0, none⟩) hq.1).trans x0; have qx1 := (World.cell?_of_block (a := ⟨w.heap.size, 1, none⟩) hq.1).trans x1; have qx2 := (World.cell?_of_block (a := ⟨w.heap.size, 2, none⟩) hq.1).trans x2; have qk2 := (World.cell?_of_block (a := ⟨g, off + 2, none⟩) hq.2).trans k2; have qk5 := (World.cell?_of_block (a := ⟨g, off + 5, none⟩) hq.2).trans k5
    go_simp
    first | done | rfl
  simp only [Act.put, List.setIfInBounds_toArray, List.set_cons_zero, List.set_cons_succ]
  refine any_take 5 rfl (by kernel_rfl) (by kernel_rfl) (by kernel_rfl) rfl (by intro _ _ d _ _ h; cases d <;> exact h) ⟨(Below.refl W.heap.size W).block _ hWs, (Below.refl W.heap.size W).block _ hgW⟩ ?_
  apply Exists.intro
  refine ⟨fun wq hq => ?_, ?_⟩
  · have qx0 := (World.cell?_of_block (a := ⟨w.heap.size, 0, none⟩) hq.1).trans x0; have qx1 := (World.cell?_of_block (a := ⟨w.heap.size, 1, none⟩) hq.1).trans x1; have qx2 := (World.cell?_of_block (a := ⟨w.heap.size, 2, none⟩) hq.1).trans x2; have qk2 := (World.cell?_of_block (a := ⟨g, off + 2, none⟩) hq.2).trans k2; have qk5 := (World.cell?_of_block (a := ⟨g, off + 5, none⟩) hq.2).trans k5
    go_simp
    first | done | rfl
  simp only [Act.put, List.setIfInBounds_toArray, List.set_cons_zero, List.set_cons_succ]
  refine any_take 6 rfl (by kernel_rfl) (by kernel_rfl) (by kernel_rfl) rfl (by intro _ _ d _ _ h; cases d <;> exact h) ⟨(Below.refl W.heap.size W).block _ hWs, (Below.refl W.heap.size W).block _ hgW⟩ ?_
  apply Exists.intro
  refine ⟨fun wq hq => ?_, ?_⟩
  · have qx0 := (World.cell?_of_block (a := ⟨w.heap.size, 0, none⟩) hq.1).trans x0; have qx1 := (World.cell?_of_block (a := ⟨w.heap.size, 1, none⟩) hq.1).trans x1; have qx2 := (World.cell?_of_block (a := ⟨w.heap.size, 2, none⟩) hq.1).trans x2; have qk2 := (World.cell?_of_block (a := ⟨g, off + 2, none⟩) hq.2).trans k2; have qk5 := (World.cell?_of_block (a := ⟨g, off + 5, none⟩) hq.2).trans k5
    go_simp
    first | done | rfl
  simp only [Act.put, List.setIfInBounds_toArray, List.set_cons_zero, List.set_cons_succ]
  refine any_take 7 rfl (by kernel_rfl) (by kernel_rfl) (by kernel_rfl) rfl (by intro _ _ d _ _ h; cases d <;> exact h) ⟨(Below.refl W.heap.size W).block _ hWs, (Below.refl W.heap.size W).block _ hgW⟩ ?_
  apply Exists.intro
  refine ⟨fun wq hq => ?_, ?_⟩
  · have qx0 := (World.cell?_of_block (a := ⟨w.heap.size, 0, none⟩) hq.1).trans x0; have qx1 := (World.cell?_of_block (a := ⟨w.heap.size, 1, none⟩) hq.1).trans x1; have qx2 := (World.cell?_of_block (a := ⟨w.heap.size, 2, none⟩) hq.1).trans x2; have qk2 := (World.cell?_of_block (a := ⟨g, off + 2, none⟩) hq.2).trans k2; have qk5 := (World.cell?_of_block (a := ⟨g, off + 5, none⟩) hq.2).trans k5
    go_simp
    first | done | rfl
  simp only [Act.put, List.setIfInBounds_toArray, List.set_cons_zero, List.set_cons_succ]
  refine any_take 8 rfl (by kernel_rfl) (by kernel_rfl) (by kernel_rfl) rfl (by intro _ _ d _ _ h; cases d <;> exact h) ⟨(Below.refl W.heap.size W).block _ hWs, (Below.refl W.heap.size W).block _ hgW⟩ ?_
  apply Exists.intro
  refine ⟨fun wq hq => ?_, ?_⟩
  · have qx0 := (World.cell?_of_block (a := ⟨w.heap.size, 0, none⟩) hq.1).trans x0; have qx1 := (World.cell?_of_block (a := ⟨w.heap.size, 1, none⟩) hq.1).trans x1; have qx2 := (World.cell?_of_block (a := ⟨w.heap.size, 2, none⟩) hq.1).trans x2; have qk2 := (World.cell?_of_block (a := ⟨g, off + 2, none⟩) hq.2).trans k2; have qk5 := (World.cell?_of_block (a := ⟨g, off + 5, none⟩) hq.2).trans k5
    go_simp
    first | done | rfl
  simp only [Act.put, List.setIfInBounds_toArray, List.set_cons_zero, List.set_cons_succ]
  refine any_take 10 rfl (by kernel_rfl) (by kernel_rfl) (by kernel_rfl) rfl (by intro _ _ d _ _ h; cases d <;> exact h) ⟨(Below.refl W.heap.size W).block _ hWs, (Below.refl W.heap.size W).block _ hgW⟩ ?_
  apply Exists.intro
  refine ⟨fun wq hq => ?_, ?_⟩
  · have qx0 := (World.cell?_of_block (a := ⟨w.heap.size, 0, none⟩) hq.1).trans x0; have qx1 := (World.cell?_of_block (a := ⟨w.heap.size, 1, none⟩) hq.1).trans x1; have qx2 := (World.cell?_of_block (a := ⟨w.heap.size, 2, none⟩) hq.1).trans x2; have qk2 := (World.cell?_of_block (a := ⟨g, off + 2, none⟩) hq.2).trans k2; have qk5 := (World.cell?_of_block (a := ⟨g, off + 5, none⟩) hq.2).trans k5
    go_simp
    first | done | rfl
  simp only [Act.put, List.setIfInBounds_toArray, List.set_cons_zero, List.set_cons_succ]
  refine any_take 11 rfl (by kernel_rfl) (by kernel_rfl) (by kernel_rfl) rfl (by intro _ _ d _ _ h; cases d <;> exact h) ⟨(Below.refl W.heap.size W).block _ hWs, (Below.refl W.heap.size W).block _ hgW⟩ ?_
  apply Exists.intro
  refine ⟨fun wq hq => ?_, ?_⟩
  · have qx0 := (World.cell?_of_block (a := ⟨w.heap.size, 0, none⟩) hq.1).trans x0; have qx1 := (World.cell?_of_block (a := ⟨w.heap.size, 1, none⟩) hq.1).trans x1; have qx2 := (World.cell?_of_block (a := ⟨w.heap.size, 2, none⟩) hq.1).trans x2; have qk2 := (World.cell?_of_block (a := ⟨g, off + 2, none⟩) hq.2).trans k2; have qk5 := (World.cell?_of_block (a := ⟨g, off + 5, none⟩) hq.2).trans k5
    go_simp
    first | done | rfl
  simp only [Act.put, List.setIfInBounds_toArray, List.set_cons_zero, List.set_cons_succ]
  refine any_take 12 rfl (by kernel_rfl) (by kernel_rfl) (by kernel_rfl) rfl (by intro _ _ d _ _ h; cases d <;> exact h) ⟨(Below.refl W.heap.size W).block _ hWs, (Below.refl W.heap.size W).block _ hgW⟩ ?_
  apply Exists.intro
  refine ⟨fun wq hq => ?_, ?_⟩
  · have qx0 := (World.cell?_of_block (a := ⟨w.heap.size, 0, none⟩) hq.1).trans x0; have qx1 := (World.cell?_of_block (a := ⟨w.heap.size, 1, none⟩) hq.1).trans x1; have qx2 := (World.cell?_of_block (a := ⟨w.heap.size, 2, none⟩) hq.1).trans x2; have qk2 := (World.cell?_of_block (a := ⟨g, off + 2, none⟩) hq.2).trans k2; have qk5 := (World.cell?_of_block (a := ⟨g, off + 5, none⟩) hq.2).trans k5
    go_simp
    first | done | rfl
  simp only [Act.put, List.setIfInBounds_toArray, List.set_cons_zero, List.set_cons_succ]
  refine any_take 13 rfl (by kernel_rfl) (by kernel_rfl) (by kernel_rfl) rfl (by intro _ _ d _ _ h; cases d <;> exact h) ⟨(Below.refl W.heap.size W).block _ hWs, (Below.refl W.heap.size W).block _ hgW⟩ ?_
  apply Exists.intro
  refine ⟨fun wq hq => ?_, ?_⟩
  · have qx0 := (World.cell?_of_block (a := ⟨w.heap.size, 0, none⟩) hq.1).trans x0; have qx1 := (World.cell?_of_block (a := ⟨w.heap.size, 1, none⟩) hq.1).trans x1; have qx2 := (World.cell?_of_block (a := ⟨w.heap.size, 2, none⟩) hq.1).trans x2; have qk2 := (World.cell?_of_block (a := ⟨g, off + 2, none⟩) hq.2).trans k2; have qk5 := (World.cell?_of_block (a := ⟨g, off + 5, none⟩) hq.2).trans k5
    go_simp
    first | done | rfl
  simp only [Act.put, List.setIfInBounds_toArray, List.set_cons_zero, List.set_cons_succ]
  refine any_take 17 rfl (by kernel_rfl) (by kernel_rfl) (by kernel_rfl) rfl (by intro _ _ d _ _ h; cases d <;> exact h) ⟨(Below.refl W.heap.size W).block _ hWs, (Below.refl W.heap.size W).block _ hgW⟩ ?_
  apply Exists.intro
  refine ⟨fun wq hq => ?_, ?_⟩
  · have qx0 := (World.cell?_of_block (a := ⟨w.heap.size, 0, none⟩) hq.1).trans x0; have qx1 := (World.cell?_of_block (a := ⟨w.heap.size, 1, none⟩) hq.1).trans x1; have qx2 := (World.cell?_of_block (a := ⟨w.heap.size, 2, none⟩) hq.1).trans x2; have qk2 := (World.cell?_of_block (a := ⟨g, off + 2, none⟩) hq.2).trans k2; have qk5 := (World.cell?_of_block (a := ⟨g, off + 5, none⟩) hq.2).trans k5
    go_simp
    first | done | rfl
  simp only [Act.put, List.setIfInBounds_toArray, List.set_cons_zero, List.set_cons_succ]
  refine any_take 18 rfl (by kernel_rfl) (by kernel_rfl) (by kernel_rfl) rfl (by intro _ _ d _ _ h; cases d <;> exact h) ⟨(Below.refl W.heap.size W).block _ hWs, (Below.refl W.heap.size W).block _ hgW⟩ ?_
  apply Exists.intro
  refine ⟨fun wq hq => ?_, ?_⟩
  · have qx0 := (World.cell?_of_block (a := ⟨w.heap.size, 0, none⟩) hq.1).trans x0; have qx1 := (World.cell?_of_block (a := ⟨w.heap.size, 1, none⟩) hq.1).trans x1; have qx2 := (World.cell?_of_block (a := ⟨w.heap.size, 2, none⟩) hq.1).trans x2; have qk2 := (World.cell?_of_block (a := ⟨g, off + 2, none⟩) hq.2).trans k2; have qk5 := (World.cell?_of_block (a := ⟨g, off + 5, none⟩) hq.2).trans k5
    go_simp
    first | done | rfl
  simp only [Act.put, List.setIfInBounds_toArray, List.set_cons_zero, List.set_cons_succ]
  refine any_take 19 rfl (by kernel_rfl) (by kernel_rfl) (by kernel_rfl) rfl (by intro _ _ d _ _ h; cases d <;> exact h) ⟨(Below.refl W.heap.size W).block _ hWs, (Below.refl W.heap.size W).block _ hgW⟩ ?_
  apply Exists.intro
  refine ⟨fun wq hq => ?_, ?_⟩
  · have qx0 := (World.cell?_of_block (a := ⟨w.heap.size, 0, none⟩) hq.1).trans x0; have qx1 := (World.cell?_of_block (a := ⟨w.heap.size, 1, none⟩) hq.1).trans x1; have qx2 := (World.cell?_of_block (a := ⟨w.heap.size, 2, none⟩) hq.1).trans x2; have qk2 := (World.cell?_of_block (a := ⟨g, off + 2, none⟩) hq.2).trans k2; have qk5 := (World.cell?_of_block (a := ⟨g, off + 5, none⟩) hq.2).trans k5
    go_simp
    first | done | rfl
  simp only [Act.put, List.setIfInBounds_toArray, List.set_cons_zero, List.set_cons_succ]
  refine any_take 20 rfl (by kernel_rfl) (by kernel_rfl) (by kernel_rfl) rfl (by intro _ _ d _ _ h; cases d <;> exact h) ⟨(Below.refl W.heap.size W).block _ hWs, (Below.refl W.heap.size W).block _ hgW⟩ ?_
  apply Exists.intro
  refine ⟨fun wq hq => ?_, ?_⟩
  · have qx0 := (World.cell?_of_block (a := ⟨w.heap.size, 0, none⟩) hq.1).trans x0; have qx1 := (World.cell?_of_block (a := ⟨w.heap.size, 1, none⟩) hq.1).trans x1; have qx2 := (World.cell?_of_block (a := ⟨w.heap.size, 2, none⟩) hq.1).trans x2; have qk2 := (World.cell?_of_block (a := ⟨g, off + 2, none⟩) hq.2).trans k2; have qk5 := (World.cell?_of_block (a := ⟨g, off + 5, none⟩) hq.2).trans k5
    go_simp
    first | done | rfl
  simp only [Act.put, List.setIfInBounds_toArray, List.set_cons_zero, List.set_cons_succ]
  refine any_take 21 rfl (by kernel_rfl) (by kernel_rfl) (by kernel_rfl) rfl (by intro _ _ d _ _ h; cases d <;> exact h) ⟨(Below.refl W.heap.size W).block _ hWs, (Below.refl W.heap.size W).block _ hgW⟩ ?_
  apply Exists.intro
  refine ⟨fun wq hq => ?_, ?_⟩
  · have qx0 := (World.cell?_of_block (a := ⟨w.heap.size, 0, none⟩) hq.1).trans x0; have qx1 := (World.cell?_of_block (a := ⟨w.heap.size, 1, none⟩) hq.1).trans x1; have qx2 := (World.cell?_of_block (a := ⟨w.heap.size, 2, none⟩) hq.1).trans x2; have qk2 := (World.cell?_of_block (a := ⟨g, off + 2, none⟩) hq.2).trans k2; have qk5 := (World.cell?_of_block (a := ⟨g, off + 5, none⟩) hq.2).trans k5
    go_simp
    first | done | rfl
  simp only [Act.put, List.setIfInBounds_toArray, List.set_cons_zero, List.set_cons_succ]
  refine any_take 22 rfl (by kernel_rfl) (by kernel_rfl) (by kernel_rfl) rfl (by intro _ _ d _ _ h; cases d <;> exact h) ⟨(Below.refl W.heap.size W).block _ hWs, (Below.refl W.heap.size W).block _ hgW⟩ ?_
  apply Exists.intro
  refine ⟨fun wq hq => ?_, ?_⟩
  · have qx0 := (World.cell?_of_block (a := ⟨w.heap.size, 0, none⟩) hq.1).trans x0; have qx1 := (World.cell?_of_block (a := ⟨w.heap.size, 1, none⟩) hq.1).trans x1; have qx2 := (World.cell?_of_block (a := ⟨w.heap.size, 2, none⟩) hq.1).trans x2; have qk2 := (World.cell?_of_block (a := ⟨g, off + 2, none⟩) hq.2).trans k2; have qk5 := (World.cell?_of_block (a := ⟨g, off + 5, none⟩) hq.2).trans k5
    go_simp
    first | done | rfl
  simp only [Act.put, List.setIfInBounds_toArray, List.set_cons_zero, List.set_cons_succ]
  refine any_take 23 rfl (by kernel_rfl) (by kernel_rfl) (by kernel_rfl) rfl (by intro _ _ d _ _ h; cases d <;> exact h) ⟨(Below.refl W.heap.size W).block _ hWs, (Below.refl W.heap.size W).block _ hgW⟩ ?_
  apply Exists.intro
  refine ⟨fun wq hq => ?_, ?_⟩
  · have qx0 := (World.cell?_of_block (a := ⟨w.heap.size, 0, none⟩) hq.1).trans x0; have qx1 := (World.cell?_of_block (a := ⟨w.heap.size, 1, none⟩) hq.1).trans x1; have qx2 := (World.cell?_of_block (a := ⟨w.heap.size, 2, none⟩) hq.1).trans x2; have qk2 := (World.cell?_of_block (a := ⟨g, off + 2, none⟩) hq.2).trans k2; have qk5 := (World.cell?_of_block (a := ⟨g, off + 5, none⟩) hq.2).trans k5
    go_simp
    first | done | rfl
  simp only [Act.put, List.setIfInBounds_toArray, List.set_cons_zero, List.set_cons_succ]
  refine wpAnyH_all (rs := [9, 24]) (by kernel_rfl) (by simp) (fun i hi => ?_)
  simp only [List.mem_cons, List.not_mem_nil, or_false] at hi
  rcases hi with rfl | rfl
  · refine any_step 9 rfl rfl (fun K hK => ?_)
    go_simp
    refine (wide_is ind p _ _ ((HFA.out.next (Below.refl W.heap.size W).drew).g.ind HI.out)).mono ?_
    rintro e wt ⟨rfl, rfl⟩
    refine hK _ _ ⟨(Below.refl W.heap.size W).drew.block _ hWs, (Below.refl W.heap.size W).drew.block _ hgW⟩ ?_
    clear hK K
    try simp only [Act.put, List.setIfInBounds_toArray, List.set_cons_zero, List.set_cons_succ]
    refine any_take 14 rfl (by kernel_rfl) (by kernel_rfl) (by kernel_rfl) rfl (by intro _ _ d _ _ h; cases d <;> exact h) ⟨(Below.refl W.heap.size W).block _ hWs, (Below.refl W.heap.size W).block _ hgW⟩ ?_
    apply Exists.intro
    refine ⟨fun wq hq => ?_, ?_⟩
    · skip
      go_simp
      first | done | rfl
    simp only [Act.put, List.setIfInBounds_toArray, List.set_cons_zero, List.set_cons_succ]
    refine any_take 15 rfl (by kernel_rfl) (by kernel_rfl) (by kernel_rfl) rfl (by intro _ _ d _ _ h; cases d <;> exact h) ⟨(Below.refl W.heap.size W).block _ hWs, (Below.refl W.heap.size W).block _ hgW⟩ ?_
    apply Exists.intro
    refine ⟨fun wq hq => ?_, ?_⟩
    · skip
      go_simp
      first | done | rfl
    simp only [Act.put, List.setIfInBounds_toArray, List.set_cons_zero, List.set_cons_succ]
    refine wpAnyH_all (rs := [16, 24]) (by kernel_rfl) (by simp) (fun i hi => ?_)
    simp only [List.mem_cons, List.not_mem_nil, or_false] at hi
    rcases hi with rfl | rfl
    · refine any_step 16 rfl rfl (fun K hK => ?_)
      go_simp
      have hbVA : Below W.heap.size W (W.alloc (.cells #[.pointer p, .bool false, .int .i64 y, .int .i64 (Ind.wide ind + y)] 92)).drew := ((Below.refl _ _).alloc (Nat.le_refl _) _).drew
      have hkVA : Blk (W.alloc (.cells #[.pointer p, .bool false, .int .i64 y, .int .i64 (Ind.wide ind + y)] 92)).drew W.heap.size [.pointer p, .bool false, .int .i64 y, .int .i64 (Ind.wide ind + y)] 92 := Blk.new' (W := W) _ _ rfl
      have hiVA : IndAt (W.alloc (.cells #[.pointer p, .bool false, .int .i64 y, .int .i64 (Ind.wide ind + y)] 92)).drew (s.F b mb (W.alloc (.cells #[.pointer p, .bool false, .int .i64 y, .int .i64 (Ind.wide ind + y)] 92)).drew) ((false, y) :: ind) (some ⟨W.heap.size, 0, none⟩) := (ind_new HM.out (false, y) HI.out (w1 := W.drew) (HBW.out.trans ((Below.refl W.heap.size W).drew.mono HBW.out.size)))
      obtain ⟨VA, eVA⟩ : ∃ VA, VA = (W.alloc (.cells #[.pointer p, .bool false, .int .i64 y, .int .i64 (Ind.wide ind + y)] 92)).drew := ⟨_, rfl⟩
      rw [← eVA] at hbVA hkVA hiVA ⊢
      have HKVA := Lib.hid hkVA
      have HLVA := Lib.hid hbVA
      have HWVA : Hid (Below W.heap.size W VA) := Lib.hid ((Below.refl W.heap.size W).trans (hbVA.mono (Below.refl W.heap.size W).size))
      clear hbVA eVA hkVA
      have HI1 := Lib.hid hiVA
      clear hiVA
      refine hK _ _ ⟨HWVA.out.block _ hWs, HWVA.out.block _ hgW⟩ ?_
      clear hK K
      try simp only [Act.put, List.setIfInBounds_toArray, List.set_cons_zero, List.set_cons_succ]
      refine wpAnyH_all (rs := [24]) (by kernel_rfl) (by simp) (fun i hi => ?_)
      obtain rfl : i = 24 := by simpa using hi
      refine any_step 24 rfl rfl (fun K hK => ?_)
      go_simp
      have hbVB : Below VA.heap.size VA (VA.alloc (.cells #[.pointer (some ⟨kg, koff, none⟩)] 66)) := (Below.refl _ _).alloc (Nat.le_refl _) _
      have hkVB : Blk (VA.alloc (.cells #[.pointer (some ⟨kg, koff, none⟩)] 66)) VA.heap.size [.pointer (some ⟨kg, koff, none⟩)] 66 := Blk.new' (W := VA) _ _ rfl
      obtain ⟨VB, eVB⟩ : ∃ VB, VB = (VA.alloc (.cells #[.pointer (some ⟨kg, koff, none⟩)] 66)) := ⟨_, rfl⟩
      rw [← eVB] at hbVB hkVB  ⊢
      have HKVB := Lib.hid hkVB
      have HLVB := Lib.hid hbVB
      have HWVB : Hid (Below W.heap.size W VB) := Lib.hid (HWVA.out.trans (hbVB.mono HWVA.out.size))
      clear hbVB eVB hkVB
      refine hK _ _ ⟨HWVB.out.block _ hWs, HWVB.out.block _ hgW⟩ ?_
      clear hK K
      try simp only [Act.put, List.setIfInBounds_toArray, List.set_cons_zero, List.set_cons_succ]
      refine wpAnyH_all (rs := [25]) (by kernel_rfl) (by simp) (fun i hi => ?_)
      obtain rfl : i = 25 := by simpa using hi
      refine any_step 25 rfl rfl (fun K hK => ?_)
      go_simp
      refine (push_new (n := 1) HM.out (HBW.out.trans (HWVB.out.mono HBW.out.size)) ((Goes.of_below (b := b) (mb := mb) (s := s) HLVB.out).ind HI1.out) flat (docs_nth HDS.out 0 (by have := HN1.out; omega)) (HOK.out.kidIn (List.getElem_mem _) HTB.out.1 HTB.out.2) HKVB.out (by have := HWVA.out.size; have := HSZ.out; omega) rfl (by have := wt_nth d 0 (by have := HN1.out; omega); have := HWT.out; omega)).mono ?_
      rintro e w9 ⟨rfl, t9, m9, a9, g9, f9⟩
      have HM9 := Lib.hid m9
      have HA9 := Lib.hid a9
      have HG9 := Lib.hid g9
      refine hK _ _ ⟨(f9 _ (by have := HWVB.out.size; omega) HX.out).trans (HWVB.out.block _ hWs), (f9 _ (by have := HWVB.out.size; omega) HFG.out.2).trans (HWVB.out.block _ hgW)⟩ ?_
      clear m9 a9 g9 f9
      clear hK K
      try simp only [Act.put, List.setIfInBounds_toArray, List.set_cons_zero, List.set_cons_succ]
      refine wpAnyH_done (by kernel_rfl) ?_ _
      first
        | change Exit.then _ _ Exit.normal _ _
        | change Exit.inBlock _ _ Exit.normal _ _
      go_wp2_with fail
      go_end0
      rw [HR.out]
      exact ⟨rfl, t9, HM9.out, HA9.out, HG9.out⟩
    · refine any_step 24 rfl rfl (fun K hK => ?_)
      go_simp
      have hbVA : Below W.heap.size W (W.alloc (.cells #[.pointer (some ⟨kg, koff, none⟩)] 66)).drew := ((Below.refl _ _).alloc (Nat.le_refl _) _).drew
      have hkVA : Blk (W.alloc (.cells #[.pointer (some ⟨kg, koff, none⟩)] 66)).drew W.heap.size [.pointer (some ⟨kg, koff, none⟩)] 66 := Blk.new' (W := W) _ _ rfl
      obtain ⟨VA, eVA⟩ : ∃ VA, VA = (W.alloc (.cells #[.pointer (some ⟨kg, koff, none⟩)] 66)).drew := ⟨_, rfl⟩
      rw [← eVA] at hbVA hkVA  ⊢
      have HKVA := Lib.hid hkVA
      have HLVA := Lib.hid hbVA
      have HWVA : Hid (Below W.heap.size W VA) := Lib.hid ((Below.refl W.heap.size W).trans (hbVA.mono (Below.refl W.heap.size W).size))
      clear hbVA eVA hkVA
      refine hK _ _ ⟨HWVA.out.block _ hWs, HWVA.out.block _ hgW⟩ ?_
      clear hK K
      try simp only [Act.put, List.setIfInBounds_toArray, List.set_cons_zero, List.set_cons_succ]
      refine wpAnyH_all (rs := [16]) (by kernel_rfl) (by simp) (fun i hi => ?_)
      obtain rfl : i = 16 := by simpa using hi
      refine any_step 16 rfl rfl (fun K hK => ?_)
      go_simp
      have hbVB : Below VA.heap.size VA (VA.alloc (.cells #[.pointer p, .bool false, .int .i64 y, .int .i64 (Ind.wide ind + y)] 92)) := (Below.refl _ _).alloc (Nat.le_refl _) _
      have hkVB : Blk (VA.alloc (.cells #[.pointer p, .bool false, .int .i64 y, .int .i64 (Ind.wide ind + y)] 92)) VA.heap.size [.pointer p, .bool false, .int .i64 y, .int .i64 (Ind.wide ind + y)] 92 := Blk.new' (W := VA) _ _ rfl
      have hiVB : IndAt (VA.alloc (.cells #[.pointer p, .bool false, .int .i64 y, .int .i64 (Ind.wide ind + y)] 92)) (s.F b mb (VA.alloc (.cells #[.pointer p, .bool false, .int .i64 y, .int .i64 (Ind.wide ind + y)] 92))) ((false, y) :: ind) (some ⟨VA.heap.size, 0, none⟩) := (ind_new HM.out (false, y) HI.out (HBW.out.trans (HWVA.out.mono HBW.out.size)))
      obtain ⟨VB, eVB⟩ : ∃ VB, VB = (VA.alloc (.cells #[.pointer p, .bool false, .int .i64 y, .int .i64 (Ind.wide ind + y)] 92)) := ⟨_, rfl⟩
      rw [← eVB] at hbVB hkVB hiVB ⊢
      have HKVB := Lib.hid hkVB
      have HLVB := Lib.hid hbVB
      have HWVB : Hid (Below W.heap.size W VB) := Lib.hid (HWVA.out.trans (hbVB.mono HWVA.out.size))
      clear hbVB eVB hkVB
      have HI1 := Lib.hid hiVB
      clear hiVB
      refine hK _ _ ⟨HWVB.out.block _ hWs, HWVB.out.block _ hgW⟩ ?_
      clear hK K
      try simp only [Act.put, List.setIfInBounds_toArray, List.set_cons_zero, List.set_cons_succ]
      refine wpAnyH_all (rs := [25]) (by kernel_rfl) (by simp) (fun i hi => ?_)
      obtain rfl : i = 25 := by simpa using hi
      refine any_step 25 rfl rfl (fun K hK => ?_)
      go_simp
      refine (push_new (n := 1) HM.out (HBW.out.trans (HWVB.out.mono HBW.out.size)) HI1.out flat (docs_nth HDS.out 0 (by have := HN1.out; omega)) (HOK.out.kidIn (List.getElem_mem _) HTB.out.1 HTB.out.2) (HKVA.out.below HLVB.out) HSZ.out rfl (by have := wt_nth d 0 (by have := HN1.out; omega); have := HWT.out; omega)).mono ?_
      rintro e w9 ⟨rfl, t9, m9, a9, g9, f9⟩
      have HM9 := Lib.hid m9
      have HA9 := Lib.hid a9
      have HG9 := Lib.hid g9
      refine hK _ _ ⟨(f9 _ (by have := HWVB.out.size; omega) HX.out).trans (HWVB.out.block _ hWs), (f9 _ (by have := HWVB.out.size; omega) HFG.out.2).trans (HWVB.out.block _ hgW)⟩ ?_
      clear m9 a9 g9 f9
      clear hK K
      try simp only [Act.put, List.setIfInBounds_toArray, List.set_cons_zero, List.set_cons_succ]
      refine wpAnyH_done (by kernel_rfl) ?_ _
      first
        | change Exit.then _ _ Exit.normal _ _
        | change Exit.inBlock _ _ Exit.normal _ _
      go_wp2_with fail
      go_end0
      rw [HR.out]
      exact ⟨rfl, t9, HM9.out, HA9.out, HG9.out⟩
  · refine any_step 24 rfl rfl (fun K hK => ?_)
    go_simp
    have hbVA : Below W.heap.size W (W.alloc (.cells #[.pointer (some ⟨kg, koff, none⟩)] 66)).drew := ((Below.refl _ _).alloc (Nat.le_refl _) _).drew
    have hkVA : Blk (W.alloc (.cells #[.pointer (some ⟨kg, koff, none⟩)] 66)).drew W.heap.size [.pointer (some ⟨kg, koff, none⟩)] 66 := Blk.new' (W := W) _ _ rfl
    obtain ⟨VA, eVA⟩ : ∃ VA, VA = (W.alloc (.cells #[.pointer (some ⟨kg, koff, none⟩)] 66)).drew := ⟨_, rfl⟩
    rw [← eVA] at hbVA hkVA  ⊢
    have HKVA := Lib.hid hkVA
    have HLVA := Lib.hid hbVA
    have HWVA : Hid (Below W.heap.size W VA) := Lib.hid ((Below.refl W.heap.size W).trans (hbVA.mono (Below.refl W.heap.size W).size))
    clear hbVA eVA hkVA
    refine hK _ _ ⟨HWVA.out.block _ hWs, HWVA.out.block _ hgW⟩ ?_
    clear hK K
    try simp only [Act.put, List.setIfInBounds_toArray, List.set_cons_zero, List.set_cons_succ]
    refine wpAnyH_all (rs := [9]) (by kernel_rfl) (by simp) (fun i hi => ?_)
    obtain rfl : i = 9 := by simpa using hi
    refine any_step 9 rfl rfl (fun K hK => ?_)
    go_simp
    refine (wide_is ind p _ _ ((HFA.out.next HWVA.out).g.ind HI.out)).mono ?_
    rintro e wt ⟨rfl, rfl⟩
    refine hK _ _ ⟨HWVA.out.block _ hWs, HWVA.out.block _ hgW⟩ ?_
    clear hK K
    try simp only [Act.put, List.setIfInBounds_toArray, List.set_cons_zero, List.set_cons_succ]
    refine any_take 14 rfl (by kernel_rfl) (by kernel_rfl) (by kernel_rfl) rfl (by intro _ _ d _ _ h; cases d <;> exact h) ⟨HWVA.out.block _ hWs, HWVA.out.block _ hgW⟩ ?_
    apply Exists.intro
    refine ⟨fun wq hq => ?_, ?_⟩
    · skip
      go_simp
      first | done | rfl
    simp only [Act.put, List.setIfInBounds_toArray, List.set_cons_zero, List.set_cons_succ]
    refine any_take 15 rfl (by kernel_rfl) (by kernel_rfl) (by kernel_rfl) rfl (by intro _ _ d _ _ h; cases d <;> exact h) ⟨HWVA.out.block _ hWs, HWVA.out.block _ hgW⟩ ?_
    apply Exists.intro
    refine ⟨fun wq hq => ?_, ?_⟩
    · skip
      go_simp
      first | done | rfl
    simp only [Act.put, List.setIfInBounds_toArray, List.set_cons_zero, List.set_cons_succ]
    refine wpAnyH_all (rs := [16]) (by kernel_rfl) (by simp) (fun i hi => ?_)
    obtain rfl : i = 16 := by simpa using hi
    refine any_step 16 rfl rfl (fun K hK => ?_)
    go_simp
    have hbVB : Below VA.heap.size VA (VA.alloc (.cells #[.pointer p, .bool false, .int .i64 y, .int .i64 (Ind.wide ind + y)] 92)) := (Below.refl _ _).alloc (Nat.le_refl _) _
    have hkVB : Blk (VA.alloc (.cells #[.pointer p, .bool false, .int .i64 y, .int .i64 (Ind.wide ind + y)] 92)) VA.heap.size [.pointer p, .bool false, .int .i64 y, .int .i64 (Ind.wide ind + y)] 92 := Blk.new' (W := VA) _ _ rfl
    have hiVB : IndAt (VA.alloc (.cells #[.pointer p, .bool false, .int .i64 y, .int .i64 (Ind.wide ind + y)] 92)) (s.F b mb (VA.alloc (.cells #[.pointer p, .bool false, .int .i64 y, .int .i64 (Ind.wide ind + y)] 92))) ((false, y) :: ind) (some ⟨VA.heap.size, 0, none⟩) := (ind_new HM.out (false, y) HI.out (HBW.out.trans (HWVA.out.mono HBW.out.size)))
    obtain ⟨VB, eVB⟩ : ∃ VB, VB = (VA.alloc (.cells #[.pointer p, .bool false, .int .i64 y, .int .i64 (Ind.wide ind + y)] 92)) := ⟨_, rfl⟩
    rw [← eVB] at hbVB hkVB hiVB ⊢
    have HKVB := Lib.hid hkVB
    have HLVB := Lib.hid hbVB
    have HWVB : Hid (Below W.heap.size W VB) := Lib.hid (HWVA.out.trans (hbVB.mono HWVA.out.size))
    clear hbVB eVB hkVB
    have HI1 := Lib.hid hiVB
    clear hiVB
    refine hK _ _ ⟨HWVB.out.block _ hWs, HWVB.out.block _ hgW⟩ ?_
    clear hK K
    try simp only [Act.put, List.setIfInBounds_toArray, List.set_cons_zero, List.set_cons_succ]
    refine wpAnyH_all (rs := [25]) (by kernel_rfl) (by simp) (fun i hi => ?_)
    obtain rfl : i = 25 := by simpa using hi
    refine any_step 25 rfl rfl (fun K hK => ?_)
    go_simp
    refine (push_new (n := 1) HM.out (HBW.out.trans (HWVB.out.mono HBW.out.size)) HI1.out flat (docs_nth HDS.out 0 (by have := HN1.out; omega)) (HOK.out.kidIn (List.getElem_mem _) HTB.out.1 HTB.out.2) (HKVA.out.below HLVB.out) HSZ.out rfl (by have := wt_nth d 0 (by have := HN1.out; omega); have := HWT.out; omega)).mono ?_
    rintro e w9 ⟨rfl, t9, m9, a9, g9, f9⟩
    have HM9 := Lib.hid m9
    have HA9 := Lib.hid a9
    have HG9 := Lib.hid g9
    refine hK _ _ ⟨(f9 _ (by have := HWVB.out.size; omega) HX.out).trans (HWVB.out.block _ hWs), (f9 _ (by have := HWVB.out.size; omega) HFG.out.2).trans (HWVB.out.block _ hgW)⟩ ?_
    clear m9 a9 g9 f9
    clear hK K
    try simp only [Act.put, List.setIfInBounds_toArray, List.set_cons_zero, List.set_cons_succ]
    refine wpAnyH_done (by kernel_rfl) ?_ _
    first
      | change Exit.then _ _ Exit.normal _ _
      | change Exit.inBlock _ _ Exit.normal _ _
    go_wp2_with fail
    go_end0
    rw [HR.out]
    exact ⟨rfl, t9, HM9.out, HA9.out, HG9.out⟩
end Go.Proofs.YthljgiimdcbfpaaDoor
