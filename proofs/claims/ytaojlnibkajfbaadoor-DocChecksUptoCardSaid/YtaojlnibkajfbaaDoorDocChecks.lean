/- DocChecks: the walk. PRINTED by gen_docchecks.py. -/
import Derived.Test.YtaojlnibkajfbaaDoorRefFlat15
import Derived.Test.YtaojlnibkajfbaaDoorDocMem
import Derived.Test.YtaojlnibkajfbaaDoorDocAwake
import Derived.Test.YtaojlnibkajfbaaDoorDocShallow
namespace Go.Proofs.YtaojlnibkajfbaaDoor
open Go.RowKit
set_option maxRecDepth 100000
set_option linter.unusedVariables false
set_option linter.unusedSimpArgs false

/-- The document given, and the one lent. -/
structure Chk (w : World) (D : Doc) (gd gx : Nat) (kd kx : Value) (W : World) : Prop where
  bd : Blk W gd (docCells D kd) 24
  bx : Blk W gx (docCells D kx) 24
  kd : KV W 0 W.heap.size D kd
  kx : KR W 0 W.heap.size D kx
  below : Below w.heap.size w W
theorem Chk.next {w W W' : World} {D : Doc} {gd gx : Nat} {kd kx : Value} (h : Chk w D gd gx kd kx W) (hb : Below W.heap.size W W') : Chk w D gd gx kd kx W' :=
  ⟨h.bd.below hb, h.bx.below hb, (h.kd.below hb (Nat.le_refl _)).wide (Nat.le_refl _) hb.size, KG.wide roomX_stab (KG.below roomX_stab h.kx hb (Nat.le_refl _)) (Nat.le_refl _) hb.size, h.below.call hb⟩
set_option maxHeartbeats 16000000 in
theorem docChecks_any (D : Doc) (kd : Value) (w : World) (hkd : KV w 0 w.heap.size D kd) (hbd : D.bulk ≤ 4194304) (hT : Tabs w) :
    Calls Tryd.prog 5 #[docV D kd] w fun e w' => e = .returned (.bool true) ∧ Below w.heap.size w w' := by
  obtain ⟨ad, cd, rfl⟩ := hkd.slice
  obtain ⟨len, hlen⟩ : ∃ len, len = D.kids.length := ⟨_, rfl⟩
  rw [← hlen] at hkd ⊢
  clear hlen
  obtain ⟨B0, hB0⟩ : ∃ B0, B0 = w.heap.size := ⟨_, rfl⟩
  obtain ⟨W0, hW0⟩ : ∃ W0, W0 = w.alloc (.cells (docCells D (.slice ad len cd)).toArray 24) := ⟨_, rfl⟩
  have hst : Blk W0 B0 (docCells D (.slice ad len cd)) 24 ∧ Below w.heap.size w W0 := by
    rw [hW0]
    exact ⟨Blk.new' _ _ hB0, (Below.refl _ w).alloc (Nat.le_refl _) _⟩
  have hk0 : KV W0 0 W0.heap.size D (.slice ad len cd) := (hkd.below hst.2 (Nat.le_refl _)).wide (Nat.le_refl _) hst.2.size
  have HSH := Lib.hid (shallow_any D _ W0 hk0 hbd)
  have HX0 := Lib.hid hst.1
  have HB := Lib.hid hst.2
  have HK0 := Lib.hid hk0
  have HW0 := Lib.hid hW0
  have HB0 := Lib.hid hB0
  have HT := Lib.hid hT
  clear hst hk0 hkd hT hW0
  unfold docV at HSH
  unfold docV
  go_enter Tryd.func5, Tryd.ntmps5
  go_wp2_with fail
  rw [← hB0]
  clear hB0
  refine (Calls.at_world (by rw [HW0.out]; rfl) HSH.out).mono ?_
  rintro e w1 ⟨rfl, hb1⟩
  have hb1' : Below W0.heap.size W0 w1 := hb1
  have HB1 := Lib.hid (HB.out.call hb1')
  have HX1 := Lib.hid (HX0.out.below hb1')
  have HK1 := Lib.hid ((HK0.out.below hb1' (Nat.le_refl _)).wide (Nat.le_refl _) hb1'.size)
  clear hb1 hb1' HSH HX0 HK0 HB HW0
  by_cases hsa : D.depth ≤ 65536
  case neg =>
    rw [decide_eq_false hsa]
    clear hsa
    go_wp2_with fail
    go_ret
    exact ⟨rfl, HB1.out⟩
  rw [decide_eq_true hsa]
  clear hsa
  have a0 := HX1.out.cell 0; have a1 := HX1.out.cell 1; have a2 := HX1.out.cell 2; have a3 := HX1.out.cell 3; have a4 := HX1.out.cell 4; have a5 := HX1.out.cell 5
  simp only [docCells, List.getElem?_cons_zero, List.getElem?_cons_succ] at a0 a1 a2 a3 a4 a5
  have HC := Lib.hid (lendDoc_any D _ w1 HK1.out hbd)
  unfold docV at HC
  go_wp2_with fail
  refine HC.out.mono ?_
  rintro e w2 ⟨kvx, rfl, hkx, hb2⟩
  obtain ⟨ax, cx, rfl⟩ := (KG.kv hkx).slice
  obtain ⟨nx, hnx⟩ : ∃ nx, nx = D.kids.length := ⟨_, rfl⟩
  rw [← hnx] at hkx ⊢
  clear hnx HC a0 a1 a2 a3 a4 a5
  -- x boxed
  obtain ⟨W2, hW2⟩ : ∃ W2, W2 = w2.alloc (.cells (docCells D (.slice ax nx cx)).toArray 24) := ⟨_, rfl⟩
  have hb2a : Below w1.heap.size w1 W2 := by rw [hW2]; exact hb2.alloc hb2.size _
  have hz2 : W2.heap.size = w2.heap.size + 1 := by rw [hW2]; simp
  obtain ⟨gx, hgx⟩ : ∃ gx, gx = w2.heap.size := ⟨_, rfl⟩
  have hxx2 : Blk W2 gx (docCells D (.slice ax nx cx)) 24 := by rw [hW2]; exact Blk.new' _ _ hgx
  have hkx2 : KR W2 0 W2.heap.size D (.slice ax nx cx) := KG.of roomX_stab (Nat.zero_le _) (by omega) (fun b _ hb => by rw [hW2]; exact Below.heap_alloc w2 _ b hb) hkx
  have T2 := Lib.hid (show Chk w D B0 gx (.slice ad len cd) (.slice ax nx cx) W2 from ⟨HX1.out.below hb2a, hxx2, (HK1.out.below hb2a (Nat.le_refl _)).wide (Nat.le_refl _) hb2a.size, hkx2, HB1.out.call hb2a⟩)
  have HC := Lib.hid (check_any D _ W2 (KG.kv hkx2) hbd (HT.out.below T2.out.below))
  have HW2 := Lib.hid hW2
  unfold docV at HC
  have HQgx := Lib.hid hgx
  clear hb2 hb2a hkx hkx2 hW2 hgx hz2 hxx2 HX1 HK1 HB1
  obtain ⟨cc, hcc⟩ : ∃ cc, cc = D.code := ⟨_, rfl⟩
  rw [← hcc] at HC
  have HCC := Lib.hid hcc
  clear hcc
  go_wp2_with fail
  rw [← HQgx.out]
  refine (Calls.at_world (by rw [HW2.out]; rfl) HC.out).mono ?_
  rintro e w3 ⟨rfl, hb3⟩
  have T3 := Lib.hid (T2.out.next (show Below W2.heap.size W2 w3 from hb3))
  clear HC HW2 hb3 T2
  have x0 := T3.out.bx.cell 0; have x1 := T3.out.bx.cell 1; have x2 := T3.out.bx.cell 2; have x3 := T3.out.bx.cell 3; have x4 := T3.out.bx.cell 4; have x5 := T3.out.bx.cell 5
  simp only [docCells, List.getElem?_cons_zero, List.getElem?_cons_succ] at x0 x1 x2 x3 x4 x5
  have HC := Lib.hid (size_any D _ w3 (KG.kv T3.out.kx) hbd (HT.out.below T3.out.below))
  unfold docV at HC
  obtain ⟨zz, hzz⟩ : ∃ zz, zz = D.sizeN := ⟨_, rfl⟩
  rw [← hzz] at HC
  have HZZ := Lib.hid hzz
  clear hzz
  go_wp2_with fail
  refine HC.out.mono ?_
  rintro e w4 ⟨rfl, hb4⟩
  have T4 := Lib.hid (T3.out.next hb4)
  clear HC hb4 x0 x1 x2 x3 x4 x5 T3
  have x0 := T4.out.bx.cell 0; have x1 := T4.out.bx.cell 1; have x2 := T4.out.bx.cell 2; have x3 := T4.out.bx.cell 3; have x4 := T4.out.bx.cell 4; have x5 := T4.out.bx.cell 5
  simp only [docCells, List.getElem?_cons_zero, List.getElem?_cons_succ] at x0 x1 x2 x3 x4 x5
  have HC := Lib.hid (flat_any D _ w4 (KG.kv T4.out.kx) hbd (HT.out.below T4.out.below))
  unfold docV at HC
  obtain ⟨ss, hss⟩ : ∃ ss, ss = D.flatS := ⟨_, rfl⟩
  obtain ⟨oo, hoo⟩ : ∃ oo, oo = D.flatOk := ⟨_, rfl⟩
  rw [← hss, ← hoo] at HC
  have HSS := Lib.hid hss
  have HOO := Lib.hid hoo
  clear hss hoo
  go_wp2_with fail
  refine HC.out.mono ?_
  rintro e w5 ⟨rfl, hb5⟩
  have T5 := Lib.hid (T4.out.next hb5)
  clear HC hb5 x0 x1 x2 x3 x4 x5 T4
  have x0 := T5.out.bd.cell 0; have x1 := T5.out.bd.cell 1; have x2 := T5.out.bd.cell 2; have x3 := T5.out.bd.cell 3; have x4 := T5.out.bd.cell 4; have x5 := T5.out.bd.cell 5
  simp only [docCells, List.getElem?_cons_zero, List.getElem?_cons_succ] at x0 x1 x2 x3 x4 x5
  have HC := Lib.hid (refFlat_any D _ w5 T5.out.kd hbd)
  unfold docV at HC
  rw [← HSS.out, ← HOO.out] at HC
  go_wp2_with fail
  refine HC.out.mono ?_
  rintro e w6 ⟨rfl, hb6⟩
  have T6 := Lib.hid (T5.out.next hb6)
  clear HC hb6 x0 x1 x2 x3 x4 x5 T5
  go_wp2_with (go_at_call 22; refine (num_any _ _).mono ?_; rintro e w9 ⟨rfl, rfl⟩)
  refine wp_region_below w6.heap.size (by kernel_rfl) (by kernel_rfl) ?_
  repeat (first | go_big_quiet_skip | (go_big_quiet_want; go_big_quiet_op; (first | go_big_quiet_on | (refine Exists.intro _ ⟨fun _ _ => rfl, ?_⟩; go_big_quiet_on) | (apply Exists.intro; refine ⟨fun wq hq => ?_, ?_⟩; (go_at_call 22; refine (num_any _ _).mono ?_; rintro e w9 ⟨rfl, rfl⟩; exact ⟨rfl, hq⟩); go_big_quiet_on) | (apply Exists.intro; refine ⟨fun wq hq => ?_, ?_⟩; (have Tq := Lib.hid (T6.out.next hq); have a0 := Tq.out.bd.cell 0; have a1 := Tq.out.bd.cell 1; have a2 := Tq.out.bd.cell 2; have a3 := Tq.out.bd.cell 3; have a4 := Tq.out.bd.cell 4; have a5 := Tq.out.bd.cell 5; have b0 := Tq.out.bx.cell 0; have b1 := Tq.out.bx.cell 1; have b2 := Tq.out.bx.cell 2; have b3 := Tq.out.bx.cell 3; have b4 := Tq.out.bx.cell 4; have b5 := Tq.out.bx.cell 5; simp only [docCells, List.getElem?_cons_zero, List.getElem?_cons_succ] at a0 a1 a2 a3 a4 a5 b0 b1 b2 b3 b4 b5; go_simp; rfl); go_big_quiet_on))))
  go_big_quiet_want; go_big_quiet_op; apply Exists.intro; refine ⟨fun wq hq => ?_, ?_⟩; (have Tq := T6.out.next hq; go_at_call 23; refine (refCheck_any D _ wq Tq.kd hbd).mono ?_; rintro e w11 ⟨rfl, hb11⟩; rw [← HCC.out]; exact ⟨rfl, hq.call hb11⟩); go_big_quiet_on
  repeat (first | go_big_quiet_skip | (go_big_quiet_want; go_big_quiet_op; (first | go_big_quiet_on | (refine Exists.intro _ ⟨fun _ _ => rfl, ?_⟩; go_big_quiet_on) | (apply Exists.intro; refine ⟨fun wq hq => ?_, ?_⟩; (have Tq := Lib.hid (T6.out.next hq); have a0 := Tq.out.bd.cell 0; have a1 := Tq.out.bd.cell 1; have a2 := Tq.out.bd.cell 2; have a3 := Tq.out.bd.cell 3; have a4 := Tq.out.bd.cell 4; have a5 := Tq.out.bd.cell 5; have b0 := Tq.out.bx.cell 0; have b1 := Tq.out.bx.cell 1; have b2 := Tq.out.bx.cell 2; have b3 := Tq.out.bx.cell 3; have b4 := Tq.out.bx.cell 4; have b5 := Tq.out.bx.cell 5; simp only [docCells, List.getElem?_cons_zero, List.getElem?_cons_succ] at a0 a1 a2 a3 a4 a5 b0 b1 b2 b3 b4 b5; go_simp; rfl); go_big_quiet_on))))
  go_big_quiet_want; go_big_quiet_op; apply Exists.intro; refine ⟨fun wq hq => ?_, ?_⟩; (have Tq := T6.out.next hq; go_at_call 24; refine (refSize_any D _ wq Tq.kd hbd).mono ?_; rintro e w11 ⟨rfl, hb11⟩; rw [← HZZ.out]; exact ⟨rfl, hq.call hb11⟩); go_big_quiet_on
  repeat (first | go_big_quiet_skip | (go_big_quiet_want; go_big_quiet_op; (first | go_big_quiet_on | (refine Exists.intro _ ⟨fun _ _ => rfl, ?_⟩; go_big_quiet_on) | (apply Exists.intro; refine ⟨fun wq hq => ?_, ?_⟩; (have Tq := Lib.hid (T6.out.next hq); have a0 := Tq.out.bd.cell 0; have a1 := Tq.out.bd.cell 1; have a2 := Tq.out.bd.cell 2; have a3 := Tq.out.bd.cell 3; have a4 := Tq.out.bd.cell 4; have a5 := Tq.out.bd.cell 5; have b0 := Tq.out.bx.cell 0; have b1 := Tq.out.bx.cell 1; have b2 := Tq.out.bx.cell 2; have b3 := Tq.out.bx.cell 3; have b4 := Tq.out.bx.cell 4; have b5 := Tq.out.bx.cell 5; simp only [docCells, List.getElem?_cons_zero, List.getElem?_cons_succ] at a0 a1 a2 a3 a4 a5 b0 b1 b2 b3 b4 b5; go_simp; rfl); go_big_quiet_on))))
  go_big_quiet_want; go_big_quiet_op; apply Exists.intro; refine ⟨fun wq hq => ?_, ?_⟩; (have Tq := T6.out.next hq; go_at_call 15; refine (keptDoc_any D _ _ wq Tq.kx Tq.kd hbd).mono ?_; rintro e w11 ⟨rfl, hb11⟩; exact ⟨rfl, hq.call hb11⟩); go_big_quiet_on
  repeat (first | go_big_quiet_skip | (go_big_quiet_want; go_big_quiet_op; (first | go_big_quiet_on | (refine Exists.intro _ ⟨fun _ _ => rfl, ?_⟩; go_big_quiet_on) | (apply Exists.intro; refine ⟨fun wq hq => ?_, ?_⟩; (have Tq := Lib.hid (T6.out.next hq); have a0 := Tq.out.bd.cell 0; have a1 := Tq.out.bd.cell 1; have a2 := Tq.out.bd.cell 2; have a3 := Tq.out.bd.cell 3; have a4 := Tq.out.bd.cell 4; have a5 := Tq.out.bd.cell 5; have b0 := Tq.out.bx.cell 0; have b1 := Tq.out.bx.cell 1; have b2 := Tq.out.bx.cell 2; have b3 := Tq.out.bx.cell 3; have b4 := Tq.out.bx.cell 4; have b5 := Tq.out.bx.cell 5; simp only [docCells, List.getElem?_cons_zero, List.getElem?_cons_succ] at a0 a1 a2 a3 a4 a5 b0 b1 b2 b3 b4 b5; go_simp; rfl); go_big_quiet_on))))
  go_big_quiet_want; go_big_quiet_op; apply Exists.intro; refine ⟨fun wq hq => ?_, ?_⟩; (have Tq := T6.out.next hq; go_at_call 25; refine (awake15_any wq (HT.out.below Tq.below)).mono ?_; rintro e w11 ⟨rfl, hb11⟩; exact ⟨rfl, hq.call hb11⟩); go_big_quiet_on
  repeat (first | go_big_quiet_skip | (go_big_quiet_want; go_big_quiet_op; (first | go_big_quiet_on | (refine Exists.intro _ ⟨fun _ _ => rfl, ?_⟩; go_big_quiet_on) | (apply Exists.intro; refine ⟨fun wq hq => ?_, ?_⟩; (have Tq := Lib.hid (T6.out.next hq); have a0 := Tq.out.bd.cell 0; have a1 := Tq.out.bd.cell 1; have a2 := Tq.out.bd.cell 2; have a3 := Tq.out.bd.cell 3; have a4 := Tq.out.bd.cell 4; have a5 := Tq.out.bd.cell 5; have b0 := Tq.out.bx.cell 0; have b1 := Tq.out.bx.cell 1; have b2 := Tq.out.bx.cell 2; have b3 := Tq.out.bx.cell 3; have b4 := Tq.out.bx.cell 4; have b5 := Tq.out.bx.cell 5; simp only [docCells, List.getElem?_cons_zero, List.getElem?_cons_succ] at a0 a1 a2 a3 a4 a5 b0 b1 b2 b3 b4 b5; go_simp; rfl); go_big_quiet_on))))
  refine wpQuiet_nil ?_
  intro wq hq
  have HWQ := Lib.hid (T6.out.below.call hq)
  clear hq
  go_wp2_with fail
  go_ret
  exact ⟨rfl, HWQ.out⟩
end Go.Proofs.YtaojlnibkajfbaaDoor
