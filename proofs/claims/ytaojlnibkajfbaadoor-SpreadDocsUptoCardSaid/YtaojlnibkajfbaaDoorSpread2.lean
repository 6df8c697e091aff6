/- spread.Spread; the awake of chapter 16. -/
import Derived.Test.YtaojlnibkajfbaaDoorSpread
import Derived.Test.YtaojlnibkajfbaaDoorWaysPlain
namespace Go.Proofs.YtaojlnibkajfbaaDoor
open Go.RowKit
set_option maxRecDepth 100000
set_option linter.unusedVariables false
set_option linter.unusedSimpArgs false

set_option maxHeartbeats 2000000 in
/-- Spread. -/
theorem spread_any (d : Doc) (kv : Value) (w : World) (hk : KV w 0 w.heap.size d kv) (hb : d.bulk ≤ 4194304) (hT : Tabs w) :
    Calls Tryd.prog 12 #[docV d kv] w fun e w' => ∃ kv', e = .returned (docV (d.sprD (decide (d.code = 0))) kv') ∧ KW w' w.heap.size w'.heap.size (d.sprD (decide (d.code = 0))) kv' ∧ Below w.heap.size w w' := by
  obtain ⟨a, cap, rfl⟩ := hk.slice
  obtain ⟨B0, hB0⟩ : ∃ B0, B0 = w.heap.size := ⟨_, rfl⟩
  obtain ⟨W0, hW0⟩ : ∃ W0, W0 = (w.alloc (.cells (docCells d (.slice a d.kids.length cap)).toArray 24)).alloc (.cells (docCells (eDoc 0 []) (.slice none 0 0)).toArray 24) := ⟨_, rfl⟩
  have hst : Blk W0 B0 (docCells d (.slice a d.kids.length cap)) 24 ∧ Blk W0 (B0 + 1) (docCells (eDoc 0 []) (.slice none 0 0)) 24 ∧ Below w.heap.size w W0 := by
    rw [hW0]
    exact ⟨(Blk.new' _ _ hB0).alloc _, Blk.new' _ _ (by simp [hB0]), ((Below.refl _ w).alloc (Nat.le_refl _) _).alloc (by simp) _⟩
  have hk0 : KV W0 0 W0.heap.size d (.slice a d.kids.length cap) := (hk.below hst.2.2 (Nat.le_refl _)).wide (Nat.le_refl _) hst.2.2.size
  have HCH := Lib.hid (check_any d (.slice a d.kids.length cap) W0 hk0 hb (hT.below hst.2.2))
  have HST := Lib.hid hst
  have HK0 := Lib.hid hk0
  have HW0 := Lib.hid hW0
  have HB0 := Lib.hid hB0
  have hdec : (d.code == 0) = decide (d.code = 0) := rfl
  have HDEC := Lib.hid hdec
  clear hst hk0 hk hT hW0 hdec
  obtain ⟨len, hlen⟩ : ∃ len, len = d.kids.length := ⟨_, rfl⟩
  rw [← hlen] at HCH HST HK0 HW0 ⊢
  clear hlen
  unfold docV at HCH
  unfold docV
  go_enter Tryd.func12, Tryd.ntmps12
  go_wp2_with fail
  refine (Calls.at_world (by rw [HW0.out]; rfl) HCH.out).mono ?_
  rintro e w1 ⟨rfl, hb1⟩
  have hb1' : Below W0.heap.size W0 w1 := hb1
  have HB1 := Lib.hid (HST.out.2.2.call hb1')
  have HX1 := Lib.hid (HST.out.1.below hb1')
  have HY1 := Lib.hid (HST.out.2.1.below hb1')
  have HK1 := Lib.hid ((HK0.out.below hb1' (Nat.le_refl _)).wide (Nat.le_refl _) hb1'.size)
  clear hb1 hb1' HCH
  go_wp2_with fail
  obtain ⟨told, htold⟩ : ∃ told, told = decide (d.code = 0) := ⟨_, rfl⟩
  rw [HDEC.out, ← htold]
  have HTO := Lib.hid htold
  clear htold
  have h6 : Six w1 w.heap.size 0 d (.slice a len cap) := by
    rw [← HB0.out]
    have h := HX1.out
    exact ⟨h.cell 0, h.cell 1, h.cell 2, h.cell 3, h.cell 4, h.cell 5⟩
  refine (copied_any told d w.heap.size 0 (.slice a len cap) w1 h6 (by have := HX1.out.lt; have := HB0.out; omega) HK1.out hb).mono ?_
  rintro e w2 ⟨kv', rfl, hkw2, hb2⟩
  obtain ⟨a', c', rfl⟩ := (KG.kv hkw2).slice
  obtain ⟨D', hD'⟩ : ∃ D', D' = d.sprD told := ⟨_, rfl⟩
  rw [← hD'] at hkw2 ⊢
  obtain ⟨n', hn'⟩ : ∃ n', n' = D'.kids.length := ⟨_, rfl⟩
  rw [← hn'] at hkw2 ⊢
  have HKW2 := Lib.hid hkw2
  have HY2 := Lib.hid (HY1.out.below hb2)
  have HB2 := Lib.hid (HB1.out.call hb2)
  have HZ2 := Lib.hid hb2.size
  have HZ1 := Lib.hid HB1.out.size
  have hlt : B0 + 1 < w2.heap.size := HY2.out.lt
  rw [HB0.out] at HY2 hlt
  have y0 := fun o => (HY2.out.alloc o).cell 0; have y1 := fun o => (HY2.out.alloc o).cell 1; have y2 := fun o => (HY2.out.alloc o).cell 2; have y3 := fun o => (HY2.out.alloc o).cell 3; have y4 := fun o => (HY2.out.alloc o).cell 4; have y5 := fun o => (HY2.out.alloc o).cell 5
  have s0 := fun o => (HY2.out.alloc o).frozen 0; have s1 := fun o => (HY2.out.alloc o).frozen 1; have s2 := fun o => (HY2.out.alloc o).frozen 2; have s3 := fun o => (HY2.out.alloc o).frozen 3; have s4 := fun o => (HY2.out.alloc o).frozen 4; have s5 := fun o => (HY2.out.alloc o).frozen 5
  simp only [docCells, eDoc, Doc.kind, Doc.text, Doc.brk, Doc.id, Doc.width, List.getElem?_cons_zero, List.getElem?_cons_succ] at y0 y1 y2 y3 y4 y5
  have z0 := HY2.out.cell 0; have z1 := HY2.out.cell 1; have z2 := HY2.out.cell 2; have z3 := HY2.out.cell 3; have z4 := HY2.out.cell 4; have z5 := HY2.out.cell 5
  have t0 := HY2.out.frozen 0; have t1 := HY2.out.frozen 1; have t2 := HY2.out.frozen 2; have t3 := HY2.out.frozen 3; have t4 := HY2.out.frozen 4; have t5 := HY2.out.frozen 5
  simp only [docCells, eDoc, Doc.kind, Doc.text, Doc.brk, Doc.id, Doc.width, List.getElem?_cons_zero, List.getElem?_cons_succ] at z0 z1 z2 z3 z4 z5
  have HDD := Lib.hid hD'
  clear hkw2 hb2 h6 hD' hn'
  unfold docV
  go_wp2_with fail
  have hfin := set6_blk HY2.out rfl D' (.slice a' n' c')
  have e0 := fun o => (hfin.alloc o).cell 0; have e1 := fun o => (hfin.alloc o).cell 1; have e2 := fun o => (hfin.alloc o).cell 2; have e3 := fun o => (hfin.alloc o).cell 3; have e4 := fun o => (hfin.alloc o).cell 4; have e5 := fun o => (hfin.alloc o).cell 5
  simp only [docCells, List.getElem?_cons_zero, List.getElem?_cons_succ] at e0 e1 e2 e3 e4 e5
  clear y0 y1 y2 y3 y4 y5 s0 s1 s2 s3 s4 s5 z0 z1 z2 z3 z4 z5 t0 t1 t2 t3 t4 t5
  refine bodyPost_ret (v := docV D' (.slice a' n' c')) (by simp only [results, Tryd.f12]; simp [go_sem, docV, e0, e1, e2, e3, e4, e5]) rfl (show ∃ kv', _ ∧ _ ∧ _ from ⟨.slice a' n' c', by rw [← HTO.out, ← HDD.out]; rfl, ?_, ?_⟩)
  · rw [← HTO.out, ← HDD.out]
    have hz1 := HZ1.out
    have hz2 := HZ2.out
    refine KG.of thawX_stab hz1 ?_ (fun b hb hb2 => (Below.heap_alloc _ _ b (by simpa using hb2)).trans (set6_heap w2 (w.heap.size + 1) b _ _ _ _ _ _ (by have := HY1.out.lt; have := HB0.out; omega))) HKW2.out
    simp
  · exact (set6_below HB2.out (w.heap.size + 1) _ _ _ _ _ _ (by omega)).alloc (by simp; omega) _

/-! ### awake -/
def hardD : Doc := eDoc 5 []
theorem aw16_facts : (eDoc 7 [eDoc 7 [hardD]]).code = 0 ∧ (eDoc 7 [eDoc 3 []]).code = 0 ∧ ((eDoc 7 [eDoc 7 [hardD]]).sprD true) = .mk 7 ⟨#[]⟩ [.mk 7 ⟨#[]⟩ [hardD] true 0 0] true 0 0 ∧ ((eDoc 7 [eDoc 3 []]).sprD true) = eDoc 7 [eDoc 3 []] := ⟨by kernel_rfl, by kernel_rfl, by kernel_rfl, by kernel_rfl⟩
end Go.Proofs.YtaojlnibkajfbaaDoor
