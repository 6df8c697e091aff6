/- DocFlats: the walk. -/
import Derived.Test.YtaojlnibkajfbaaDoorDocFlatsPlain
import Derived.Deep.RegionWith
import Derived.Deep.CutBlock
namespace Go.Proofs.YtaojlnibkajfbaaDoor
open Go.RowKit
set_option maxRecDepth 100000
set_option linter.unusedVariables false
set_option linter.unusedSimpArgs false

theorem alloc_cellF (w : World) (o : Obj) (a : Addr) (h : a.block < w.heap.size) : (w.alloc o).cell? a = w.cell? a := World.cell?_of_block (Below.heap_alloc w o _ h)
/-- A document, boxed. -/
structure One (w : World) (D : Doc) (kd : Value) (W : World) : Prop where
  bd : Blk W w.heap.size (docCells D kd) 24
  kd : KV W 0 W.heap.size D kd
  below : Below w.heap.size w W
theorem One.next {w W W' : World} {D : Doc} {kd : Value} (h : One w D kd W) (hb : Below W.heap.size W W') : One w D kd W' :=
  ⟨h.bd.below hb, (h.kd.below hb (Nat.le_refl _)).wide (Nat.le_refl _) hb.size, h.below.trans (hb.mono h.below.size)⟩
theorem one_new {w : World} {D : Doc} {kd : Value} (hd : KV w 0 w.heap.size D kd) : One w D kd (w.alloc (.cells (docCells D kd).toArray 24)) := by
  have h1 : Below w.heap.size w (w.alloc (.cells (docCells D kd).toArray 24)) := (Below.refl _ w).alloc (Nat.le_refl _) _
  exact ⟨Blk.new _ _ _, (hd.below h1 (Nat.le_refl _)).wide (Nat.le_refl _) h1.size, h1⟩

/-- The world behind the six. -/
def sixW (W : World) (D : Doc) (kd : Value) (y : Int) : World :=
  ((((((W.alloc (.cells (docsCells [(D, kd)]).toArray 24)).alloc (.cells (docsCells [(D, kd)]).toArray 24)).alloc (.cells (docsCells [(D, kd)]).toArray 24)).alloc
    (.cells (docsCells [(D, kd), (eDoc 5 [], .slice none 0 0)]).toArray 24)).alloc (.cells (docsCells [(eDoc 5 [], .slice none 0 0), (D, kd)]).toArray 24)).alloc (.cells (docsCells [(D, kd)]).toArray 24)).alloc
    (.cells (docsCells [(eDoc 7 [D], .slice (some ⟨W.heap.size, 0, none⟩) 1 1), (eDoc 11 [D], .slice (some ⟨W.heap.size + 1, 0, none⟩) 1 1), (.mk 13 ⟨#[]⟩ [D] false 0 y, .slice (some ⟨W.heap.size + 2, 0, none⟩) 1 1),
      (eDoc 8 [D, eDoc 5 []], .slice (some ⟨W.heap.size + 3, 0, none⟩) 2 2), (eDoc 10 [eDoc 5 [], D], .slice (some ⟨W.heap.size + 4, 0, none⟩) 2 2), (eDoc 9 [D], .slice (some ⟨W.heap.size + 5, 0, none⟩) 1 1)]).toArray 24)
theorem sixes_new {w W : World} {D : Doc} {kd : Value} (h : One w D kd W) (y : Int) :
    One w D kd (sixW W D kd y) ∧ KV (sixW W D kd y) 0 (sixW W D kd y).heap.size (eDoc 2 (six D y)) (.slice (some ⟨W.heap.size + 6, 0, none⟩) 6 6) := by
  have hz : (sixW W D kd y).heap.size = W.heap.size + 7 := by simp [sixW]
  have hb : Below W.heap.size W (sixW W D kd y) := by
    unfold sixW
    exact ((((((((Below.refl _ W).alloc (Nat.le_refl _) _).alloc (by simp) _).alloc (by simp; omega) _).alloc (by simp; omega) _).alloc (by simp; omega) _).alloc (by simp; omega) _).alloc (by simp; omega) _)
  have h2 := h.next hb
  refine ⟨h2, ?_⟩
  have kD : ∀ p ∈ [(D, kd)], KV (sixW W D kd y) 0 (sixW W D kd y).heap.size p.1 p.2 := by
    intro p hp; simp only [List.mem_cons, List.not_mem_nil, or_false] at hp; subst hp; exact h2.kd
  have kDH : ∀ p ∈ [(D, kd), (eDoc 5 [], Value.slice none 0 0)], KV (sixW W D kd y) 0 (sixW W D kd y).heap.size p.1 p.2 := by
    intro p hp; simp only [List.mem_cons, List.not_mem_nil, or_false] at hp; rcases hp with rfl | rfl
    · exact h2.kd
    · exact kv_nil rfl
  have kHD : ∀ p ∈ [(eDoc 5 [], Value.slice none 0 0), (D, kd)], KV (sixW W D kd y) 0 (sixW W D kd y).heap.size p.1 p.2 := by
    intro p hp; simp only [List.mem_cons, List.not_mem_nil, or_false] at hp; rcases hp with rfl | rfl
    · exact kv_nil rfl
    · exact h2.kd
  have b0 : Blk (sixW W D kd y) W.heap.size (docsCells [(D, kd)]) 24 := by unfold sixW; exact ((((((Blk.new _ _ _).alloc _).alloc _).alloc _).alloc _).alloc _).alloc _
  have b1 : Blk (sixW W D kd y) (W.heap.size + 1) (docsCells [(D, kd)]) 24 := by unfold sixW; exact (((((Blk.new' _ _ (by simp)).alloc _).alloc _).alloc _).alloc _).alloc _
  have b2 : Blk (sixW W D kd y) (W.heap.size + 2) (docsCells [(D, kd)]) 24 := by unfold sixW; exact ((((Blk.new' _ _ (by simp)).alloc _).alloc _).alloc _).alloc _
  have b3 : Blk (sixW W D kd y) (W.heap.size + 3) (docsCells [(D, kd), (eDoc 5 [], .slice none 0 0)]) 24 := by unfold sixW; exact (((Blk.new' _ _ (by simp)).alloc _).alloc _).alloc _
  have b4 : Blk (sixW W D kd y) (W.heap.size + 4) (docsCells [(eDoc 5 [], .slice none 0 0), (D, kd)]) 24 := by unfold sixW; exact ((Blk.new' _ _ (by simp)).alloc _).alloc _
  have b5 : Blk (sixW W D kd y) (W.heap.size + 5) (docsCells [(D, kd)]) 24 := by unfold sixW; exact (Blk.new' _ _ (by simp)).alloc _
  refine kv_made (D := eDoc 2 (six D y)) (cap := 6) (t := 24) [(eDoc 7 [D], .slice (some ⟨W.heap.size, 0, none⟩) 1 1), (eDoc 11 [D], .slice (some ⟨W.heap.size + 1, 0, none⟩) 1 1), (.mk 13 ⟨#[]⟩ [D] false 0 y, .slice (some ⟨W.heap.size + 2, 0, none⟩) 1 1),
      (eDoc 8 [D, eDoc 5 []], .slice (some ⟨W.heap.size + 3, 0, none⟩) 2 2), (eDoc 10 [eDoc 5 [], D], .slice (some ⟨W.heap.size + 4, 0, none⟩) 2 2), (eDoc 9 [D], .slice (some ⟨W.heap.size + 5, 0, none⟩) 1 1)] (by unfold sixW; exact Blk.new' _ _ (by simp)) ?_ (Nat.zero_le _) (by omega) rfl (by simp)
  intro p hp
  simp only [List.mem_cons, List.not_mem_nil, or_false] at hp
  rcases hp with rfl | rfl | rfl | rfl | rfl | rfl
  · exact kv_made (cap := 1) [(D, kd)] b0 kD (Nat.zero_le _) (by omega) rfl (by simp)
  · exact kv_made (cap := 1) [(D, kd)] b1 kD (Nat.zero_le _) (by omega) rfl (by simp)
  · exact kv_made (cap := 1) [(D, kd)] b2 kD (Nat.zero_le _) (by omega) rfl (by simp)
  · exact kv_made (cap := 2) [(D, kd), (eDoc 5 [], .slice none 0 0)] b3 kDH (Nat.zero_le _) (by omega) rfl (by simp)
  · exact kv_made (cap := 2) [(eDoc 5 [], .slice none 0 0), (D, kd)] b4 kHD (Nat.zero_le _) (by omega) rfl (by simp)
  · exact kv_made (cap := 1) [(D, kd)] b5 kD (Nat.zero_le _) (by omega) rfl (by simp)

set_option maxHeartbeats 4000000 in
theorem docFlats_any (D : Doc) (kd : Value) (y : Int) (w : World) (hkd : KV w 0 w.heap.size D kd) (hbd : D.bulk ≤ 1048576) (hT : Tabs w) :
    Calls Tryd.prog 7 #[docV D kd, .int .i64 y] w fun e w' => e = .returned (.bool true) ∧ Below w.heap.size w w' := by
  have H0 := Lib.hid (one_new hkd)
  have HT := Lib.hid hT
  have HA := Lib.hid (show D.bulk ≤ 4194304 by omega)
  have HB := Lib.hid hbd
  have HSA := Lib.hid (show D.flatS.size ≤ 1048576 by have := flatS_size D; omega)
  clear hkd hbd hT
  unfold docV
  go_enter Tryd.func7, Tryd.ntmps7
  go_wp2_with fail
  refine (awake15_any _ (HT.out.below H0.out.below)).mono ?_
  rintro e w1 ⟨rfl, hb1⟩
  have T1 := Lib.hid (H0.out.next hb1)
  clear hb1
  have a0 := T1.out.bd.cell 0; have a1 := T1.out.bd.cell 1; have a2 := T1.out.bd.cell 2; have a3 := T1.out.bd.cell 3; have a4 := T1.out.bd.cell 4; have a5 := T1.out.bd.cell 5; simp only [docCells, List.getElem?_cons_zero, List.getElem?_cons_succ] at a0 a1 a2 a3 a4 a5
  go_wp2_with fail
  refine (shallow_any D kd w1 T1.out.kd HA.out).mono ?_
  rintro e w2 ⟨rfl, hb2⟩
  have T2 := Lib.hid (T1.out.next hb2)
  clear hb2
  clear a0 a1 a2 a3 a4 a5
  by_cases hsa : D.depth ≤ 65536
  case neg =>
    rw [decide_eq_false hsa]
    clear hsa
    go_wp2_with fail
    go_ret
    exact ⟨rfl, T2.out.below⟩
  rw [decide_eq_true hsa]
  clear hsa
  have a0 := T2.out.bd.cell 0; have a1 := T2.out.bd.cell 1; have a2 := T2.out.bd.cell 2; have a3 := T2.out.bd.cell 3; have a4 := T2.out.bd.cell 4; have a5 := T2.out.bd.cell 5; simp only [docCells, List.getElem?_cons_zero, List.getElem?_cons_succ] at a0 a1 a2 a3 a4 a5
  go_wp2_with fail
  refine (flat_any D kd _ T2.out.kd HA.out (HT.out.below T2.out.below)).mono ?_
  rintro e w3 ⟨rfl, hb3⟩
  have T3 := Lib.hid (T2.out.next hb3)
  clear hb3
  clear a0 a1 a2 a3 a4 a5
  cases hok : D.flatOk
  case false =>
    rw [flatS_bad hok]
    clear hok
    go_wp2_with fail
    go_ret
    exact ⟨rfl, T3.out.below⟩
  obtain ⟨l, hl1, hl2, hl3, hl4⟩ := flatS_ok hok
  obtain ⟨S, hS⟩ : ∃ z, z = D.flatS := ⟨_, rfl⟩
  rw [← hS]
  have hSz : S.size ≤ 1048576 := by rw [hS]; exact HSA.out
  have hval : validCode S = 0 := by rw [hS, hl3]; exact hl4.1
  have hbyte : ∀ j (hj : j < S.size), S[j] ≠ 10 ∧ S[j] ≠ 13 := by
    intro j hj
    have hd : S.data = l.toArray := by rw [hS, hl3]
    have hj2 : j < S.data.size := hj
    have e : S[j] = S.data[j] := rfl
    rw [e]
    refine hl4.2 _ ?_
    have h1 : S.data[j] ∈ S.data.toList := by simp
    have h2 : S.data.toList = l := by rw [hd]
    exact h2 ▸ h1
  have HOK := Lib.hid hok
  have HSE := Lib.hid hS
  have HVAL := Lib.hid hval
  have HBY := Lib.hid hbyte
  clear hl1 hl2 hl3 hl4 hok hS hval hbyte
  go_wp2_with fail
  refine (valid_any S _ (by omega) (HT.out.below T3.out.below)).mono ?_
  rintro e w4 ⟨rfl, hb4⟩
  rw [HVAL.out]
  have T4 := Lib.hid (T3.out.next hb4)
  clear hb4
  go_wp2_with fail
  go_loopw [9] (fun i wr => ∃ j : Nat, j ≤ S.size ∧ i = .int .i64 (j : Int) ∧ wr = w4) (fun i _ => S.size - (intOf i).toNat)
  case atStart => exact ⟨0, Nat.zero_le _, rfl, rfl⟩
  case round =>
    obtain ⟨j, hj, rfl, hwr⟩ := hrel
    have HWR := Lib.hid hwr
    clear hwr
    by_cases hlt : j < S.size
    · have hjm : (j : Int) < (S.size : Int) := by omega
      obtain ⟨h10, h13⟩ := HBY.out j hlt
      have e10 : (((S[j].toNat : Nat) : Int) == 10) = false := by
        rw [beq_eq_false_iff_ne]
        intro h
        exact h10 (UInt8.toNat_inj.1 (by simpa using (by omega : S[j].toNat = 10)))
      have e13 : (((S[j].toNat : Nat) : Int) == 13) = false := by
        rw [beq_eq_false_iff_ne]
        intro h
        exact h13 (UInt8.toNat_inj.1 (by simpa using (by omega : S[j].toNat = 13)))
      have hw1 : IntKind.i64.wrap ((j : Int) + 1) = (j : Int) + 1 := IntWalk.i64_in _ (by omega)
      clear h10 h13
      go_wp2_with fail
      refine ⟨⟨j + 1, by omega, by simp, HWR.out⟩, ?_⟩
      simp [intOf]
      omega
    · have hjm : j = S.size := by omega
      subst hjm
      rw [HWR.out]
      go_upto_region 14 with (fail)
      go_cut [10] from 17 (fun (s10 : Value) (wd : World) => ∃ (g : Nat) (yv : Int), s10 = .slice (some ⟨g, 0, none⟩) 6 6 ∧ One w D kd wd ∧ KV wd 0 wd.heap.size (eDoc 2 (six D yv)) (.slice (some ⟨g, 0, none⟩) 6 6))
      case first =>
        have a0 := T4.out.bd.cell 0; have a1 := T4.out.bd.cell 1; have a2 := T4.out.bd.cell 2; have a3 := T4.out.bd.cell 3; have a4 := T4.out.bd.cell 4; have a5 := T4.out.bd.cell 5; simp only [docCells, List.getElem?_cons_zero, List.getElem?_cons_succ] at a0 a1 a2 a3 a4 a5
        have hz4 : w.heap.size < w4.heap.size := T4.out.bd.lt
        have d1_0 : ∀ o1 : Obj, (w4.alloc o1).cell? ⟨w.heap.size, 0, none⟩ = some (.int .i64 D.kind) := fun o1 => (alloc_cellF w4 o1 _ (by simp; omega)).trans a0
        have d1_1 : ∀ o1 : Obj, (w4.alloc o1).cell? ⟨w.heap.size, 1, none⟩ = some (.string D.text) := fun o1 => (alloc_cellF w4 o1 _ (by simp; omega)).trans a1
        have d1_2 : ∀ o1 : Obj, (w4.alloc o1).cell? ⟨w.heap.size, 2, none⟩ = some (kd) := fun o1 => (alloc_cellF w4 o1 _ (by simp; omega)).trans a2
        have d1_3 : ∀ o1 : Obj, (w4.alloc o1).cell? ⟨w.heap.size, 3, none⟩ = some (.bool D.brk) := fun o1 => (alloc_cellF w4 o1 _ (by simp; omega)).trans a3
        have d1_4 : ∀ o1 : Obj, (w4.alloc o1).cell? ⟨w.heap.size, 4, none⟩ = some (.int .i64 D.id) := fun o1 => (alloc_cellF w4 o1 _ (by simp; omega)).trans a4
        have d1_5 : ∀ o1 : Obj, (w4.alloc o1).cell? ⟨w.heap.size, 5, none⟩ = some (.int .i64 D.width) := fun o1 => (alloc_cellF w4 o1 _ (by simp; omega)).trans a5
        have d2_0 : ∀ o1 o2 : Obj, ((w4.alloc o1).alloc o2).cell? ⟨w.heap.size, 0, none⟩ = some (.int .i64 D.kind) := fun o1 o2 => (alloc_cellF (w4.alloc o1) o2 _ (by simp; omega)).trans (d1_0 o1)
        have d2_1 : ∀ o1 o2 : Obj, ((w4.alloc o1).alloc o2).cell? ⟨w.heap.size, 1, none⟩ = some (.string D.text) := fun o1 o2 => (alloc_cellF (w4.alloc o1) o2 _ (by simp; omega)).trans (d1_1 o1)
        have d2_2 : ∀ o1 o2 : Obj, ((w4.alloc o1).alloc o2).cell? ⟨w.heap.size, 2, none⟩ = some (kd) := fun o1 o2 => (alloc_cellF (w4.alloc o1) o2 _ (by simp; omega)).trans (d1_2 o1)
        have d2_3 : ∀ o1 o2 : Obj, ((w4.alloc o1).alloc o2).cell? ⟨w.heap.size, 3, none⟩ = some (.bool D.brk) := fun o1 o2 => (alloc_cellF (w4.alloc o1) o2 _ (by simp; omega)).trans (d1_3 o1)
        have d2_4 : ∀ o1 o2 : Obj, ((w4.alloc o1).alloc o2).cell? ⟨w.heap.size, 4, none⟩ = some (.int .i64 D.id) := fun o1 o2 => (alloc_cellF (w4.alloc o1) o2 _ (by simp; omega)).trans (d1_4 o1)
        have d2_5 : ∀ o1 o2 : Obj, ((w4.alloc o1).alloc o2).cell? ⟨w.heap.size, 5, none⟩ = some (.int .i64 D.width) := fun o1 o2 => (alloc_cellF (w4.alloc o1) o2 _ (by simp; omega)).trans (d1_5 o1)
        have d3_0 : ∀ o1 o2 o3 : Obj, (((w4.alloc o1).alloc o2).alloc o3).cell? ⟨w.heap.size, 0, none⟩ = some (.int .i64 D.kind) := fun o1 o2 o3 => (alloc_cellF ((w4.alloc o1).alloc o2) o3 _ (by simp; omega)).trans (d2_0 o1 o2)
        have d3_1 : ∀ o1 o2 o3 : Obj, (((w4.alloc o1).alloc o2).alloc o3).cell? ⟨w.heap.size, 1, none⟩ = some (.string D.text) := fun o1 o2 o3 => (alloc_cellF ((w4.alloc o1).alloc o2) o3 _ (by simp; omega)).trans (d2_1 o1 o2)
        have d3_2 : ∀ o1 o2 o3 : Obj, (((w4.alloc o1).alloc o2).alloc o3).cell? ⟨w.heap.size, 2, none⟩ = some (kd) := fun o1 o2 o3 => (alloc_cellF ((w4.alloc o1).alloc o2) o3 _ (by simp; omega)).trans (d2_2 o1 o2)
        have d3_3 : ∀ o1 o2 o3 : Obj, (((w4.alloc o1).alloc o2).alloc o3).cell? ⟨w.heap.size, 3, none⟩ = some (.bool D.brk) := fun o1 o2 o3 => (alloc_cellF ((w4.alloc o1).alloc o2) o3 _ (by simp; omega)).trans (d2_3 o1 o2)
        have d3_4 : ∀ o1 o2 o3 : Obj, (((w4.alloc o1).alloc o2).alloc o3).cell? ⟨w.heap.size, 4, none⟩ = some (.int .i64 D.id) := fun o1 o2 o3 => (alloc_cellF ((w4.alloc o1).alloc o2) o3 _ (by simp; omega)).trans (d2_4 o1 o2)
        have d3_5 : ∀ o1 o2 o3 : Obj, (((w4.alloc o1).alloc o2).alloc o3).cell? ⟨w.heap.size, 5, none⟩ = some (.int .i64 D.width) := fun o1 o2 o3 => (alloc_cellF ((w4.alloc o1).alloc o2) o3 _ (by simp; omega)).trans (d2_5 o1 o2)
        have d4_0 : ∀ o1 o2 o3 o4 : Obj, ((((w4.alloc o1).alloc o2).alloc o3).alloc o4).cell? ⟨w.heap.size, 0, none⟩ = some (.int .i64 D.kind) := fun o1 o2 o3 o4 => (alloc_cellF (((w4.alloc o1).alloc o2).alloc o3) o4 _ (by simp; omega)).trans (d3_0 o1 o2 o3)
        have d4_1 : ∀ o1 o2 o3 o4 : Obj, ((((w4.alloc o1).alloc o2).alloc o3).alloc o4).cell? ⟨w.heap.size, 1, none⟩ = some (.string D.text) := fun o1 o2 o3 o4 => (alloc_cellF (((w4.alloc o1).alloc o2).alloc o3) o4 _ (by simp; omega)).trans (d3_1 o1 o2 o3)
        have d4_2 : ∀ o1 o2 o3 o4 : Obj, ((((w4.alloc o1).alloc o2).alloc o3).alloc o4).cell? ⟨w.heap.size, 2, none⟩ = some (kd) := fun o1 o2 o3 o4 => (alloc_cellF (((w4.alloc o1).alloc o2).alloc o3) o4 _ (by simp; omega)).trans (d3_2 o1 o2 o3)
        have d4_3 : ∀ o1 o2 o3 o4 : Obj, ((((w4.alloc o1).alloc o2).alloc o3).alloc o4).cell? ⟨w.heap.size, 3, none⟩ = some (.bool D.brk) := fun o1 o2 o3 o4 => (alloc_cellF (((w4.alloc o1).alloc o2).alloc o3) o4 _ (by simp; omega)).trans (d3_3 o1 o2 o3)
        have d4_4 : ∀ o1 o2 o3 o4 : Obj, ((((w4.alloc o1).alloc o2).alloc o3).alloc o4).cell? ⟨w.heap.size, 4, none⟩ = some (.int .i64 D.id) := fun o1 o2 o3 o4 => (alloc_cellF (((w4.alloc o1).alloc o2).alloc o3) o4 _ (by simp; omega)).trans (d3_4 o1 o2 o3)
        have d4_5 : ∀ o1 o2 o3 o4 : Obj, ((((w4.alloc o1).alloc o2).alloc o3).alloc o4).cell? ⟨w.heap.size, 5, none⟩ = some (.int .i64 D.width) := fun o1 o2 o3 o4 => (alloc_cellF (((w4.alloc o1).alloc o2).alloc o3) o4 _ (by simp; omega)).trans (d3_5 o1 o2 o3)
        have d5_0 : ∀ o1 o2 o3 o4 o5 : Obj, (((((w4.alloc o1).alloc o2).alloc o3).alloc o4).alloc o5).cell? ⟨w.heap.size, 0, none⟩ = some (.int .i64 D.kind) := fun o1 o2 o3 o4 o5 => (alloc_cellF ((((w4.alloc o1).alloc o2).alloc o3).alloc o4) o5 _ (by simp; omega)).trans (d4_0 o1 o2 o3 o4)
        have d5_1 : ∀ o1 o2 o3 o4 o5 : Obj, (((((w4.alloc o1).alloc o2).alloc o3).alloc o4).alloc o5).cell? ⟨w.heap.size, 1, none⟩ = some (.string D.text) := fun o1 o2 o3 o4 o5 => (alloc_cellF ((((w4.alloc o1).alloc o2).alloc o3).alloc o4) o5 _ (by simp; omega)).trans (d4_1 o1 o2 o3 o4)
        have d5_2 : ∀ o1 o2 o3 o4 o5 : Obj, (((((w4.alloc o1).alloc o2).alloc o3).alloc o4).alloc o5).cell? ⟨w.heap.size, 2, none⟩ = some (kd) := fun o1 o2 o3 o4 o5 => (alloc_cellF ((((w4.alloc o1).alloc o2).alloc o3).alloc o4) o5 _ (by simp; omega)).trans (d4_2 o1 o2 o3 o4)
        have d5_3 : ∀ o1 o2 o3 o4 o5 : Obj, (((((w4.alloc o1).alloc o2).alloc o3).alloc o4).alloc o5).cell? ⟨w.heap.size, 3, none⟩ = some (.bool D.brk) := fun o1 o2 o3 o4 o5 => (alloc_cellF ((((w4.alloc o1).alloc o2).alloc o3).alloc o4) o5 _ (by simp; omega)).trans (d4_3 o1 o2 o3 o4)
        have d5_4 : ∀ o1 o2 o3 o4 o5 : Obj, (((((w4.alloc o1).alloc o2).alloc o3).alloc o4).alloc o5).cell? ⟨w.heap.size, 4, none⟩ = some (.int .i64 D.id) := fun o1 o2 o3 o4 o5 => (alloc_cellF ((((w4.alloc o1).alloc o2).alloc o3).alloc o4) o5 _ (by simp; omega)).trans (d4_4 o1 o2 o3 o4)
        have d5_5 : ∀ o1 o2 o3 o4 o5 : Obj, (((((w4.alloc o1).alloc o2).alloc o3).alloc o4).alloc o5).cell? ⟨w.heap.size, 5, none⟩ = some (.int .i64 D.width) := fun o1 o2 o3 o4 o5 => (alloc_cellF ((((w4.alloc o1).alloc o2).alloc o3).alloc o4) o5 _ (by simp; omega)).trans (d4_5 o1 o2 o3 o4)
        have d6_0 : ∀ o1 o2 o3 o4 o5 o6 : Obj, ((((((w4.alloc o1).alloc o2).alloc o3).alloc o4).alloc o5).alloc o6).cell? ⟨w.heap.size, 0, none⟩ = some (.int .i64 D.kind) := fun o1 o2 o3 o4 o5 o6 => (alloc_cellF (((((w4.alloc o1).alloc o2).alloc o3).alloc o4).alloc o5) o6 _ (by simp; omega)).trans (d5_0 o1 o2 o3 o4 o5)
        have d6_1 : ∀ o1 o2 o3 o4 o5 o6 : Obj, ((((((w4.alloc o1).alloc o2).alloc o3).alloc o4).alloc o5).alloc o6).cell? ⟨w.heap.size, 1, none⟩ = some (.string D.text) := fun o1 o2 o3 o4 o5 o6 => (alloc_cellF (((((w4.alloc o1).alloc o2).alloc o3).alloc o4).alloc o5) o6 _ (by simp; omega)).trans (d5_1 o1 o2 o3 o4 o5)
        have d6_2 : ∀ o1 o2 o3 o4 o5 o6 : Obj, ((((((w4.alloc o1).alloc o2).alloc o3).alloc o4).alloc o5).alloc o6).cell? ⟨w.heap.size, 2, none⟩ = some (kd) := fun o1 o2 o3 o4 o5 o6 => (alloc_cellF (((((w4.alloc o1).alloc o2).alloc o3).alloc o4).alloc o5) o6 _ (by simp; omega)).trans (d5_2 o1 o2 o3 o4 o5)
        have d6_3 : ∀ o1 o2 o3 o4 o5 o6 : Obj, ((((((w4.alloc o1).alloc o2).alloc o3).alloc o4).alloc o5).alloc o6).cell? ⟨w.heap.size, 3, none⟩ = some (.bool D.brk) := fun o1 o2 o3 o4 o5 o6 => (alloc_cellF (((((w4.alloc o1).alloc o2).alloc o3).alloc o4).alloc o5) o6 _ (by simp; omega)).trans (d5_3 o1 o2 o3 o4 o5)
        have d6_4 : ∀ o1 o2 o3 o4 o5 o6 : Obj, ((((((w4.alloc o1).alloc o2).alloc o3).alloc o4).alloc o5).alloc o6).cell? ⟨w.heap.size, 4, none⟩ = some (.int .i64 D.id) := fun o1 o2 o3 o4 o5 o6 => (alloc_cellF (((((w4.alloc o1).alloc o2).alloc o3).alloc o4).alloc o5) o6 _ (by simp; omega)).trans (d5_4 o1 o2 o3 o4 o5)
        have d6_5 : ∀ o1 o2 o3 o4 o5 o6 : Obj, ((((((w4.alloc o1).alloc o2).alloc o3).alloc o4).alloc o5).alloc o6).cell? ⟨w.heap.size, 5, none⟩ = some (.int .i64 D.width) := fun o1 o2 o3 o4 o5 o6 => (alloc_cellF (((((w4.alloc o1).alloc o2).alloc o3).alloc o4).alloc o5) o6 _ (by simp; omega)).trans (d5_5 o1 o2 o3 o4 o5)
        go_wp2_with fail
        go_meet
        case rel => exact ⟨_, _, rfl, sixes_new T4.out _⟩
      case rest =>
        obtain ⟨g, yv, rfl, h5, hk5⟩ := hcut
        obtain ⟨W5, rfl⟩ : ∃ wo : World, wo = wc := ⟨_, rfl⟩
        have HB5 := Lib.hid h5.below
        have K5 := Lib.hid hk5
        have HSF := Lib.hid (six_flat D yv)
        have HSB := Lib.hid (six_bulk D yv HB.out)
        have hl6 : (six D yv).length = 6 := rfl
        have HL6 := Lib.hid hl6
        clear h5 hk5 hl6
        go_wp2_with fail
        go_loopw [11] (fun i wr => ∃ j : Nat, j ≤ 6 ∧ i = .int .i64 (j : Int) ∧ KV wr 0 wr.heap.size (eDoc 2 (six D yv)) (.slice (some ⟨g, 0, none⟩) 6 6) ∧ Below w.heap.size w wr) (fun i _ => 6 - (intOf i).toNat)
        case atStart => exact ⟨0, Nat.zero_le _, rfl, K5.out, HB5.out⟩
        case round =>
          obtain ⟨j, hj, rfl, hkr, hbr⟩ := hrel
          by_cases hlt : j < 6
          · have hji : (j : Int) < 6 := by omega
            have hj2 : j < (six D yv).length := by rw [HL6.out]; exact hlt
            obtain ⟨g', off, eg, _, hg, kv, h6, hk2⟩ := hkr.kid (j := j) hj2
            injection eg with eg
            injection eg with eg1 eg2
            subst eg1 eg2
            have hm : (eDoc 2 (six D yv)).kids[j] ∈ six D yv := List.getElem_mem hj2
            have HX1 := Lib.hid (HSF.out _ hm)
            have HX2 := Lib.hid (HSB.out _ hm)
            generalize (eDoc 2 (six D yv)).kids[j] = X at *
            have g0 := h6.kind
            have g1 := h6.text
            have g2 := h6.kids
            have g3 := h6.brk
            have g4 := h6.id
            have g5 := h6.width
            simp only [Nat.zero_add] at g0 g1 g2 g3 g4 g5
            have HKR := Lib.hid hkr
            have HBR := Lib.hid hbr
            have HK2 := Lib.hid hk2
            have HH6 := Lib.hid h6
            have hg2 := hg
            clear hkr hbr hk2 h6 hm
            go_wp2_with fail
            refine (flat_any X kv _ HK2.out HX2.out (HT.out.below HBR.out)).mono ?_
            rintro e w6 ⟨rfl, hb6⟩
            have HK6 := Lib.hid ((HKR.out.below hb6 (Nat.le_refl _)).wide (Nat.le_refl _) hb6.size)
            have HX6 := Lib.hid ((HK2.out.below hb6 (Nat.le_refl _)).wide (Nat.le_refl _) hb6.size)
            have HB6 := Lib.hid (HBR.out.call hb6)
            have h6' := HH6.out.of (hb6.block _ hg2)
            clear g0 g1 g2 g3 g4 g5
            have g0 := h6'.kind
            have g1 := h6'.text
            have g2 := h6'.kids
            have g3 := h6'.brk
            have g4 := h6'.id
            have g5 := h6'.width
            simp only [Nat.zero_add] at g0 g1 g2 g3 g4 g5
            clear hb6 h6'
            go_wp2_with fail
            refine (check_any X kv _ HX6.out HX2.out (HT.out.below HB6.out)).mono ?_
            rintro e w7 ⟨rfl, hb7⟩
            have HK7 := Lib.hid ((HK6.out.below hb7 (Nat.le_refl _)).wide (Nat.le_refl _) hb7.size)
            have HB7 := Lib.hid (HB6.out.call hb7)
            clear hb7 g0 g1 g2 g3 g4 g5
            by_cases hc : X.code = 0
            · obtain ⟨a1, a2⟩ := around_flat HOK.out HX1.out hc
              have a3 : X.flatS = S := by rw [a2, HSE.out]
              rw [a1, a3, hc]
              have hss : (S.toList != S.toList) = false := by simp
              clear a1 a2 a3 hc
              go_wp2_with (go_at_call 22; refine (num_any _ _).mono ?_; rintro e w9 ⟨rfl, rfl⟩)
              go_roundw
              case rel => exact ⟨j + 1, by omega, by go_num, HK7.out, HB7.out⟩
              case measure => simp [intOf]; omega
            · have hne : (X.code == 0) = false := by simp [hc]
              generalize X.code = cd at *
              clear hc
              go_wp2_with (go_at_call 22; refine (num_any _ _).mono ?_; rintro e w9 ⟨rfl, rfl⟩)
              go_roundw
              case rel => exact ⟨j + 1, by omega, by go_num, HK7.out, HB7.out⟩
              case measure => simp [intOf]; omega
          · have hji : (6 : Int) ≤ (j : Int) := by omega
            have HBR := Lib.hid hbr
            clear hkr hbr
            go_wp2_with (go_at_call 22; refine (num_any _ _).mono ?_; rintro e w9 ⟨rfl, rfl⟩)
            go_ret
            exact ⟨rfl, HBR.out⟩
end Go.Proofs.YtaojlnibkajfbaaDoor
