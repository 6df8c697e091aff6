/- DocJoins: the walk. -/
import Derived.Test.YtaojlnibkajfbaaDoorDocShallow
import Derived.Deep.RegionWith
import Derived.Deep.CutBlock
namespace Go.Proofs.YtaojlnibkajfbaaDoor
open Go.RowKit
set_option maxRecDepth 100000
set_option linter.unusedVariables false
set_option linter.unusedSimpArgs false

/-- Two documents, boxed. -/
structure Two (w : World) (A B : Doc) (ka kb : Value) (W : World) : Prop where
  ba : Blk W w.heap.size (docCells A ka) 24
  bb : Blk W (w.heap.size + 1) (docCells B kb) 24
  ka : KV W 0 W.heap.size A ka
  kb : KV W 0 W.heap.size B kb
  below : Below w.heap.size w W
theorem Two.next {w W W' : World} {A B : Doc} {ka kb : Value} (h : Two w A B ka kb W) (hb : Below W.heap.size W W') : Two w A B ka kb W' :=
  ⟨h.ba.below hb, h.bb.below hb, (h.ka.below hb (Nat.le_refl _)).wide (Nat.le_refl _) hb.size, (h.kb.below hb (Nat.le_refl _)).wide (Nat.le_refl _) hb.size, h.below.trans (hb.mono h.below.size)⟩
theorem Two.drewn {w W : World} {A B : Doc} {ka kb : Value} (h : Two w A B ka kb W) : Two w A B ka kb W.drew := ⟨h.ba, h.bb, h.ka.of (W := W) (W' := W.drew) (Nat.le_refl _) (Nat.le_refl _) (fun _ _ _ => rfl), h.kb.of (W := W) (W' := W.drew) (Nat.le_refl _) (Nat.le_refl _) (fun _ _ _ => rfl), h.below.drew⟩
theorem two_new {w : World} {A B : Doc} {ka kb : Value} (ha : KV w 0 w.heap.size A ka) (hb : KV w 0 w.heap.size B kb) :
    Two w A B ka kb ((w.alloc (.cells (docCells A ka).toArray 24)).alloc (.cells (docCells B kb).toArray 24)) := by
  have h1 : Below w.heap.size w ((w.alloc (.cells (docCells A ka).toArray 24)).alloc (.cells (docCells B kb).toArray 24)) := ((Below.refl _ w).alloc (Nat.le_refl _) _).alloc (by simp) _
  exact ⟨(Blk.new _ _ _).alloc _, Blk.new' _ _ (by simp), (ha.below h1 (Nat.le_refl _)).wide (Nat.le_refl _) h1.size, (hb.below h1 (Nat.le_refl _)).wide (Nat.le_refl _) h1.size, h1⟩

/-! ### Plain -/
def cDoc (A B : Doc) : Doc := eDoc 2 [A, B]
theorem cDoc_formed (A B : Doc) : (cDoc A B).formed = true := by
  show formedF 2 ⟨#[]⟩ 2 false 0 0 = true
  decide +kernel
theorem cDoc_code {A B : Doc} (ha : A.code = 0) (hb : B.code = 0) : (cDoc A B).code = 0 ∨ (cDoc A B).code = 1501 := by
  have h1 := (code_shape ha).1
  have h2 := (code_shape hb).1
  have h3 : (cDoc A B).shape = true := by
    rw [Doc.shape_eq, cDoc_formed]
    show (true && shapeL [A, B]) = true
    simp [shapeL, h1, h2]
  unfold Doc.code
  by_cases h : 64000 < (cDoc A B).depth
  · right; rw [if_pos h]
  · left; rw [if_neg h, if_pos h3]
theorem cDoc_size {A B : Doc} (ha : A.code = 0) (hb : B.code = 0) (hc : (cDoc A B).code = 0) : (cDoc A B).sizeN = 1 + A.sizeN + B.sizeN := by
  unfold Doc.sizeN
  rw [if_pos ha, if_pos hb, if_pos hc, Doc.nodes_eq (cDoc A B)]
  show ((nodesL [A, B] + 1 : Nat) : Int) = _
  simp only [nodesL]
  omega
theorem cDoc_flat {A B : Doc} (ha : A.code = 0) (hb : B.code = 0) (hc : (cDoc A B).code = 0) : (cDoc A B).flatOk = (A.flatOk && B.flatOk) ∧ (A.flatOk = true → B.flatOk = true → (cDoc A B).flatS = A.flatS ++ B.flatS) := by
  have h : (cDoc A B).flat = (A.flat).bind fun x => (B.flat).map fun y => x ++ y := by
    rw [Doc.flat_eq]
    show (if (2 : Int) = 1 then _ else if (2 : Int) = 3 then _ else if (2 : Int) = 5 ∨ (2 : Int) = 6 ∨ (2 : Int) = 16 then _ else if (2 : Int) = 14 ∨ (2 : Int) = 4 ∨ (2 : Int) = 15 then _ else if (2 : Int) = 7 ∨ (2 : Int) = 8 then _ else if (2 : Int) = 10 then _ else flatL [A, B]) = _
    simp only [flatL]
    cases A.flat with
    | none => rfl
    | some x => cases B.flat with
      | none => rfl
      | some y => simp
  unfold Doc.flatOk Doc.flatS Doc.flatV
  rw [if_pos ha, if_pos hb, if_pos hc, h]
  cases A.flat with
  | none => simp
  | some x =>
    cases B.flat with
    | none => simp
    | some y =>
      refine ⟨rfl, fun _ _ => ?_⟩
      apply ByteArray.ext
      simp
theorem cDoc_bulk {A B : Doc} (h : A.bulk + B.bulk ≤ 1048576) : (cDoc A B).bulk ≤ 4194304 := by
  rw [Doc.bulk_eq]
  show bulkL [A, B] + 0 + 1 ≤ _
  simp only [bulkL]
  omega
theorem flatS_size (A : Doc) : A.flatS.size ≤ A.bulk := by
  have key : ∀ l, A.flatV = some l → l.length ≤ A.bulk := by
    intro l h
    unfold Doc.flatV at h
    split at h
    · exact A.flat_len l h
    · cases h
  unfold Doc.flatS
  cases h : A.flatV with
  | none => exact Nat.zero_le _
  | some l =>
    have := key l h
    show l.toArray.size ≤ _
    simpa using this
theorem sizeN_le (A : Doc) : 0 ≤ A.sizeN ∧ A.sizeN ≤ (A.bulk : Int) := by
  unfold Doc.sizeN
  have := A.nodes_bulk
  split <;> omega
/-- The third, of both, beside them. -/
structure Three (w : World) (A B : Doc) (ka kb : Value) (g : Nat) (W : World) : Prop where
  two : Two w A B ka kb W
  bc : Blk W (g + 1) (docCells (cDoc A B) (.slice (some ⟨g, 0, none⟩) 2 2)) 24
  kc : KV W 0 W.heap.size (cDoc A B) (.slice (some ⟨g, 0, none⟩) 2 2)
theorem Three.next {w W W' : World} {A B : Doc} {ka kb : Value} {g : Nat} (h : Three w A B ka kb g W) (hb : Below W.heap.size W W') : Three w A B ka kb g W' :=
  ⟨h.two.next hb, h.bc.below hb, (h.kc.below hb (Nat.le_refl _)).wide (Nat.le_refl _) hb.size⟩
theorem three_new {w W : World} {A B : Doc} {ka kb : Value} (h : Two w A B ka kb W) :
    Three w A B ka kb W.heap.size ((W.alloc (.cells (docsCells [(A, ka), (B, kb)]).toArray 24)).alloc (.cells (docCells (cDoc A B) (.slice (some ⟨W.heap.size, 0, none⟩) 2 2)).toArray 24)) := by
  have h1 : Below W.heap.size W ((W.alloc (.cells (docsCells [(A, ka), (B, kb)]).toArray 24)).alloc (.cells (docCells (cDoc A B) (.slice (some ⟨W.heap.size, 0, none⟩) 2 2)).toArray 24)) := ((Below.refl _ W).alloc (Nat.le_refl _) _).alloc (by simp) _
  have h2 := h.next h1
  refine ⟨h2, Blk.new' _ _ (by simp), ?_⟩
  refine kv_made (D := cDoc A B) (cap := 2) (t := 24) [(A, ka), (B, kb)] ((Blk.new _ _ _).alloc _) ?_ (Nat.zero_le _) (by simp; omega) rfl (by simp)
  intro p hp
  simp only [List.mem_cons, List.not_mem_nil, or_false] at hp
  rcases hp with rfl | rfl
  · exact h2.ka
  · exact h2.kb

set_option maxHeartbeats 4000000 in
theorem docJoins_any (A B : Doc) (ka kb : Value) (w : World) (hka : KV w 0 w.heap.size A ka) (hkb : KV w 0 w.heap.size B kb) (hab : A.bulk + B.bulk ≤ 1048576) (hT : Tabs w) :
    Calls Tryd.prog 6 #[docV A ka, docV B kb] w fun e w' => e = .returned (.bool true) ∧ Below w.heap.size w w' := by
  have H0 := Lib.hid (two_new hka hkb)
  have HT := Lib.hid hT
  have HA := Lib.hid (show A.bulk ≤ 4194304 by omega)
  have HB := Lib.hid (show B.bulk ≤ 4194304 by omega)
  have HC := Lib.hid (cDoc_bulk hab)
  have HSA := Lib.hid (show A.flatS.size ≤ 1048576 by have := flatS_size A; omega)
  have HSB := Lib.hid (show B.flatS.size ≤ 1048576 by have := flatS_size B; omega)
  clear hka hkb hab hT
  unfold docV
  go_enter Tryd.func6, Tryd.ntmps6
  go_wp2_with fail
  refine (awake15_any _ (HT.out.below H0.out.below)).mono ?_
  rintro e w1 ⟨rfl, hb1⟩
  have T1 := Lib.hid (H0.out.next hb1)
  clear hb1
  have a0 := T1.out.ba.cell 0; have a1 := T1.out.ba.cell 1; have a2 := T1.out.ba.cell 2; have a3 := T1.out.ba.cell 3; have a4 := T1.out.ba.cell 4; have a5 := T1.out.ba.cell 5; have b0 := T1.out.bb.cell 0; have b1 := T1.out.bb.cell 1; have b2 := T1.out.bb.cell 2; have b3 := T1.out.bb.cell 3; have b4 := T1.out.bb.cell 4; have b5 := T1.out.bb.cell 5; simp only [docCells, List.getElem?_cons_zero, List.getElem?_cons_succ] at a0 a1 a2 a3 a4 a5 b0 b1 b2 b3 b4 b5
  go_wp2_with fail
  refine (shallow_any A ka w1 T1.out.ka HA.out).mono ?_
  rintro e w2 ⟨rfl, hb2⟩
  have T2 := Lib.hid (T1.out.next hb2)
  clear hb2
  clear a0 a1 a2 a3 a4 a5 b0 b1 b2 b3 b4 b5
  by_cases hsa : A.depth ≤ 65536
  case neg =>
    rw [decide_eq_false hsa]
    clear hsa
    go_wp2_with fail
    go_ret
    exact ⟨rfl, T2.out.below⟩
  rw [decide_eq_true hsa]
  clear hsa
  have a0 := T2.out.ba.cell 0; have a1 := T2.out.ba.cell 1; have a2 := T2.out.ba.cell 2; have a3 := T2.out.ba.cell 3; have a4 := T2.out.ba.cell 4; have a5 := T2.out.ba.cell 5; have b0 := T2.out.bb.cell 0; have b1 := T2.out.bb.cell 1; have b2 := T2.out.bb.cell 2; have b3 := T2.out.bb.cell 3; have b4 := T2.out.bb.cell 4; have b5 := T2.out.bb.cell 5; simp only [docCells, List.getElem?_cons_zero, List.getElem?_cons_succ] at a0 a1 a2 a3 a4 a5 b0 b1 b2 b3 b4 b5
  go_wp2_with fail
  refine (shallow_any B kb w2 T2.out.kb HB.out).mono ?_
  rintro e w3 ⟨rfl, hb3⟩
  have T3 := Lib.hid (T2.out.next hb3)
  clear hb3
  clear a0 a1 a2 a3 a4 a5 b0 b1 b2 b3 b4 b5
  by_cases hsb : B.depth ≤ 65536
  case neg =>
    rw [decide_eq_false hsb]
    clear hsb
    go_wp2_with fail
    go_ret
    exact ⟨rfl, T3.out.below⟩
  rw [decide_eq_true hsb]
  clear hsb
  go_upto_region 5 with (fail)
  go_cut [5, 6] from 15 (fun (s5 s6 : Value) (wc : World) => s5 = .int .i64 A.code ∧ s6 = .int .i64 B.code ∧ Two w A B ka kb wc)
  case first =>
    have a0 := T3.out.ba.cell 0; have a1 := T3.out.ba.cell 1; have a2 := T3.out.ba.cell 2; have a3 := T3.out.ba.cell 3; have a4 := T3.out.ba.cell 4; have a5 := T3.out.ba.cell 5; have b0 := T3.out.bb.cell 0; have b1 := T3.out.bb.cell 1; have b2 := T3.out.bb.cell 2; have b3 := T3.out.bb.cell 3; have b4 := T3.out.bb.cell 4; have b5 := T3.out.bb.cell 5; simp only [docCells, List.getElem?_cons_zero, List.getElem?_cons_succ] at a0 a1 a2 a3 a4 a5 b0 b1 b2 b3 b4 b5
    have T3D := Lib.hid T3.out.drewn
    go_region_with (first
      | (have T4o := T4.out; go_at_call 18; refine (check_any B kb _ T4.out.kb HB.out (HT.out.below T4.out.below)).mono ?_; rintro e w5 ⟨rfl, hb5⟩; have T5 := Lib.hid (T4.out.next hb5); clear hb5)
      | (go_at_call 18; refine (check_any A ka _ T3D.out.ka HA.out (HT.out.below T3D.out.below)).mono ?_; rintro e w4 ⟨rfl, hb4⟩; have T4 := Lib.hid (T3D.out.next hb4); clear hb4; clear a0 a1 a2 a3 a4 a5 b0 b1 b2 b3 b4 b5; have a0 := T4.out.ba.cell 0; have a1 := T4.out.ba.cell 1; have a2 := T4.out.ba.cell 2; have a3 := T4.out.ba.cell 3; have a4 := T4.out.ba.cell 4; have a5 := T4.out.ba.cell 5; have b0 := T4.out.bb.cell 0; have b1 := T4.out.bb.cell 1; have b2 := T4.out.bb.cell 2; have b3 := T4.out.bb.cell 3; have b4 := T4.out.bb.cell 4; have b5 := T4.out.bb.cell 5; simp only [docCells, List.getElem?_cons_zero, List.getElem?_cons_succ] at a0 a1 a2 a3 a4 a5 b0 b1 b2 b3 b4 b5))
    all_goals go_wp2_with fail
    all_goals go_meet
    all_goals exact ⟨rfl, rfl, T5.out⟩
  case rest =>
    obtain ⟨rfl, rfl, h5⟩ := hcut
    have T5 := Lib.hid h5
    clear h5
    by_cases hca : A.code = 0
    case neg =>
      have hne : (A.code == 0) = false := by simp [hca]
      clear hca
      go_wp2_with (go_at_call 22; refine (num_any _ _).mono ?_; rintro e w9 ⟨rfl, rfl⟩)
      go_ret
      exact ⟨rfl, T5.out.below⟩
    by_cases hcb : B.code = 0
    case neg =>
      have hne : (B.code == 0) = false := by simp [hcb]
      have HCA := Lib.hid hca
      rw [hca]
      clear hcb hca
      go_wp2_with (go_at_call 22; refine (num_any _ _).mono ?_; rintro e w9 ⟨rfl, rfl⟩)
      go_ret
      exact ⟨rfl, T5.out.below⟩
    have HCC := Lib.hid (cDoc_code hca hcb)
    have HCS := Lib.hid (fun h => cDoc_size hca hcb h)
    have HCF := Lib.hid (fun h => cDoc_flat hca hcb h)
    rw [hca, hcb]
    clear hca hcb
    have a0 := T5.out.ba.cell 0; have a1 := T5.out.ba.cell 1; have a2 := T5.out.ba.cell 2; have a3 := T5.out.ba.cell 3; have a4 := T5.out.ba.cell 4; have a5 := T5.out.ba.cell 5; have b0 := T5.out.bb.cell 0; have b1 := T5.out.bb.cell 1; have b2 := T5.out.bb.cell 2; have b3 := T5.out.bb.cell 3; have b4 := T5.out.bb.cell 4; have b5 := T5.out.bb.cell 5; simp only [docCells, List.getElem?_cons_zero, List.getElem?_cons_succ] at a0 a1 a2 a3 a4 a5 b0 b1 b2 b3 b4 b5
    go_wp2_with (go_at_call 22; refine (num_any _ _).mono ?_; rintro e w9 ⟨rfl, rfl⟩)
    refine (flat_any A ka _ T5.out.ka HA.out (HT.out.below T5.out.below)).mono ?_
    rintro e w6 ⟨rfl, hb6⟩
    have T6 := Lib.hid (T5.out.next hb6)
    clear hb6
    clear a0 a1 a2 a3 a4 a5 b0 b1 b2 b3 b4 b5
    have a0 := T6.out.ba.cell 0; have a1 := T6.out.ba.cell 1; have a2 := T6.out.ba.cell 2; have a3 := T6.out.ba.cell 3; have a4 := T6.out.ba.cell 4; have a5 := T6.out.ba.cell 5; have b0 := T6.out.bb.cell 0; have b1 := T6.out.bb.cell 1; have b2 := T6.out.bb.cell 2; have b3 := T6.out.bb.cell 3; have b4 := T6.out.bb.cell 4; have b5 := T6.out.bb.cell 5; simp only [docCells, List.getElem?_cons_zero, List.getElem?_cons_succ] at a0 a1 a2 a3 a4 a5 b0 b1 b2 b3 b4 b5
    go_wp2_with fail
    refine (flat_any B kb _ T6.out.kb HB.out (HT.out.below T6.out.below)).mono ?_
    rintro e w7 ⟨rfl, hb7⟩
    have T7 := Lib.hid (T6.out.next hb7)
    clear hb7
    clear a0 a1 a2 a3 a4 a5 b0 b1 b2 b3 b4 b5
    have a0 := T7.out.ba.cell 0; have a1 := T7.out.ba.cell 1; have a2 := T7.out.ba.cell 2; have a3 := T7.out.ba.cell 3; have a4 := T7.out.ba.cell 4; have a5 := T7.out.ba.cell 5; have b0 := T7.out.bb.cell 0; have b1 := T7.out.bb.cell 1; have b2 := T7.out.bb.cell 2; have b3 := T7.out.bb.cell 3; have b4 := T7.out.bb.cell 4; have b5 := T7.out.bb.cell 5; simp only [docCells, List.getElem?_cons_zero, List.getElem?_cons_succ] at a0 a1 a2 a3 a4 a5 b0 b1 b2 b3 b4 b5
    go_wp2_with fail
    have T8 := Lib.hid (three_new T7.out)
    clear a0 a1 a2 a3 a4 a5 b0 b1 b2 b3 b4 b5
    refine (flat_any (cDoc A B) (.slice (some ⟨w7.heap.size, 0, none⟩) 2 2) _ T8.out.kc HC.out (HT.out.below T8.out.two.below)).mono ?_
    rintro e w8 ⟨rfl, hb8⟩
    have T9 := Lib.hid (T8.out.next hb8)
    clear hb8
    have a0 := T9.out.two.ba.cell 0; have a1 := T9.out.two.ba.cell 1; have a2 := T9.out.two.ba.cell 2; have a3 := T9.out.two.ba.cell 3; have a4 := T9.out.two.ba.cell 4; have a5 := T9.out.two.ba.cell 5; have b0 := T9.out.two.bb.cell 0; have b1 := T9.out.two.bb.cell 1; have b2 := T9.out.two.bb.cell 2; have b3 := T9.out.two.bb.cell 3; have b4 := T9.out.two.bb.cell 4; have b5 := T9.out.two.bb.cell 5; have c0 := T9.out.bc.cell 0; have c1 := T9.out.bc.cell 1; have c2 := T9.out.bc.cell 2; have c3 := T9.out.bc.cell 3; have c4 := T9.out.bc.cell 4; have c5 := T9.out.bc.cell 5; simp only [docCells, cDoc, eDoc, Doc.kind, Doc.text, Doc.brk, Doc.id, Doc.width, List.getElem?_cons_zero, List.getElem?_cons_succ] at a0 a1 a2 a3 a4 a5 b0 b1 b2 b3 b4 b5 c0 c1 c2 c3 c4 c5
    go_wp2_with fail
    refine (check_any (cDoc A B) (.slice (some ⟨w7.heap.size, 0, none⟩) 2 2) _ T9.out.kc HC.out (HT.out.below T9.out.two.below)).mono ?_
    rintro e w10 ⟨rfl, hb10⟩
    have T10 := Lib.hid (T9.out.next hb10)
    clear hb10
    clear a0 a1 a2 a3 a4 a5 b0 b1 b2 b3 b4 b5 c0 c1 c2 c3 c4 c5
    rcases HCC.out with hcc | hcc
    case inr =>
      rw [hcc]
      clear hcc
      go_wp2_with (go_at_call 22; refine (num_any _ _).mono ?_; rintro e w9 ⟨rfl, rfl⟩)
      go_ret
      exact ⟨rfl, T10.out.two.below⟩
    have HSZ := Lib.hid (HCS.out hcc)
    have HFL := Lib.hid (HCF.out hcc)
    rw [hcc, HFL.out.1]
    clear hcc
    have a0 := T10.out.two.ba.cell 0; have a1 := T10.out.two.ba.cell 1; have a2 := T10.out.two.ba.cell 2; have a3 := T10.out.two.ba.cell 3; have a4 := T10.out.two.ba.cell 4; have a5 := T10.out.two.ba.cell 5; have b0 := T10.out.two.bb.cell 0; have b1 := T10.out.two.bb.cell 1; have b2 := T10.out.two.bb.cell 2; have b3 := T10.out.two.bb.cell 3; have b4 := T10.out.two.bb.cell 4; have b5 := T10.out.two.bb.cell 5; have c0 := T10.out.bc.cell 0; have c1 := T10.out.bc.cell 1; have c2 := T10.out.bc.cell 2; have c3 := T10.out.bc.cell 3; have c4 := T10.out.bc.cell 4; have c5 := T10.out.bc.cell 5; simp only [docCells, cDoc, eDoc, Doc.kind, Doc.text, Doc.brk, Doc.id, Doc.width, List.getElem?_cons_zero, List.getElem?_cons_succ] at a0 a1 a2 a3 a4 a5 b0 b1 b2 b3 b4 b5 c0 c1 c2 c3 c4 c5
    obtain ⟨oa, hoa⟩ : ∃ z, z = A.flatOk := ⟨_, rfl⟩
    obtain ⟨ob, hob⟩ : ∃ z, z = B.flatOk := ⟨_, rfl⟩
    rw [← hoa, ← hob]
    have HOA := Lib.hid hoa
    have HOB := Lib.hid hob
    clear hoa hob
    have hsA := HSA.out
    have hsB := HSB.out
    have hz1 := sizeN_le A
    have hz2 := sizeN_le B
    have hba := HA.out
    have hbb := HB.out
    have hw1 : IntKind.i64.wrap (1 + A.sizeN) = 1 + A.sizeN := IntWalk.i64_in _ (by omega)
    have hw2 : IntKind.i64.wrap (1 + A.sizeN + B.sizeN) = 1 + A.sizeN + B.sizeN := IntWalk.i64_in _ (by omega)
    have hw3 : wrap64 (1 + A.sizeN) = 1 + A.sizeN := IntWalk.wrap64_in _ ⟨by omega, by omega⟩
    have hw4 : wrap64 (1 + A.sizeN + B.sizeN) = 1 + A.sizeN + B.sizeN := IntWalk.wrap64_in _ ⟨by omega, by omega⟩
    clear hz1 hz2 hba hbb
    cases oa
    ·
      go_wp2_with (go_at_call 22; refine (num_any _ _).mono ?_; rintro e w9 ⟨rfl, rfl⟩)
      clear a0 a1 a2 a3 a4 a5 b0 b1 b2 b3 b4 b5 c0 c1 c2 c3 c4 c5
      refine wp_region_below w10.heap.size (by kernel_rfl) (by kernel_rfl) ?_
      repeat (first | go_big_quiet_skip | (go_big_quiet_want; go_big_quiet_op; (first | go_big_quiet_on | (refine Exists.intro _ ⟨fun _ _ => rfl, ?_⟩; go_big_quiet_on) | (apply Exists.intro; refine ⟨fun wq hq => ?_, ?_⟩; (have Tq := Lib.hid (T10.out.next hq); have a0 := Tq.out.two.ba.cell 0; have a1 := Tq.out.two.ba.cell 1; have a2 := Tq.out.two.ba.cell 2; have a3 := Tq.out.two.ba.cell 3; have a4 := Tq.out.two.ba.cell 4; have a5 := Tq.out.two.ba.cell 5; have b0 := Tq.out.two.bb.cell 0; have b1 := Tq.out.two.bb.cell 1; have b2 := Tq.out.two.bb.cell 2; have b3 := Tq.out.two.bb.cell 3; have b4 := Tq.out.two.bb.cell 4; have b5 := Tq.out.two.bb.cell 5; have c0 := Tq.out.bc.cell 0; have c1 := Tq.out.bc.cell 1; have c2 := Tq.out.bc.cell 2; have c3 := Tq.out.bc.cell 3; have c4 := Tq.out.bc.cell 4; have c5 := Tq.out.bc.cell 5; simp only [docCells, cDoc, eDoc, Doc.kind, Doc.text, Doc.brk, Doc.id, Doc.width, List.getElem?_cons_zero, List.getElem?_cons_succ] at a0 a1 a2 a3 a4 a5 b0 b1 b2 b3 b4 b5 c0 c1 c2 c3 c4 c5; go_simp; rfl); go_big_quiet_on))))
      go_big_quiet_want; go_big_quiet_op; apply Exists.intro; refine ⟨fun wq hq => ?_, ?_⟩; (have Tq := T10.out.next hq; go_at_call 19; refine (size_any (cDoc A B) _ wq Tq.kc HC.out (HT.out.below Tq.two.below)).mono ?_; rintro e w11 ⟨rfl, hb11⟩; rw [HSZ.out]; exact ⟨rfl, hq.call hb11⟩); go_big_quiet_on
      repeat (first | go_big_quiet_skip | (go_big_quiet_want; go_big_quiet_op; (first | go_big_quiet_on | (refine Exists.intro _ ⟨fun _ _ => rfl, ?_⟩; go_big_quiet_on) | (apply Exists.intro; refine ⟨fun wq hq => ?_, ?_⟩; (have Tq := Lib.hid (T10.out.next hq); have a0 := Tq.out.two.ba.cell 0; have a1 := Tq.out.two.ba.cell 1; have a2 := Tq.out.two.ba.cell 2; have a3 := Tq.out.two.ba.cell 3; have a4 := Tq.out.two.ba.cell 4; have a5 := Tq.out.two.ba.cell 5; have b0 := Tq.out.two.bb.cell 0; have b1 := Tq.out.two.bb.cell 1; have b2 := Tq.out.two.bb.cell 2; have b3 := Tq.out.two.bb.cell 3; have b4 := Tq.out.two.bb.cell 4; have b5 := Tq.out.two.bb.cell 5; have c0 := Tq.out.bc.cell 0; have c1 := Tq.out.bc.cell 1; have c2 := Tq.out.bc.cell 2; have c3 := Tq.out.bc.cell 3; have c4 := Tq.out.bc.cell 4; have c5 := Tq.out.bc.cell 5; simp only [docCells, cDoc, eDoc, Doc.kind, Doc.text, Doc.brk, Doc.id, Doc.width, List.getElem?_cons_zero, List.getElem?_cons_succ] at a0 a1 a2 a3 a4 a5 b0 b1 b2 b3 b4 b5 c0 c1 c2 c3 c4 c5; go_simp; rfl); go_big_quiet_on))))
      go_big_quiet_want; go_big_quiet_op; apply Exists.intro; refine ⟨fun wq hq => ?_, ?_⟩; (have Tq := T10.out.next hq; go_at_call 19; refine (size_any (A) _ wq Tq.two.ka HA.out (HT.out.below Tq.two.below)).mono ?_; rintro e w11 ⟨rfl, hb11⟩; exact ⟨rfl, hq.call hb11⟩); go_big_quiet_on
      repeat (first | go_big_quiet_skip | (go_big_quiet_want; go_big_quiet_op; (first | go_big_quiet_on | (refine Exists.intro _ ⟨fun _ _ => rfl, ?_⟩; go_big_quiet_on) | (apply Exists.intro; refine ⟨fun wq hq => ?_, ?_⟩; (have Tq := Lib.hid (T10.out.next hq); have a0 := Tq.out.two.ba.cell 0; have a1 := Tq.out.two.ba.cell 1; have a2 := Tq.out.two.ba.cell 2; have a3 := Tq.out.two.ba.cell 3; have a4 := Tq.out.two.ba.cell 4; have a5 := Tq.out.two.ba.cell 5; have b0 := Tq.out.two.bb.cell 0; have b1 := Tq.out.two.bb.cell 1; have b2 := Tq.out.two.bb.cell 2; have b3 := Tq.out.two.bb.cell 3; have b4 := Tq.out.two.bb.cell 4; have b5 := Tq.out.two.bb.cell 5; have c0 := Tq.out.bc.cell 0; have c1 := Tq.out.bc.cell 1; have c2 := Tq.out.bc.cell 2; have c3 := Tq.out.bc.cell 3; have c4 := Tq.out.bc.cell 4; have c5 := Tq.out.bc.cell 5; simp only [docCells, cDoc, eDoc, Doc.kind, Doc.text, Doc.brk, Doc.id, Doc.width, List.getElem?_cons_zero, List.getElem?_cons_succ] at a0 a1 a2 a3 a4 a5 b0 b1 b2 b3 b4 b5 c0 c1 c2 c3 c4 c5; go_simp; rfl); go_big_quiet_on))))
      go_big_quiet_want; go_big_quiet_op; apply Exists.intro; refine ⟨fun wq hq => ?_, ?_⟩; (have Tq := T10.out.next hq; go_at_call 19; refine (size_any (B) _ wq Tq.two.kb HB.out (HT.out.below Tq.two.below)).mono ?_; rintro e w11 ⟨rfl, hb11⟩; exact ⟨rfl, hq.call hb11⟩); go_big_quiet_on
      repeat (first | go_big_quiet_skip | (go_big_quiet_want; go_big_quiet_op; (first | go_big_quiet_on | (refine Exists.intro _ ⟨fun _ _ => rfl, ?_⟩; go_big_quiet_on) | (apply Exists.intro; refine ⟨fun wq hq => ?_, ?_⟩; (have Tq := Lib.hid (T10.out.next hq); have a0 := Tq.out.two.ba.cell 0; have a1 := Tq.out.two.ba.cell 1; have a2 := Tq.out.two.ba.cell 2; have a3 := Tq.out.two.ba.cell 3; have a4 := Tq.out.two.ba.cell 4; have a5 := Tq.out.two.ba.cell 5; have b0 := Tq.out.two.bb.cell 0; have b1 := Tq.out.two.bb.cell 1; have b2 := Tq.out.two.bb.cell 2; have b3 := Tq.out.two.bb.cell 3; have b4 := Tq.out.two.bb.cell 4; have b5 := Tq.out.two.bb.cell 5; have c0 := Tq.out.bc.cell 0; have c1 := Tq.out.bc.cell 1; have c2 := Tq.out.bc.cell 2; have c3 := Tq.out.bc.cell 3; have c4 := Tq.out.bc.cell 4; have c5 := Tq.out.bc.cell 5; simp only [docCells, cDoc, eDoc, Doc.kind, Doc.text, Doc.brk, Doc.id, Doc.width, List.getElem?_cons_zero, List.getElem?_cons_succ] at a0 a1 a2 a3 a4 a5 b0 b1 b2 b3 b4 b5 c0 c1 c2 c3 c4 c5; go_simp; rfl); go_big_quiet_on))))
      refine wpQuiet_nil ?_
      intro wq hq
      have HWQ := Lib.hid (T10.out.two.below.call hq)
      clear hq
      go_wp2_with fail
      go_ret
      exact ⟨rfl, HWQ.out⟩
    · cases ob
      ·
        go_wp2_with (go_at_call 22; refine (num_any _ _).mono ?_; rintro e w9 ⟨rfl, rfl⟩)
        clear a0 a1 a2 a3 a4 a5 b0 b1 b2 b3 b4 b5 c0 c1 c2 c3 c4 c5
        refine wp_region_below w10.heap.size (by kernel_rfl) (by kernel_rfl) ?_
        repeat (first | go_big_quiet_skip | (go_big_quiet_want; go_big_quiet_op; (first | go_big_quiet_on | (refine Exists.intro _ ⟨fun _ _ => rfl, ?_⟩; go_big_quiet_on) | (apply Exists.intro; refine ⟨fun wq hq => ?_, ?_⟩; (have Tq := Lib.hid (T10.out.next hq); have a0 := Tq.out.two.ba.cell 0; have a1 := Tq.out.two.ba.cell 1; have a2 := Tq.out.two.ba.cell 2; have a3 := Tq.out.two.ba.cell 3; have a4 := Tq.out.two.ba.cell 4; have a5 := Tq.out.two.ba.cell 5; have b0 := Tq.out.two.bb.cell 0; have b1 := Tq.out.two.bb.cell 1; have b2 := Tq.out.two.bb.cell 2; have b3 := Tq.out.two.bb.cell 3; have b4 := Tq.out.two.bb.cell 4; have b5 := Tq.out.two.bb.cell 5; have c0 := Tq.out.bc.cell 0; have c1 := Tq.out.bc.cell 1; have c2 := Tq.out.bc.cell 2; have c3 := Tq.out.bc.cell 3; have c4 := Tq.out.bc.cell 4; have c5 := Tq.out.bc.cell 5; simp only [docCells, cDoc, eDoc, Doc.kind, Doc.text, Doc.brk, Doc.id, Doc.width, List.getElem?_cons_zero, List.getElem?_cons_succ] at a0 a1 a2 a3 a4 a5 b0 b1 b2 b3 b4 b5 c0 c1 c2 c3 c4 c5; go_simp; rfl); go_big_quiet_on))))
        go_big_quiet_want; go_big_quiet_op; apply Exists.intro; refine ⟨fun wq hq => ?_, ?_⟩; (have Tq := T10.out.next hq; go_at_call 19; refine (size_any (cDoc A B) _ wq Tq.kc HC.out (HT.out.below Tq.two.below)).mono ?_; rintro e w11 ⟨rfl, hb11⟩; rw [HSZ.out]; exact ⟨rfl, hq.call hb11⟩); go_big_quiet_on
        repeat (first | go_big_quiet_skip | (go_big_quiet_want; go_big_quiet_op; (first | go_big_quiet_on | (refine Exists.intro _ ⟨fun _ _ => rfl, ?_⟩; go_big_quiet_on) | (apply Exists.intro; refine ⟨fun wq hq => ?_, ?_⟩; (have Tq := Lib.hid (T10.out.next hq); have a0 := Tq.out.two.ba.cell 0; have a1 := Tq.out.two.ba.cell 1; have a2 := Tq.out.two.ba.cell 2; have a3 := Tq.out.two.ba.cell 3; have a4 := Tq.out.two.ba.cell 4; have a5 := Tq.out.two.ba.cell 5; have b0 := Tq.out.two.bb.cell 0; have b1 := Tq.out.two.bb.cell 1; have b2 := Tq.out.two.bb.cell 2; have b3 := Tq.out.two.bb.cell 3; have b4 := Tq.out.two.bb.cell 4; have b5 := Tq.out.two.bb.cell 5; have c0 := Tq.out.bc.cell 0; have c1 := Tq.out.bc.cell 1; have c2 := Tq.out.bc.cell 2; have c3 := Tq.out.bc.cell 3; have c4 := Tq.out.bc.cell 4; have c5 := Tq.out.bc.cell 5; simp only [docCells, cDoc, eDoc, Doc.kind, Doc.text, Doc.brk, Doc.id, Doc.width, List.getElem?_cons_zero, List.getElem?_cons_succ] at a0 a1 a2 a3 a4 a5 b0 b1 b2 b3 b4 b5 c0 c1 c2 c3 c4 c5; go_simp; rfl); go_big_quiet_on))))
        go_big_quiet_want; go_big_quiet_op; apply Exists.intro; refine ⟨fun wq hq => ?_, ?_⟩; (have Tq := T10.out.next hq; go_at_call 19; refine (size_any (A) _ wq Tq.two.ka HA.out (HT.out.below Tq.two.below)).mono ?_; rintro e w11 ⟨rfl, hb11⟩; exact ⟨rfl, hq.call hb11⟩); go_big_quiet_on
        repeat (first | go_big_quiet_skip | (go_big_quiet_want; go_big_quiet_op; (first | go_big_quiet_on | (refine Exists.intro _ ⟨fun _ _ => rfl, ?_⟩; go_big_quiet_on) | (apply Exists.intro; refine ⟨fun wq hq => ?_, ?_⟩; (have Tq := Lib.hid (T10.out.next hq); have a0 := Tq.out.two.ba.cell 0; have a1 := Tq.out.two.ba.cell 1; have a2 := Tq.out.two.ba.cell 2; have a3 := Tq.out.two.ba.cell 3; have a4 := Tq.out.two.ba.cell 4; have a5 := Tq.out.two.ba.cell 5; have b0 := Tq.out.two.bb.cell 0; have b1 := Tq.out.two.bb.cell 1; have b2 := Tq.out.two.bb.cell 2; have b3 := Tq.out.two.bb.cell 3; have b4 := Tq.out.two.bb.cell 4; have b5 := Tq.out.two.bb.cell 5; have c0 := Tq.out.bc.cell 0; have c1 := Tq.out.bc.cell 1; have c2 := Tq.out.bc.cell 2; have c3 := Tq.out.bc.cell 3; have c4 := Tq.out.bc.cell 4; have c5 := Tq.out.bc.cell 5; simp only [docCells, cDoc, eDoc, Doc.kind, Doc.text, Doc.brk, Doc.id, Doc.width, List.getElem?_cons_zero, List.getElem?_cons_succ] at a0 a1 a2 a3 a4 a5 b0 b1 b2 b3 b4 b5 c0 c1 c2 c3 c4 c5; go_simp; rfl); go_big_quiet_on))))
        go_big_quiet_want; go_big_quiet_op; apply Exists.intro; refine ⟨fun wq hq => ?_, ?_⟩; (have Tq := T10.out.next hq; go_at_call 19; refine (size_any (B) _ wq Tq.two.kb HB.out (HT.out.below Tq.two.below)).mono ?_; rintro e w11 ⟨rfl, hb11⟩; exact ⟨rfl, hq.call hb11⟩); go_big_quiet_on
        repeat (first | go_big_quiet_skip | (go_big_quiet_want; go_big_quiet_op; (first | go_big_quiet_on | (refine Exists.intro _ ⟨fun _ _ => rfl, ?_⟩; go_big_quiet_on) | (apply Exists.intro; refine ⟨fun wq hq => ?_, ?_⟩; (have Tq := Lib.hid (T10.out.next hq); have a0 := Tq.out.two.ba.cell 0; have a1 := Tq.out.two.ba.cell 1; have a2 := Tq.out.two.ba.cell 2; have a3 := Tq.out.two.ba.cell 3; have a4 := Tq.out.two.ba.cell 4; have a5 := Tq.out.two.ba.cell 5; have b0 := Tq.out.two.bb.cell 0; have b1 := Tq.out.two.bb.cell 1; have b2 := Tq.out.two.bb.cell 2; have b3 := Tq.out.two.bb.cell 3; have b4 := Tq.out.two.bb.cell 4; have b5 := Tq.out.two.bb.cell 5; have c0 := Tq.out.bc.cell 0; have c1 := Tq.out.bc.cell 1; have c2 := Tq.out.bc.cell 2; have c3 := Tq.out.bc.cell 3; have c4 := Tq.out.bc.cell 4; have c5 := Tq.out.bc.cell 5; simp only [docCells, cDoc, eDoc, Doc.kind, Doc.text, Doc.brk, Doc.id, Doc.width, List.getElem?_cons_zero, List.getElem?_cons_succ] at a0 a1 a2 a3 a4 a5 b0 b1 b2 b3 b4 b5 c0 c1 c2 c3 c4 c5; go_simp; rfl); go_big_quiet_on))))
        refine wpQuiet_nil ?_
        intro wq hq
        have HWQ := Lib.hid (T10.out.two.below.call hq)
        clear hq
        go_wp2_with fail
        go_ret
        exact ⟨rfl, HWQ.out⟩
      · rw [HFL.out.2 HOA.out.symm HOB.out.symm]
        go_wp2_with (go_at_call 22; refine (num_any _ _).mono ?_; rintro e w9 ⟨rfl, rfl⟩)
        clear a0 a1 a2 a3 a4 a5 b0 b1 b2 b3 b4 b5 c0 c1 c2 c3 c4 c5
        refine wp_region_below w10.heap.size (by kernel_rfl) (by kernel_rfl) ?_
        repeat (first | go_big_quiet_skip | (go_big_quiet_want; go_big_quiet_op; (first | go_big_quiet_on | (refine Exists.intro _ ⟨fun _ _ => rfl, ?_⟩; go_big_quiet_on) | (apply Exists.intro; refine ⟨fun wq hq => ?_, ?_⟩; (have Tq := Lib.hid (T10.out.next hq); have a0 := Tq.out.two.ba.cell 0; have a1 := Tq.out.two.ba.cell 1; have a2 := Tq.out.two.ba.cell 2; have a3 := Tq.out.two.ba.cell 3; have a4 := Tq.out.two.ba.cell 4; have a5 := Tq.out.two.ba.cell 5; have b0 := Tq.out.two.bb.cell 0; have b1 := Tq.out.two.bb.cell 1; have b2 := Tq.out.two.bb.cell 2; have b3 := Tq.out.two.bb.cell 3; have b4 := Tq.out.two.bb.cell 4; have b5 := Tq.out.two.bb.cell 5; have c0 := Tq.out.bc.cell 0; have c1 := Tq.out.bc.cell 1; have c2 := Tq.out.bc.cell 2; have c3 := Tq.out.bc.cell 3; have c4 := Tq.out.bc.cell 4; have c5 := Tq.out.bc.cell 5; simp only [docCells, cDoc, eDoc, Doc.kind, Doc.text, Doc.brk, Doc.id, Doc.width, List.getElem?_cons_zero, List.getElem?_cons_succ] at a0 a1 a2 a3 a4 a5 b0 b1 b2 b3 b4 b5 c0 c1 c2 c3 c4 c5; go_simp; rfl); go_big_quiet_on))))
        go_big_quiet_want; go_big_quiet_op; apply Exists.intro; refine ⟨fun wq hq => ?_, ?_⟩; (have Tq := T10.out.next hq; go_at_call 19; refine (size_any (cDoc A B) _ wq Tq.kc HC.out (HT.out.below Tq.two.below)).mono ?_; rintro e w11 ⟨rfl, hb11⟩; rw [HSZ.out]; exact ⟨rfl, hq.call hb11⟩); go_big_quiet_on
        repeat (first | go_big_quiet_skip | (go_big_quiet_want; go_big_quiet_op; (first | go_big_quiet_on | (refine Exists.intro _ ⟨fun _ _ => rfl, ?_⟩; go_big_quiet_on) | (apply Exists.intro; refine ⟨fun wq hq => ?_, ?_⟩; (have Tq := Lib.hid (T10.out.next hq); have a0 := Tq.out.two.ba.cell 0; have a1 := Tq.out.two.ba.cell 1; have a2 := Tq.out.two.ba.cell 2; have a3 := Tq.out.two.ba.cell 3; have a4 := Tq.out.two.ba.cell 4; have a5 := Tq.out.two.ba.cell 5; have b0 := Tq.out.two.bb.cell 0; have b1 := Tq.out.two.bb.cell 1; have b2 := Tq.out.two.bb.cell 2; have b3 := Tq.out.two.bb.cell 3; have b4 := Tq.out.two.bb.cell 4; have b5 := Tq.out.two.bb.cell 5; have c0 := Tq.out.bc.cell 0; have c1 := Tq.out.bc.cell 1; have c2 := Tq.out.bc.cell 2; have c3 := Tq.out.bc.cell 3; have c4 := Tq.out.bc.cell 4; have c5 := Tq.out.bc.cell 5; simp only [docCells, cDoc, eDoc, Doc.kind, Doc.text, Doc.brk, Doc.id, Doc.width, List.getElem?_cons_zero, List.getElem?_cons_succ] at a0 a1 a2 a3 a4 a5 b0 b1 b2 b3 b4 b5 c0 c1 c2 c3 c4 c5; go_simp; rfl); go_big_quiet_on))))
        go_big_quiet_want; go_big_quiet_op; apply Exists.intro; refine ⟨fun wq hq => ?_, ?_⟩; (have Tq := T10.out.next hq; go_at_call 19; refine (size_any (A) _ wq Tq.two.ka HA.out (HT.out.below Tq.two.below)).mono ?_; rintro e w11 ⟨rfl, hb11⟩; exact ⟨rfl, hq.call hb11⟩); go_big_quiet_on
        repeat (first | go_big_quiet_skip | (go_big_quiet_want; go_big_quiet_op; (first | go_big_quiet_on | (refine Exists.intro _ ⟨fun _ _ => rfl, ?_⟩; go_big_quiet_on) | (apply Exists.intro; refine ⟨fun wq hq => ?_, ?_⟩; (have Tq := Lib.hid (T10.out.next hq); have a0 := Tq.out.two.ba.cell 0; have a1 := Tq.out.two.ba.cell 1; have a2 := Tq.out.two.ba.cell 2; have a3 := Tq.out.two.ba.cell 3; have a4 := Tq.out.two.ba.cell 4; have a5 := Tq.out.two.ba.cell 5; have b0 := Tq.out.two.bb.cell 0; have b1 := Tq.out.two.bb.cell 1; have b2 := Tq.out.two.bb.cell 2; have b3 := Tq.out.two.bb.cell 3; have b4 := Tq.out.two.bb.cell 4; have b5 := Tq.out.two.bb.cell 5; have c0 := Tq.out.bc.cell 0; have c1 := Tq.out.bc.cell 1; have c2 := Tq.out.bc.cell 2; have c3 := Tq.out.bc.cell 3; have c4 := Tq.out.bc.cell 4; have c5 := Tq.out.bc.cell 5; simp only [docCells, cDoc, eDoc, Doc.kind, Doc.text, Doc.brk, Doc.id, Doc.width, List.getElem?_cons_zero, List.getElem?_cons_succ] at a0 a1 a2 a3 a4 a5 b0 b1 b2 b3 b4 b5 c0 c1 c2 c3 c4 c5; go_simp; rfl); go_big_quiet_on))))
        go_big_quiet_want; go_big_quiet_op; apply Exists.intro; refine ⟨fun wq hq => ?_, ?_⟩; (have Tq := T10.out.next hq; go_at_call 19; refine (size_any (B) _ wq Tq.two.kb HB.out (HT.out.below Tq.two.below)).mono ?_; rintro e w11 ⟨rfl, hb11⟩; exact ⟨rfl, hq.call hb11⟩); go_big_quiet_on
        repeat (first | go_big_quiet_skip | (go_big_quiet_want; go_big_quiet_op; (first | go_big_quiet_on | (refine Exists.intro _ ⟨fun _ _ => rfl, ?_⟩; go_big_quiet_on) | (apply Exists.intro; refine ⟨fun wq hq => ?_, ?_⟩; (have Tq := Lib.hid (T10.out.next hq); have a0 := Tq.out.two.ba.cell 0; have a1 := Tq.out.two.ba.cell 1; have a2 := Tq.out.two.ba.cell 2; have a3 := Tq.out.two.ba.cell 3; have a4 := Tq.out.two.ba.cell 4; have a5 := Tq.out.two.ba.cell 5; have b0 := Tq.out.two.bb.cell 0; have b1 := Tq.out.two.bb.cell 1; have b2 := Tq.out.two.bb.cell 2; have b3 := Tq.out.two.bb.cell 3; have b4 := Tq.out.two.bb.cell 4; have b5 := Tq.out.two.bb.cell 5; have c0 := Tq.out.bc.cell 0; have c1 := Tq.out.bc.cell 1; have c2 := Tq.out.bc.cell 2; have c3 := Tq.out.bc.cell 3; have c4 := Tq.out.bc.cell 4; have c5 := Tq.out.bc.cell 5; simp only [docCells, cDoc, eDoc, Doc.kind, Doc.text, Doc.brk, Doc.id, Doc.width, List.getElem?_cons_zero, List.getElem?_cons_succ] at a0 a1 a2 a3 a4 a5 b0 b1 b2 b3 b4 b5 c0 c1 c2 c3 c4 c5; go_simp; rfl); go_big_quiet_on))))
        refine wpQuiet_nil ?_
        intro wq hq
        have HWQ := Lib.hid (T10.out.two.below.call hq)
        clear hq
        go_wp2_with fail
        go_ret
        exact ⟨rfl, HWQ.out⟩
end Go.Proofs.YtaojlnibkajfbaaDoor
