/- Documents that a call makes; the awake of chapter 15. -/
import Derived.Test.YtaojlnibkajfbaaDoorDocFlat
namespace Go.Proofs.YtaojlnibkajfbaaDoor
open Go.RowKit
set_option maxRecDepth 100000
set_option linter.unusedVariables false
set_option linter.unusedSimpArgs false

/-- The cells of documents, one behind the other. -/
def docsCells (l : List (Doc × Value)) : List Value := l.flatMap fun p => docCells p.1 p.2
theorem docsCells_at : ∀ (l : List (Doc × Value)) (j c : Nat) (hj : j < l.length), c < 6 → (docsCells l)[j * 6 + c]? = (docCells (l[j]).1 (l[j]).2)[c]?
  | p :: l, 0, c, _, hc => by
    simp only [docsCells, List.flatMap_cons, List.getElem_cons_zero, Nat.zero_mul, Nat.zero_add]
    rw [List.getElem?_append_left (by simp [docCells]; omega)]
  | p :: l, j + 1, c, hj, hc => by
    have ih := docsCells_at l j c (by simpa using hj) hc
    simp only [docsCells, List.flatMap_cons, List.getElem_cons_succ] at ih ⊢
    rw [List.getElem?_append_right (by simp [docCells]; omega)]
    have e : (docCells p.1 p.2).length = 6 := rfl
    rw [e, show (j + 1) * 6 + c - 6 = j * 6 + c by omega]
    exact ih
theorem kv_made {W : World} {lo hi g cap : Nat} {D : Doc} {t : TypeId} (l : List (Doc × Value)) (hb : Blk W g (docsCells l) t) (hk : ∀ p ∈ l, KV W lo hi p.1 p.2) (h1 : lo ≤ g) (h2 : g < hi) (hD : D.kids = l.map Prod.fst) (hc : l.length ≤ cap) :
    KV W lo hi D (.slice (some ⟨g, 0, none⟩) l.length cap) := by
  rw [KV_iff]
  refine ⟨_, _, by rw [hD, List.length_map], by rw [hD, List.length_map]; exact hc, fun _ => ⟨g, 0, rfl, h1, h2, EV_iff.2 fun j hj => ?_⟩⟩
  have hjl : j < l.length := by rw [hD, List.length_map] at hj; exact hj
  have e : D.kids[j] = (l[j]).1 := by simp [hD]
  have hcell : ∀ c, c < 6 → W.cell? ⟨g, 0 + j * 6 + c, none⟩ = (docCells (l[j]).1 (l[j]).2)[c]? := fun c h6 => by
    rw [hb.cell, Nat.zero_add, docsCells_at l j c hjl h6]
  rw [e]
  exact ⟨(l[j]).2, ⟨hcell 0 (by omega), hcell 1 (by omega), hcell 2 (by omega), hcell 3 (by omega), hcell 4 (by omega), hcell 5 (by omega)⟩, hk _ (List.getElem_mem hjl)⟩
theorem kv_nil {W : World} {lo hi : Nat} {D : Doc} (hD : D.kids = []) : KV W lo hi D (.slice none 0 0) := by
  rw [KV_iff, hD]
  exact ⟨none, 0, rfl, by simp, fun h => by simp at h⟩
theorem num_any' (n : Int) (w : World) : Calls Tryd.prog 22 #[.int .i64 n] w fun e w' => e = .returned (.int .i64 n) ∧ w = w' := num_any n w

theorem _root_.Go.RowKit.Calls.at_world {P : Program} {f : FuncId} {args : Array Value} {w w' : World} {R : Ending → World → Prop} (e : w = w') (h : Calls P f args w R) : Calls P f args w' R := e ▸ h
def eDoc (k : Int) (ks : List Doc) : Doc := .mk k ⟨#[]⟩ ks false 0 0
def awD : Doc := eDoc 7 [eDoc 2 [dtext ⟨#[97]⟩, eDoc 3 [], dtext ⟨#[98]⟩]]
theorem awD_code : awD.code = 0 := by kernel_rfl
theorem awD_flat : awD.flatS = ⟨#[97, 32, 98]⟩ ∧ awD.flatOk = true := ⟨by kernel_rfl, by kernel_rfl⟩
theorem awD_size : awD.sizeN = 5 := by kernel_rfl
theorem awT_code : (dtext ⟨#[97, 10]⟩).code = 1500 := by kernel_rfl
theorem awH_flat : (eDoc 5 []).flatS = ⟨#[]⟩ ∧ (eDoc 5 []).flatOk = false := ⟨by kernel_rfl, by kernel_rfl⟩

set_option maxHeartbeats 4000000 in
theorem awake15_any (w : World) (hT : Tabs w) :
    Calls Tryd.prog 25 #[] w fun e w' => e = .returned (.bool true) ∧ Below w.heap.size w w' := by
  have HT := Lib.hid hT
  have H0 := Lib.hid awD_code
  have H1 := Lib.hid awD_flat
  have H2 := Lib.hid awD_size
  have H3 := Lib.hid awT_code
  have H4 := Lib.hid awH_flat
  clear hT
  go_enter Tryd.func25, Tryd.ntmps25
  go_wp2_with fail
  refine (dtext_any _ _).mono ?_
  rintro e w1 ⟨rfl, hb1⟩
  unfold docV
  simp only [dtext, Doc.kind, Doc.text, Doc.brk, Doc.id, Doc.width]
  go_wp2_with fail
  refine (dtext_any _ _).mono ?_
  rintro e w2 ⟨rfl, hb2⟩
  unfold docV
  simp only [dtext, Doc.kind, Doc.text, Doc.brk, Doc.id, Doc.width]
  go_wp2_with fail
  obtain ⟨W3, hW3⟩ : ∃ W3, W3 = ((w2.alloc (.cells (docsCells [(dtext ⟨#[97]⟩, .slice none 0 0), (eDoc 3 [], .slice none 0 0), (dtext ⟨#[98]⟩, .slice none 0 0)]).toArray 24)).alloc (.cells (docsCells [(eDoc 2 [dtext ⟨#[97]⟩, eDoc 3 [], dtext ⟨#[98]⟩], .slice (some ⟨w2.heap.size, 0, none⟩) 3 3)]).toArray 24)).alloc (.cells (docCells awD (.slice (some ⟨w2.heap.size + 1, 0, none⟩) 1 1)).toArray 24) := ⟨_, rfl⟩
  have hz3 : W3.heap.size = w2.heap.size + 3 := by rw [hW3]; simp
  have hb3 : Below w.heap.size w W3 := by
    have h2 := (hb1.call hb2).size
    rw [hW3]
    exact (((hb1.call hb2).alloc h2 _).alloc (by simp; omega) _).alloc (by simp; omega) _
  have hB1 : Blk W3 w2.heap.size (docsCells [(dtext ⟨#[97]⟩, .slice none 0 0), (eDoc 3 [], .slice none 0 0), (dtext ⟨#[98]⟩, .slice none 0 0)]) 24 := by rw [hW3]; exact ((Blk.new _ _ _).alloc _).alloc _
  have hB2 : Blk W3 (w2.heap.size + 1) (docsCells [(eDoc 2 [dtext ⟨#[97]⟩, eDoc 3 [], dtext ⟨#[98]⟩], .slice (some ⟨w2.heap.size, 0, none⟩) 3 3)]) 24 := by rw [hW3]; exact (Blk.new' _ _ (by simp)).alloc _
  have hB3 : Blk W3 (w2.heap.size + 1 + 1) (docCells awD (.slice (some ⟨w2.heap.size + 1, 0, none⟩) 1 1)) 24 := by rw [hW3]; exact Blk.new' _ _ (by simp)
  have k1 : KV W3 0 W3.heap.size (eDoc 2 [dtext ⟨#[97]⟩, eDoc 3 [], dtext ⟨#[98]⟩]) (.slice (some ⟨w2.heap.size, 0, none⟩) 3 3) :=
    kv_made (cap := 3) [(dtext ⟨#[97]⟩, .slice none 0 0), (eDoc 3 [], .slice none 0 0), (dtext ⟨#[98]⟩, .slice none 0 0)] hB1 (by intro p hp; simp at hp; rcases hp with rfl | rfl | rfl <;> exact kv_nil rfl) (Nat.zero_le _) (by omega) rfl (by simp)
  have k2 : KV W3 0 W3.heap.size awD (.slice (some ⟨w2.heap.size + 1, 0, none⟩) 1 1) :=
    kv_made (cap := 1) [(eDoc 2 [dtext ⟨#[97]⟩, eDoc 3 [], dtext ⟨#[98]⟩], .slice (some ⟨w2.heap.size, 0, none⟩) 3 3)] hB2 (by intro p hp; simp at hp; subst hp; exact k1) (Nat.zero_le _) (by omega) rfl (by simp)
  have HW3 := Lib.hid hW3
  have HB3 := Lib.hid hb3
  have HBK := Lib.hid hB3
  have HK2 := Lib.hid k2
  clear hW3 hb3 hB1 hB2 hB3 k1 k2 hb1 hb2 hz3
  refine (Calls.at_world HW3.out (flat_any awD (.slice (some ⟨w2.heap.size + 1, 0, none⟩) 1 1) W3 HK2.out (by decide +kernel) (HT.out.below HB3.out))).mono ?_
  rintro e w4 ⟨rfl, hb4⟩
  rw [H1.out.1, H1.out.2]
  have HB4 := Lib.hid (HB3.out.call hb4)
  have HK4 := Lib.hid (HK2.out.below hb4 (Nat.le_refl _))
  have hz4 := hb4.size
  have bk4 := HBK.out.below hb4
  have HBK4 := Lib.hid bk4
  have c0 := bk4.cell 0
  have c1 := bk4.cell 1
  have c2 := bk4.cell 2
  have c3 := bk4.cell 3
  have c4 := bk4.cell 4
  have c5 := bk4.cell 5
  simp only [docCells, awD, eDoc, Doc.kind, Doc.text, Doc.brk, Doc.id, Doc.width, List.getElem?_cons_zero, List.getElem?_cons_succ] at c0 c1 c2 c3 c4 c5
  clear hb4 bk4
  go_wp2_with fail
  refine (check_any awD (.slice (some ⟨w2.heap.size + 1, 0, none⟩) 1 1) w4 (HK4.out.wide (Nat.le_refl _) hz4) (by decide +kernel) (HT.out.below HB4.out)).mono ?_
  rintro e w5 ⟨rfl, hb5⟩
  rw [H0.out]
  have HB5 := Lib.hid (HB4.out.call hb5)
  have HK5 := Lib.hid ((HK4.out.wide (Nat.le_refl _) hz4).below hb5 (Nat.le_refl _))
  have HBK5 := Lib.hid (HBK4.out.below hb5)
  have hz5 := hb5.size
  clear hb5 c0 c1 c2 c3 c4 c5
  go_wp2_with fail
  refine (dtext_any _ _).mono ?_
  rintro e w6 ⟨rfl, hb6⟩
  have HB6 := Lib.hid (HB5.out.call hb6)
  have HK6 := Lib.hid ((HK5.out.wide (Nat.le_refl _) hz5).below hb6 (Nat.le_refl _))
  have HBK6 := Lib.hid (HBK5.out.below hb6)
  have hz6 := hb6.size
  clear hb6
  go_wp2_with fail
  refine (check_any (dtext ⟨#[97, 10]⟩) (.slice none 0 0) w6 (kv_nil rfl) (by decide +kernel) (HT.out.below HB6.out)).mono ?_
  rintro e w7 ⟨rfl, hb7⟩
  rw [H3.out]
  have HB7 := Lib.hid (HB6.out.call hb7)
  have HK7 := Lib.hid ((HK6.out.wide (Nat.le_refl _) hz6).below hb7 (Nat.le_refl _))
  have HBK7 := Lib.hid (HBK6.out.below hb7)
  have hz7 := hb7.size
  clear hb7
  go_wp2_with fail
  refine (flat_any (eDoc 5 []) (.slice none 0 0) w7 (kv_nil rfl) (by decide +kernel) (HT.out.below HB7.out)).mono ?_
  rintro e w8 ⟨rfl, hb8⟩
  rw [H4.out.1, H4.out.2]
  have HB8 := Lib.hid (HB7.out.call hb8)
  have HK8 := Lib.hid ((HK7.out.wide (Nat.le_refl _) hz7).below hb8 (Nat.le_refl _))
  have hz8 := hb8.size
  have bk8 := HBK7.out.below hb8
  have c0 := bk8.cell 0
  have c1 := bk8.cell 1
  have c2 := bk8.cell 2
  have c3 := bk8.cell 3
  have c4 := bk8.cell 4
  have c5 := bk8.cell 5
  simp only [docCells, awD, eDoc, Doc.kind, Doc.text, Doc.brk, Doc.id, Doc.width, List.getElem?_cons_zero, List.getElem?_cons_succ] at c0 c1 c2 c3 c4 c5
  clear hb8 bk8
  go_wp2_with (go_at_call 22; refine (num_any _ _).mono ?_; rintro e w9 ⟨rfl, rfl⟩)
  refine (size_any awD (.slice (some ⟨w2.heap.size + 1, 0, none⟩) 1 1) w8 (HK8.out.wide (Nat.le_refl _) hz8) (by decide +kernel) (HT.out.below HB8.out)).mono ?_
  rintro e w9 ⟨rfl, hb9⟩
  rw [H2.out]
  have HB9 := Lib.hid (HB8.out.call hb9)
  clear hb9
  go_wp2_with fail
  go_ret
  exact ⟨rfl, HB9.out⟩
end Go.Proofs.YtaojlnibkajfbaaDoor
