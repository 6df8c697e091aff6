/- Chapter 17's laws: their small words: text, leaf, cat, of, laid. -/
import Derived.Test.YthljgiimdcbfpaaDoorMLayout
import Derived.Test.YthljgiimdcbfpaaDoorMDoc
import Derived.Test.YthljgiimdcbfpaaDoorMGround
import Derived.Test.YthljgiimdcbfpaaDoorCards
import Derived.Test.YthljgiimdcbfpaaDoorTie
import Derived.ProofKit
import Derived.OpenShut
import Derived.SizedLaws
import Derived.Deep.DeepHandedRow
import Derived.Lib.LaidTab
import Derived.Lib.LaidU8T
import Derived.Test.YthljgiimdcbfpaaDoorRows
import Derived.Deep.Slices
import Derived.Deep.Fields
import Derived.ChangeSame
import Derived.Lib.SmallJoins
import Derived.Carry
import Derived.Laws.Cover4
namespace Go.Proofs.YthljgiimdcbfpaaDoor
section
open Go.RowKit
set_option maxRecDepth 100000
set_option linter.unusedVariables false
set_option linter.unusedSimpArgs false

def nilV : Value := .slice none 0 0
theorem text17_any (s : ByteArray) (w : World) :
    Calls Tryd.prog 21 #[.string s] w fun e w' => e = .returned (docV (dtext s) (.slice none 0 0)) ∧ Below w.heap.size w w' := by
  go_enter Tryd.func21, Tryd.ntmps21
  go_wp2_with fail
  refine bodyPost_ret (v := docV (dtext s) (.slice none 0 0)) (by simp [results, Tryd.f21, go_sem, docV, dtext, Doc.kind, Doc.text, Doc.brk, Doc.id, Doc.width]) rfl ⟨rfl, (Below.refl _ w).alloc (Nat.le_refl _) _⟩
theorem leaf_any (k : Int) (w : World) :
    Calls Tryd.prog 24 #[.int .i64 k] w fun e w' => e = .returned (docV (eDoc k []) (.slice none 0 0)) ∧ Below w.heap.size w w' := by
  go_enter Tryd.func24, Tryd.ntmps24
  go_wp2_with fail
  refine bodyPost_ret (v := docV (eDoc k []) (.slice none 0 0)) (by simp [results, Tryd.f24, go_sem, docV, eDoc, Doc.kind, Doc.text, Doc.brk, Doc.id, Doc.width]) rfl ⟨rfl, (Below.refl _ w).alloc (Nat.le_refl _) _⟩
theorem cat_any (ks : List Doc) (A : Option Addr) (n c : Nat) (w : World) :
    Calls Tryd.prog 26 #[.slice A n c] w fun e w' => e = .returned (docV (eDoc 2 ks) (.slice A n c)) ∧ Below w.heap.size w w' := by
  go_enter Tryd.func26, Tryd.ntmps26
  go_wp2_with fail
  refine bodyPost_ret (v := docV (eDoc 2 ks) (.slice A n c)) (by simp [results, Tryd.f26, go_sem, docV, eDoc, Doc.kind, Doc.text, Doc.brk, Doc.id, Doc.width]) rfl ⟨rfl, (Below.refl _ w).alloc (Nat.le_refl _) _⟩
/-- A document that lies in a world: its kids are kept by all that makes new blocks alone. -/
def InW (W : World) (d : Doc) (kv : Value) : Prop := KV W 0 W.heap.size d kv
theorem InW.next {W W' : World} {d : Doc} {kv : Value} (h : InW W d kv) (hb : Below W.heap.size W W') : InW W' d kv := (KV.below h hb (Nat.le_refl _)).wide (Nat.le_refl _) hb.size
theorem InW.nil {W : World} {d : Doc} (h : d.kids = []) : InW W d (.slice none 0 0) := kv_nil h
theorem InW.slice {W : World} {d : Doc} {kv : Value} (h : InW W d kv) : ∃ A c, kv = .slice A d.kids.length c := KV.slice h
theorem InW.made {W : World} {g cap : Nat} {D : Doc} {t : TypeId} (l : List (Doc × Value)) (hb : Blk W g (docsCells l) t) (hk : ∀ p ∈ l, InW W p.1 p.2) (hD : D.kids = l.map Prod.fst) (hc : l.length ≤ cap) : InW W D (.slice (some ⟨g, 0, none⟩) l.length cap) :=
  kv_made l hb hk (Nat.zero_le _) hb.lt hD hc
/-- A row of documents made. -/
theorem InW.row {W : World} {D : Doc} {t : TypeId} (cap : Nat) (l : List (Doc × Value)) (hk : ∀ p ∈ l, InW W p.1 p.2) (hD : D.kids = l.map Prod.fst) (hc : l.length ≤ cap) : InW (W.alloc (.cells (docsCells l).toArray t)) D (.slice (some ⟨W.heap.size, 0, none⟩) l.length cap) :=
  InW.made l (Blk.new' (W := W) _ _ rfl) (fun p hp => (hk p hp).next ((Below.refl _ W).alloc (Nat.le_refl _) _)) hD hc
/-! ### Documents whose lists lie in blocks of a kind F -/
def InF (F : Nat → Prop) (W : World) (d : Doc) (kv : Value) : Prop := KG false (fun _ g _ _ _ => F g) W 0 W.heap.size d kv
theorem InF.of {F : Nat → Prop} {W W' : World} (hs : ∀ b, F b → b < W.heap.size → W'.heap[b]? = W.heap[b]?) (hz : W.heap.size ≤ W'.heap.size) {d : Doc} : ∀ {kv : Value}, InF F W d kv → InF F W' d kv := by
  refine Doc.ind (P := fun d => ∀ {kv}, InF F W d kv → InF F W' d kv) (fun d ih => ?_) d
  intro kv h
  unfold InF at h ⊢
  rw [KG_iff] at h ⊢
  obtain ⟨a, cap, rfl, hcap, h⟩ := h
  refine ⟨a, cap, rfl, hcap, fun h0 => ?_⟩
  obtain ⟨g, off, rfl, h1, h2, hx, h3⟩ := h h0
  refine ⟨g, off, rfl, h1, by omega, hx, ?_⟩
  rw [EG_iff] at h3 ⊢
  intro j hj
  obtain ⟨kv, h4, h5⟩ := h3 j hj
  exact ⟨kv, h4.of (hs g hx h2), ih _ (List.getElem_mem hj) h5⟩
theorem InF.next {F : Nat → Prop} {W W' : World} (hb : Below W.heap.size W W') {d : Doc} {kv : Value} (h : InF F W d kv) : InF F W' d kv := h.of (fun b _ h2 => hb.block b h2) hb.size
theorem InF.inW {F : Nat → Prop} {W : World} {d : Doc} {kv : Value} (h : InF F W d kv) : InW W d kv := KG.kv h
theorem InF.nil {F : Nat → Prop} {W : World} {d : Doc} (h : d.kids = []) : InF F W d (.slice none 0 0) := kg_nil h
theorem InF.slice {F : Nat → Prop} {W : World} {d : Doc} {kv : Value} (h : InF F W d kv) : ∃ A c, kv = .slice A d.kids.length c := h.inW.slice
theorem InF.made {F : Nat → Prop} {W : World} {g cap : Nat} {D : Doc} {t : TypeId} (l : List (Doc × Value)) (hb : Blk W g (docsCells l) t) (hF : F g) (hk : ∀ p ∈ l, InF F W p.1 p.2) (hD : D.kids = l.map Prod.fst) (hc : l.length ≤ cap) : InF F W D (.slice (some ⟨g, 0, none⟩) l.length cap) := by
  unfold InF
  rw [KG_iff]
  refine ⟨_, _, by rw [hD, List.length_map], by rw [hD, List.length_map]; exact hc, fun _ => ⟨g, 0, rfl, Nat.zero_le _, hb.lt, hF, EG_iff.2 fun j hj => ?_⟩⟩
  have hjl : j < l.length := by rw [hD, List.length_map] at hj; exact hj
  have e : D.kids[j] = (l[j]).1 := by simp [hD]
  have hcell : ∀ c, c < 6 → W.cell? ⟨g, 0 + j * 6 + c, none⟩ = (docCells (l[j]).1 (l[j]).2)[c]? := fun c h6 => by
    rw [hb.cell, Nat.zero_add, docsCells_at l j c hjl h6]
  rw [e]
  exact ⟨(l[j]).2, ⟨hcell 0 (by omega), hcell 1 (by omega), hcell 2 (by omega), hcell 3 (by omega), hcell 4 (by omega), hcell 5 (by omega)⟩, hk _ (List.getElem_mem hjl)⟩
set_option maxHeartbeats 1000000 in
theorem of_any (k : Int) (d : Doc) (kv : Value) (w : World) (h : ∃ A c, kv = .slice A d.kids.length c) :
    Calls Tryd.prog 23 #[.int .i64 k, docV d kv] w fun e w' => ∃ g, e = .returned (docV (eDoc k [d]) (.slice (some ⟨g, 0, none⟩) 1 1)) ∧ Below w.heap.size w w' ∧ w.heap.size ≤ g ∧ Blk w' g (docsCells [(d, kv)]) 24 := by
  obtain ⟨A, c, rfl⟩ := h
  generalize d.kids.length = n
  unfold docV
  go_enter Tryd.func23, Tryd.ntmps23
  go_wp2_with fail
  have hbl : Blk (((w.alloc (.cells #[.int .i64 d.kind, .string d.text, .slice A n c, .bool d.brk, .int .i64 d.id, .int .i64 d.width] 24)).alloc (.cells #[.int .i64 k, .string ⟨#[]⟩, .slice (some ⟨w.heap.size + 1 + 1, 0, none⟩) 1 1, .bool false, .int .i64 0, .int .i64 0] 24)).alloc (.cells #[.int .i64 d.kind, .string d.text, .slice A n c, .bool d.brk, .int .i64 d.id, .int .i64 d.width] 24)) (w.heap.size + 1 + 1) (docsCells [(d, .slice A n c)]) 24 := Blk.new' _ _ (by simp)
  have hbw : Below w.heap.size w (((w.alloc (.cells #[.int .i64 d.kind, .string d.text, .slice A n c, .bool d.brk, .int .i64 d.id, .int .i64 d.width] 24)).alloc (.cells #[.int .i64 k, .string ⟨#[]⟩, .slice (some ⟨w.heap.size + 1 + 1, 0, none⟩) 1 1, .bool false, .int .i64 0, .int .i64 0] 24)).alloc (.cells #[.int .i64 d.kind, .string d.text, .slice A n c, .bool d.brk, .int .i64 d.id, .int .i64 d.width] 24)) := (((Below.refl _ w).alloc (Nat.le_refl _) _).alloc (by simp) _).alloc (by simp; omega) _
  refine bodyPost_ret (v := docV (eDoc k [d]) (.slice (some ⟨w.heap.size + 1 + 1, 0, none⟩) 1 1)) (by simp [results, Tryd.f23, go_sem, docV, eDoc, Doc.kind, Doc.text, Doc.brk, Doc.id, Doc.width]) rfl ⟨w.heap.size + 1 + 1, rfl, hbw, by omega, hbl⟩
/-- Is a document laid out so? -/
def laidB (d : Doc) (o : Opt) (want : Ln) : Bool := decide ((layN d o).2 = 0) && ((layN d o).1 == want)
set_option maxHeartbeats 4000000 in
theorem laid_any (d : Doc) (kv : Value) (ov : OptV) (want : Ln) (w : World) (h : InW w d kv) (hb : d.bulk ≤ 4194304) (hT : Tabs w) :
    Calls Tryd.prog 25 #[docV d kv, .agg ov.cells.toArray, .string (strOf want)] w fun e w' => e = .returned (.bool (laidB d ov.o want)) ∧ Below w.heap.size w w' := by
  have HL := Lib.hid (fun (W : World) (hB : Below w.heap.size w W) => layout_any d kv ov W (h.next hB) hb (hT.below hB))
  obtain ⟨l, hl⟩ : ∃ l, l = (layN d ov.o).1 := ⟨_, rfl⟩
  obtain ⟨c, hc⟩ : ∃ c, c = (layN d ov.o).2 := ⟨_, rfl⟩
  have HR : Hid (laidB d ov.o want = (decide (c = 0) && (l == want))) := Lib.hid (by unfold laidB; rw [hl, hc])
  rw [← hl, ← hc] at HL
  have hst : ((strOf l).toList == (strOf want).toList) = (l == want) := by
    rw [ByteArray.toList_eq, ByteArray.toList_eq, strOf_list, strOf_list]
  generalize laidB d ov.o want = y at *
  unfold docV OptV.cells at *
  clear hl hc h hb hT
  go_enter Tryd.func25, Tryd.ntmps25
  go_wp2_with fail
  refine (HL.out _ ((((Below.refl _ w).alloc (Nat.le_refl _) _)).alloc (by simp) _)).mono ?_
  rintro e w1 ⟨rfl, hb1⟩
  have HB1 := Lib.hid (((((Below.refl w.heap.size w).alloc (Nat.le_refl _) _)).alloc (by simp) _).trans (hb1.mono (by simp; omega)))
  clear hb1
  by_cases hc0 : c = 0
  · subst hc0
    cases hw : (l == want)
    · have HY : Hid (y = false) := Lib.hid (by rw [HR.out, hw]; first | done | rfl)
      rw [hw] at hst
      clear hw
      go_wp2_with (go_at_call 17; refine (num_any _ _).mono ?_; rintro e w2 ⟨rfl, rfl⟩)
      go_ret
      exact ⟨ret_bool HY.out.symm, HB1.out⟩
    · have HY : Hid (y = true) := Lib.hid (by rw [HR.out, hw]; first | done | rfl)
      rw [hw] at hst
      clear hw
      go_wp2_with (go_at_call 17; refine (num_any _ _).mono ?_; rintro e w2 ⟨rfl, rfl⟩)
      go_ret
      exact ⟨ret_bool HY.out.symm, HB1.out⟩
  · have hcb : (c == 0) = false := by simpa using hc0
    have HY : Hid (y = false) := Lib.hid (by rw [HR.out, show decide (c = 0) = false from by simpa using hc0]; rfl)
    go_wp2_with (go_at_call 17; refine (num_any _ _).mono ?_; rintro e w2 ⟨rfl, rfl⟩)
    go_ret
    exact ⟨ret_bool HY.out.symm, HB1.out⟩
end

section
open Go.RowKit
set_option maxRecDepth 100000
set_option linter.unusedVariables false
set_option linter.unusedSimpArgs false

theorem _root_.Go.Code.wp_world {P : Program} {c : Code} {Q : Exit → Act → World → Prop} {a : Act} {w w' : World} (e : w' = w) (h : c.wp P Q a w') : c.wp P Q a w := e ▸ h
theorem aw_out : layN awakeD ⟨3, 2, false, false⟩ = ([97, 32, 98], 0) ∧ layN awakeD ⟨2, 2, false, false⟩ = ([97, 10, 32, 32, 98, 10], 0) ∧ layN awakeD ⟨0, 0, false, false⟩ = ([], 1700) := ⟨awakeD_3, awakeD_2, awakeD_0⟩
def plainOv (w t : Int) : OptV := ⟨⟨w, t, false, false⟩, false, false, false, false, false⟩
theorem aw_lay {w t : Int} {l : Ln} {c : Int} (s : ByteArray) (h : layN awakeD ⟨w, t, false, false⟩ = (l, c)) (hs : strOf l = s) (kv : Value) (W : World) (hk : InW W awakeD kv) (hT : Tabs W) :
    Calls Tryd.prog 16 #[docV awakeD kv, .agg (plainOv w t).cells.toArray] W fun e w' => e = .returned (.tuple #[.string s, .int .i64 c]) ∧ Below W.heap.size W w' := by
  refine (layout_any awakeD kv (plainOv w t) W hk (by decide +kernel) hT).mono ?_
  rintro e w' ⟨rfl, hb⟩
  have h2 : layN awakeD (plainOv w t).o = (l, c) := h
  rw [h2]
  exact ⟨by rw [← hs], hb⟩
set_option maxHeartbeats 8000000 in
theorem awake17_any (w : World) (hT : Tabs w) :
    Calls Tryd.prog 13 #[] w fun e w' => e = .returned (.bool true) ∧ Below w.heap.size w w' := by
  have HT := Lib.hid hT
  clear hT
  go_enter Tryd.func13, Tryd.ntmps13
  go_wp2_with fail
  refine (text17_any _ _).mono ?_
  rintro e w1 ⟨rfl, hb1⟩
  unfold docV
  simp only [dtext, Doc.kind, Doc.text, Doc.brk, Doc.id, Doc.width]
  go_wp2_with fail
  refine (text17_any _ _).mono ?_
  rintro e w2 ⟨rfl, hb2⟩
  unfold docV
  simp only [dtext, Doc.kind, Doc.text, Doc.brk, Doc.id, Doc.width]
  have HB2 := Lib.hid (hb1.call hb2)
  clear hb1 hb2
  go_wp2_with fail
  refine (cat_any [aD 3 [], tD [98]] _ _ _ _).mono ?_
  rintro e w3 ⟨rfl, hb3⟩
  have hB3 : Blk w3 w2.heap.size (docsCells [(aD 3 [], .slice none 0 0), (tD [98], .slice none 0 0)]) 24 := (Blk.new' (W := w2) _ _ rfl).below hb3
  have hk3 : InW w3 (aD 2 [aD 3 [], tD [98]]) (.slice (some ⟨w2.heap.size, 0, none⟩) 2 2) := InW.made (cap := 2) [(aD 3 [], .slice none 0 0), (tD [98], .slice none 0 0)] hB3 (by intro p hp; simp at hp; rcases hp with rfl | rfl <;> exact InW.nil rfl) rfl (by simp)
  have HK3 := Lib.hid hk3
  have HB3 := Lib.hid ((HB2.out.alloc HB2.out.size _).call hb3)
  clear hb3 hB3 hk3
  unfold docV
  simp only [eDoc, Doc.kind, Doc.text, Doc.brk, Doc.id, Doc.width]
  go_upto_region 2 with (go_at_call 26; refine (cat_any [tD [97], aD 11 [aD 2 [aD 3 [], tD [98]]], aD 4 []] _ _ _ _).mono ?_; rintro e w4 ⟨rfl, hb4⟩; have HB4 := Lib.hid hb4; clear hb4; unfold docV; simp only [eDoc, Doc.kind, Doc.text, Doc.brk, Doc.id, Doc.width])
  have hb4 := HB4.out
  have r1 : InW (w3.alloc (.cells (docsCells [(aD 2 [aD 3 [], tD [98]], .slice (some ⟨w2.heap.size, 0, none⟩) 2 2)]).toArray 24)) (aD 11 [aD 2 [aD 3 [], tD [98]]]) (.slice (some ⟨w3.heap.size, 0, none⟩) 1 1) :=
    InW.row 1 [(aD 2 [aD 3 [], tD [98]], .slice (some ⟨w2.heap.size, 0, none⟩) 2 2)] (by intro p hp; rw [List.mem_singleton] at hp; subst hp; exact HK3.out) rfl (by simp)
  obtain ⟨U, hU⟩ : ∃ U, U = w3.alloc (.cells (docsCells [(aD 2 [aD 3 [], tD [98]], .slice (some ⟨w2.heap.size, 0, none⟩) 2 2)]).toArray 24) := ⟨_, rfl⟩
  have hbU : Below w3.heap.size w3 U := by rw [hU]; exact (Below.refl _ _).alloc (Nat.le_refl _) _
  have hzU : U.heap.size = w3.heap.size + 1 := by rw [hU]; simp
  rw [← hU] at r1
  have r2 : InW (U.alloc (.cells (docsCells [(tD [97], .slice none 0 0), (aD 11 [aD 2 [aD 3 [], tD [98]]], .slice (some ⟨w3.heap.size, 0, none⟩) 1 1), (aD 4 [], .slice none 0 0)]).toArray 24)) (aD 2 [tD [97], aD 11 [aD 2 [aD 3 [], tD [98]]], aD 4 []]) (.slice (some ⟨U.heap.size, 0, none⟩) 3 3) :=
    InW.row 3 [(tD [97], .slice none 0 0), (aD 11 [aD 2 [aD 3 [], tD [98]]], .slice (some ⟨w3.heap.size, 0, none⟩) 1 1), (aD 4 [], .slice none 0 0)] (by intro p hp; simp at hp; rcases hp with rfl | rfl | rfl <;> first | exact r1 | exact InW.nil rfl) rfl (by simp)
  have hb4' : Below (U.alloc (.cells (docsCells [(tD [97], .slice none 0 0), (aD 11 [aD 2 [aD 3 [], tD [98]]], .slice (some ⟨w3.heap.size, 0, none⟩) 1 1), (aD 4 [], .slice none 0 0)]).toArray 24)).heap.size (U.alloc (.cells (docsCells [(tD [97], .slice none 0 0), (aD 11 [aD 2 [aD 3 [], tD [98]]], .slice (some ⟨w3.heap.size, 0, none⟩) 1 1), (aD 4 [], .slice none 0 0)]).toArray 24)) w4 := by rw [hU]; exact hb4
  have r4 := r2.next hb4'
  have hBw4 : Below w.heap.size w w4 := (HB3.out.trans (hbU.mono HB3.out.size)).alloc (by have := HB3.out.size; have := hbU.size; omega) _ |>.call hb4'
  rw [hzU] at r4
  have r5 : InW (w4.alloc (.cells (docsCells [(aD 2 [tD [97], aD 11 [aD 2 [aD 3 [], tD [98]]], aD 4 []], .slice (some ⟨w3.heap.size + 1, 0, none⟩) 3 3)]).toArray 24)) awakeD (.slice (some ⟨w4.heap.size, 0, none⟩) 1 1) :=
    InW.row 1 [(aD 2 [tD [97], aD 11 [aD 2 [aD 3 [], tD [98]]], aD 4 []], .slice (some ⟨w3.heap.size + 1, 0, none⟩) 3 3)] (by intro p hp; rw [List.mem_singleton] at hp; subst hp; exact r4) rfl (by simp)
  obtain ⟨V, hV⟩ : ∃ V, V = (w4.alloc (.cells (docsCells [(aD 2 [tD [97], aD 11 [aD 2 [aD 3 [], tD [98]]], aD 4 []], .slice (some ⟨w3.heap.size + 1, 0, none⟩) 3 3)]).toArray 24)).alloc (.cells (docCells awakeD (.slice (some ⟨w4.heap.size, 0, none⟩) 1 1)).toArray 24) := ⟨_, rfl⟩
  have HKV : Hid (InW V awakeD (.slice (some ⟨w4.heap.size, 0, none⟩) 1 1)) := Lib.hid (by rw [hV]; exact r5.next ((Below.refl _ _).alloc (Nat.le_refl _) _))
  have hbk : Blk V (w4.heap.size + 1) (docCells awakeD (.slice (some ⟨w4.heap.size, 0, none⟩) 1 1)) 24 := by rw [hV]; exact Blk.new' _ _ (by simp)
  have HBV : Hid (Below w.heap.size w V) := Lib.hid (by rw [hV]; exact (hBw4.alloc hBw4.size _).alloc (by have := hBw4.size; simp; omega) _)
  have HVV := Lib.hid hV
  have HBK := Lib.hid hbk
  clear hV r1 r2 r4 r5 hb4 hb4' hBw4 hU hbU hzU HB4
  refine Code.wp_world HVV.out ?_
  have c0 := hbk.cell 0
  have c1 := hbk.cell 1
  have c2 := hbk.cell 2
  have c3 := hbk.cell 3
  have c4 := hbk.cell 4
  have c5 := hbk.cell 5
  simp only [docCells, awakeD, aD, Doc.kind, Doc.text, Doc.brk, Doc.id, Doc.width, List.getElem?_cons_zero, List.getElem?_cons_succ] at c0 c1 c2 c3 c4 c5
  clear hbk
  go_wp2_with fail
  refine (aw_lay ⟨#[97, 32, 98]⟩ awakeD_3 rfl (.slice (some ⟨w4.heap.size, 0, none⟩) 1 1) V HKV.out (HT.out.below HBV.out)).mono ?_
  rintro e w5 ⟨rfl, hb5⟩
  have bk5 := HBK.out.below hb5
  have HK5 := Lib.hid (HKV.out.next hb5)
  have HB5 := Lib.hid (HBV.out.call hb5)
  have HBK5 := Lib.hid bk5
  have c0 := bk5.cell 0
  have c1 := bk5.cell 1
  have c2 := bk5.cell 2
  have c3 := bk5.cell 3
  have c4 := bk5.cell 4
  have c5 := bk5.cell 5
  simp only [docCells, awakeD, aD, Doc.kind, Doc.text, Doc.brk, Doc.id, Doc.width, List.getElem?_cons_zero, List.getElem?_cons_succ] at c0 c1 c2 c3 c4 c5
  clear hb5 bk5
  go_wp2_with fail
  refine (aw_lay ⟨#[97, 10, 32, 32, 98, 10]⟩ awakeD_2 rfl (.slice (some ⟨w4.heap.size, 0, none⟩) 1 1) w5 HK5.out (HT.out.below HB5.out)).mono ?_
  rintro e w6 ⟨rfl, hb6⟩
  have bk6 := HBK5.out.below hb6
  have HK6 := Lib.hid (HK5.out.next hb6)
  have HB6 := Lib.hid (HB5.out.call hb6)
  have c0 := bk6.cell 0
  have c1 := bk6.cell 1
  have c2 := bk6.cell 2
  have c3 := bk6.cell 3
  have c4 := bk6.cell 4
  have c5 := bk6.cell 5
  simp only [docCells, awakeD, aD, Doc.kind, Doc.text, Doc.brk, Doc.id, Doc.width, List.getElem?_cons_zero, List.getElem?_cons_succ] at c0 c1 c2 c3 c4 c5
  clear hb6 bk6
  go_wp2_with fail
  refine (aw_lay ⟨#[]⟩ awakeD_0 rfl (.slice (some ⟨w4.heap.size, 0, none⟩) 1 1) w6 HK6.out (HT.out.below HB6.out)).mono ?_
  rintro e w7 ⟨rfl, hb7⟩
  have HB7 := Lib.hid (HB6.out.call hb7)
  clear hb7
  go_wp2_with (go_at_call 17; refine (num_any _ _).mono ?_; rintro e w8 ⟨rfl, rfl⟩)
  go_ret
  exact ⟨rfl, HB7.out⟩
end

section
open Go.RowKit Go.ChangeShapes Go.WideShapes Go.ChangeAt
set_option maxRecDepth 100000

theorem ownKnob_none : ownKnob Tryd.prog.godebug = none := by kernel_rfl
theorem first_data : Rows.laid_unicode_utf8_first = Lib.firstData := by kernel_rfl
theorem accept_data : (Rows.laid_unicode_utf8_acceptRanges : DataW Unit) = Lib.acceptData := by kernel_rfl
theorem tabs_of_laid {W : World} (h : laidMet Tryd.prog Rows.layoutLinesRow.laid W) : Tabs W :=
  Tabs.of (utf8Tabs_of_readsT (U8Types.of260 Tryd.lays260) ⟨by kernel_rfl, by kernel_rfl, by kernel_rfl, by kernel_rfl, by kernel_rfl, by kernel_rfl, by kernel_rfl⟩
    (first_data ▸ Lib.laidMet.reads h (.tail _ (.head _))) (accept_data ▸ Lib.laidMet.reads h (.head _)))

/-- A WORLD FOR THE WITNESS: the settled one, the two tables as their initialisers lay them. -/
noncomputable def laidWorld (os : Os) : World :=
  let w0 := World.holding Tryd.prog os ⟨#[], #[], []⟩
  let put (h : Array Obj) (g : Nat) (cs : Array Value) : Array Obj := h.modify g fun
    | .cells _ t frozen => .cells cs t frozen
    | o => o
  let h1 := put w0.heap 0 (Lib.firstTab.map fun z => Value.int .u8 z).toArray
  let h2 := put h1 1 ((List.range 16).flatMap fun i => [Value.int .u8 (Lib.accLo i), Value.int .u8 (Lib.accHi i)]).toArray
  { w0 with heap := h2 }
theorem laid_met (os : Os) (args : Array Value) : laidMet Tryd.prog Rows.layoutLinesRow.laid ((laidWorld os).forCall (fun _ _ => 0) ⟨#[], args, []⟩).memory :=
  laidMet_of_run' 8 (by kernel_rfl) (by kernel_rfl)
end

section
open Go.RowKit Go.ChangeShapes Go.WideShapes Go.Deep Go.Joins
set_option maxRecDepth 100000

theorem size_list' (s : ByteArray) : s.size = s.data.toList.length := by simp
section
variable {H : Type} {enc : TypeId × Value → H} {w : World}
/-- What the opened document's size is measured by. -/
theorem bulkAll_range (D : Nat → DataW H) (ds : List Doc) (n : Nat) (h : n = ds.length) (hb : ∀ j (hj : j < ds.length), (ds[j]).bulk ≤ Rows.uptoBulk (D j)) : bulkL ds ≤ Rows.uptoBulkAll ((List.range n).map D) := by
  subst h
  induction ds generalizing D with
  | nil => simp [bulkL]
  | cons d ds ih =>
    have h0 := hb 0 (by simp)
    have ih' := ih (fun j => D (j + 1)) (fun j hj => by have h2 := hb (j + 1) (by simpa using hj); exact h2)
    rw [List.length_cons, List.range_succ_eq_map, List.map_cons, List.map_map]
    simp only [bulkL, Rows.uptoBulkAll]
    simp only [List.getElem_cons_zero] at h0
    exact Nat.add_le_add h0 ih'

/-- A kids' slice that reads: its documents. -/
theorem kids_trod {n : Nat} (ih : ∀ (cs : List Value) (x : DataW H × List MemPlace), DataW.trod enc Tryd.prog w 0 (fun _ => true) true n 24 cs = some x → ∃ D kv, cs = docCells D kv ∧ KV w 0 w.heap.size D kv ∧ D.bulk ≤ Rows.uptoBulk x.1)
    {a : Addr} {len : Nat} {elems : List (DataW H × List MemPlace)} (hl : elems.length = len)
    (he : ∀ i, i < len → (w.cells? 0 (a.add (i * Tryd.prog.cellsOf 24)) (Tryd.prog.cellsOf 24)).bind (DataW.trod enc Tryd.prog w 0 (fun _ => true) true n 24) = elems[i]?) :
    ∃ ks : List Doc, ks.length = len ∧ (0 < ks.length → ∃ g off, a = ⟨g, off, none⟩ ∧ 0 ≤ g ∧ g < w.heap.size ∧ EV w 0 w.heap.size g ks off) ∧ bulkL ks ≤ Rows.uptoBulkAll (elems.map (·.1)) := by
  have hC : Tryd.prog.cellsOf 24 = 6 := by kernel_rfl
  rw [hC] at he
  have h1 : ∀ i, i < len → ∃ D : Doc, ∃ kv, (∀ j, j < 6 → w.cell? (a.add (i * 6 + j)) = (docCells D kv)[j]?) ∧ KV w 0 w.heap.size D kv ∧ D.bulk ≤ Rows.uptoBulk ((elems.getD i (.nil, [])).1) := by
    intro i hi
    have h2 := he i hi
    rw [List.getElem?_eq_getElem (by omega)] at h2
    obtain ⟨cs', h3, h4⟩ := Option.bind_eq_some_iff.1 h2
    obtain ⟨D, kv, rfl, h5, h6⟩ := ih cs' _ h4
    obtain ⟨_, _, h7⟩ := World.cells?_some h3
    refine ⟨D, kv, fun j hj => ?_, h5, ?_⟩
    · rw [← Go.Deep.add_add]
      exact h7 j hj
    · have : elems.getD i (.nil, []) = elems[i]'(by omega) := by simp [List.getD, List.getElem?_eq_getElem (show i < elems.length by omega)]
      rw [this]
      exact h6
  have hinh : Inhabited Doc := ⟨.mk 0 ⟨#[]⟩ [] false 0 0⟩
  obtain ⟨f, hf⟩ := choose_lt h1
  refine ⟨(List.range len).map f, by simp, fun h0 => ?_, ?_⟩
  · simp only [List.length_map, List.length_range] at h0
    obtain ⟨b, off, spot⟩ := a
    obtain ⟨kv, hc, _, _⟩ := hf 0 h0
    have hc0 := hc 0 (by omega)
    have hspot : spot = none := by simpa [Addr.add] using World.cell?_spot hc0
    subst hspot
    have hb : b < w.heap.size := by
      have := World.block_lt_of_cell? w _ hc0
      simpa [Addr.add] using this
    refine ⟨b, off, rfl, Nat.zero_le _, hb, EV_iff.2 fun j hj => ?_⟩
    simp only [List.length_map, List.length_range] at hj
    obtain ⟨kv, hc, hk, _⟩ := hf j hj
    have hg : ((List.range len).map f)[j]'(by simpa using hj) = f j := by simp
    rw [hg]
    have hcell : ∀ c, c < 6 → w.cell? ⟨b, off + j * 6 + c, none⟩ = (docCells (f j) kv)[c]? := fun c h6 => by
      have := hc c h6
      rw [Go.WideShapes.add_plain] at this
      rw [← this]
      congr 2
      omega
    exact ⟨kv, ⟨hcell 0 (by omega), hcell 1 (by omega), hcell 2 (by omega), hcell 3 (by omega), hcell 4 (by omega), hcell 5 (by omega)⟩, hk⟩
  · have e : elems.map (·.1) = (List.range len).map fun i => (elems.getD i (.nil, [])).1 := by
      rw [map_by_index elems (.nil, []) (·.1), hl]
    rw [e]
    refine bulkAll_range _ _ _ (by simp) (fun j hj => ?_)
    simp only [List.length_map, List.length_range] at hj
    obtain ⟨_, _, _, h6⟩ := hf j hj
    simpa using h6

theorem doc_trod (fuel : Nat) : ∀ (cs : List Value) (x : DataW H × List MemPlace), DataW.trod enc Tryd.prog w 0 (fun _ => true) true fuel 24 cs = some x →
    ∃ D kv, cs = docCells D kv ∧ KV w 0 w.heap.size D kv ∧ D.bulk ≤ Rows.uptoBulk x.1 := by
  induction fuel using Nat.strongRecOn with
  | ind fuel ih =>
    intro cs x h
    obtain ⟨ys, fu, hfu, hy, hlen, hyl, hf⟩ := DataW.trod_struct Tryd.underlying24 h
    have hlen6 : cs.length = 6 := hlen
    match cs, hlen6, ys, hyl with
    | [c0, c1, c2, c3, c4, c5], _, [y0, y1, y2, y3, y4, y5], _ =>
      have s0 : DataW.trod enc Tryd.prog w 0 (fun _ => true) true fu 3 [c0] = some y0 := hf 0 _ rfl
      have s1 : DataW.trod enc Tryd.prog w 0 (fun _ => true) true fu 9 [c1] = some y1 := hf 1 _ rfl
      have s2 : DataW.trod enc Tryd.prog w 0 (fun _ => true) true fu 22 [c2] = some y2 := hf 2 _ rfl
      have s3 : DataW.trod enc Tryd.prog w 0 (fun _ => true) true fu 4 [c3] = some y3 := hf 3 _ rfl
      have s4 : DataW.trod enc Tryd.prog w 0 (fun _ => true) true fu 3 [c4] = some y4 := hf 4 _ rfl
      have s5 : DataW.trod enc Tryd.prog w 0 (fun _ => true) true fu 3 [c5] = some y5 := hf 5 _ rfl
      clear hf h
      obtain ⟨k, e0, r0, _⟩ := DataW.trod_int Tryd.underlying3 s0
      obtain ⟨t, e1, r1, _⟩ := DataW.trod_string Tryd.underlying9 s1
      obtain ⟨b, e3, r3⟩ := DataW.trod_bool Tryd.underlying4 s3
      obtain ⟨i, e4, r4, _⟩ := DataW.trod_int Tryd.underlying3 s4
      obtain ⟨y, e5, r5, _⟩ := DataW.trod_int Tryd.underlying3 s5
      cases e0
      cases e1
      cases e3
      cases e4
      cases e5
      subst r0 r1 r3 r4 r5
      have hx : x.1 = .agg [.lit (.int .i64 k), .lit (.string t.data.toList), y2.1, .lit (.bool b), .lit (.int .i64 i), .lit (.int .i64 y)] := by rw [hy]; rfl
      have ht := size_list' t
      rcases DataW.trod_slice Tryd.underlying22 s2 with ⟨e2, r2⟩ | ⟨a, len, cap, elems, rest, n, hn, e2, r2, _, hlc, _, hel, hev, _, _⟩
      · cases e2
        refine ⟨.mk k t [] b i y, .slice none 0 0, rfl, ?_, ?_⟩
        · rw [KV]
          exact ⟨none, 0, rfl, by simp, fun h => by simp at h⟩
        · rw [hx, r2]
          simp only [Doc.bulk, bulkL, Rows.uptoBulk, Rows.uptoBulkAll]
          omega
      · cases e2
        obtain ⟨ks, hks, hev2, hbk⟩ := kids_trod (ih n (by omega)) hel hev
        refine ⟨.mk k t ks b i y, .slice (some a) len cap, rfl, ?_, ?_⟩
        · rw [KV]
          refine ⟨some a, cap, by rw [hks], by omega, fun h0 => ?_⟩
          obtain ⟨g, off, rfl, h1, h2, h3⟩ := hev2 h0
          exact ⟨g, off, rfl, h1, h2, h3⟩
        · rw [hx, r2]
          simp only [Doc.bulk, Rows.uptoBulk, Rows.uptoBulkAll]
          omega
/-- AN ARGUMENT THAT IS A DOCUMENT. -/
theorem doc_open {v : Value} {d : DataW H} {ps : List MemPlace} {base : Nat} (hv : Value.okWide Tryd.prog w .any base 24 v) (h : DataW.Trod enc Tryd.prog w 0 (fun _ => true) true 24 v d ps) :
    ∃ D kv, v = docV D kv ∧ KV w 0 w.heap.size D kv ∧ D.bulk ≤ Rows.uptoBulk d := by
  obtain ⟨cs, rfl, _⟩ := okWide_struct Tryd.underlying24 hv
  obtain ⟨fuel, hf⟩ := h
  obtain ⟨D, kv, h1, h2, h3⟩ := doc_trod fuel _ _ hf
  obtain ⟨l⟩ := cs
  have h1' : l = docCells D kv := h1
  subst h1'
  exact ⟨D, kv, rfl, h2, h3⟩
end
end

section
open Go.RowKit Go.WideShapes Go.ChangeShapes

/-- The slice value v reads as these ints, below block number B. -/
def IntsIn (w : World) (B : Nat) (v : Value) (zs : List Int) : Prop :=
  (∃ A c, v = .slice A 0 c ∧ zs = []) ∨
  ∃ b off c, v = .slice (some ⟨b, off, none⟩) zs.length c ∧ b < B ∧ 0 < zs.length ∧ ∀ j, j < zs.length → w.cell? ⟨b, off + j, none⟩ = some (.int .i64 (zs.getD j 0))
theorem IntsIn.len {w : World} {B : Nat} {v : Value} {zs : List Int} (h : IntsIn w B v zs) : ∃ A c, v = .slice A zs.length c := by
  rcases h with ⟨A, c, rfl, rfl⟩ | ⟨b, off, c, rfl, _⟩
  · exact ⟨A, c, rfl⟩
  · exact ⟨_, c, rfl⟩
theorem IntsIn.below {w w' : World} {B B' : Nat} {v : Value} {zs : List Int} (h : IntsIn w B v zs) (hb : Below B' w w') (hB : B ≤ B') : IntsIn w' B v zs := by
  rcases h with h | ⟨b, off, c, e, hlt, hp, hc⟩
  · exact .inl h
  · exact .inr ⟨b, off, c, e, hlt, hp, fun j hj => (hb.cell (p := ⟨b, off + j, none⟩) (Nat.lt_of_lt_of_le hlt hB)).trans (hc j hj)⟩

section
variable {H : Type} {enc : TypeId × Value → H} {P : Program}
/-- An argument of type []int, opened. -/
theorem ints_open {w : World} {t e : TypeId} {v : Value} {d : DataW H} {ps : List MemPlace} (ht : P.underlying t = some (.slice e)) (he : P.underlying e = some (.int .i64)) (hc : P.cellsOf e = 1)
    {base : Nat} (hv : Value.okWide P w .any base t v) (h : DataW.Trod enc P w 0 (fun _ => true) true t v d ps) :
    ∃ zs : List Int, IntsIn w w.heap.size v zs ∧ (∀ n ∈ zs, (Lit.int .i64 n).wf = true) ∧ zs.length ≤ maxLen := by
  obtain ⟨a0, len, cap, rfl⟩ := okWide_slice ht hv
  obtain ⟨fuel, hf⟩ := h
  rcases open_ints ht he hc hf with ⟨hcs, _⟩ | ⟨a, len', cap', zs, hcs, _, hl, hm, hz, hx, hcell, hwf⟩
  · simp [Value.cells] at hcs
    obtain ⟨rfl, rfl, rfl⟩ := hcs
    exact ⟨[], .inl ⟨_, _, rfl, rfl⟩, by simp, by simp⟩
  · simp [Value.cells] at hcs
    obtain ⟨rfl, rfl, rfl⟩ := hcs
    simp only [if_true] at hz
    by_cases h0 : len = 0
    · subst h0
      exact ⟨[], .inl ⟨_, _, rfl, rfl⟩, by simp, by simp⟩
    · obtain ⟨b, off, rfl, hcell'⟩ := ints_at hcell (by omega)
      have htl : (zs.take len).length = len := by rw [List.length_take]; omega
      refine ⟨zs.take len, .inr ⟨b, off, cap, by rw [htl], ?_, by omega, fun j hj => ?_⟩, fun n hn => hwf n (List.mem_of_mem_take hn), by rw [htl]; omega⟩
      · have := World.block_lt_of_cell? w _ (hcell' 0 (by omega))
        exact this
      · rw [hcell' j (by omega)]
        congr 2
        simp [List.getD, show j < len by omega]

/-- The last step of a law's row, whatever its arguments: what was read reads as it did. -/
theorem law_post_any {f : Func} {s : ChangeSpec} {apart fresh handsOn : Bool} {W W' : World} {args : Array Value} {ds gs : List (DataW H)} {pa pv : List MemPlace} {t : TypeId}
    (ht : P.underlying t = some .bool) (hrt : f.resultTypes = #[t])
    (hW : DataW.Whole enc P f.params.toList s.vars apart W args.toList ds gs (pa ++ pv))
    (hres : (s.fn H (ds ++ gs)).results = [.lit (.bool true)])
    (hargs : DataW.TrodAll enc P W' 0 (fun b => decide (b < W.heap.size)) true f.params.toList args.toList (s.fn H (ds ++ gs)).args pa)
    (hvars : DataW.TrodVars enc P W' (fun b => decide (b < W.heap.size)) s.vars (s.fn H (ds ++ gs)).vars pv)
    (hb : Below W.heap.size W W') :
    s.post enc P f apart fresh handsOn false W args (.bool true) W' := by
  have res : ∀ (b : Nat) (sp : Nat → Bool) (hd : Bool), DataW.TrodAll enc P W' b sp hd f.resultTypes.toList ((Value.bool true).resultList f.resultTypes.size) (s.fn H (ds ++ gs)).results [] := fun b sp hd => by
    rw [hres, hrt]
    exact trodAll_mk1 (shut_bool ht true)
  exact ⟨ds, gs, pa ++ pv, [], pa, pv, hW, res _ _ _, hargs, hvars, World.keptBut_mono (fun p hp => ⟨hp, Or.inr (List.mem_append.1 hp)⟩) (hb.frame (· ∈ pa ++ pv)), fun h => by cases h⟩
end
end

section
open Go.RowKit Go.WideShapes Go.ChangeShapes Go.ChangeAt
set_option maxRecDepth 100000
set_option linter.unusedVariables false
set_option linter.unusedSimpArgs false

theorem and_small (x : Int) (m : Nat) (hm : m ≤ 255) : ∃ n : Nat, n ≤ m ∧ bits .and .i64 x (m : Int) = (n : Int) := by
  have hle : (BitVec.ofInt 64 x).toNat &&& m ≤ m := Nat.and_le_right
  refine ⟨(BitVec.ofInt 64 x).toNat &&& m, hle, ?_⟩
  have hmm : m % 2 ^ 64 = m := Nat.mod_eq_of_lt (by omega)
  have e : (BitVec.ofInt 64 x &&& BitVec.ofNat 64 m).toNat = (BitVec.ofInt 64 x).toNat &&& m := by rw [BitVec.toNat_and, BitVec.toNat_ofNat, hmm]
  have h0 : bits .and .i64 x (m : Int) = IntKind.i64.wrap (((BitVec.ofInt 64 x) &&& (BitVec.ofInt 64 (m : Int))).toNat : Int) := rfl
  rw [h0, BitVec.ofInt_natCast, e, IntKind.wrap_i64]
  omega
theorem u64_natF (a : Int) : ∃ u : Nat, IntKind.u64.wrap a = (u : Int) := by
  refine ⟨(IntKind.u64.wrap a).toNat, ?_⟩
  rw [IntKind.wrap_u64]
  omega
theorem strOf_append (a b : Ln) : strOf a ++ strOf b = strOf (a ++ b) := by
  unfold strOf
  apply ByteArray.ext
  simp
/-- So many blanks. -/
theorem blanks17_any (k : Nat) (w : World) (hk : k ≤ 1000) :
    Calls Tryd.prog 27 #[.int .i64 (k : Int)] w fun e w' => e = .returned (.string (strOf (List.replicate k 32))) ∧ w = w' := by
  have hz := fun l => strOf_size l
  obtain ⟨S, hS⟩ : ∃ S : Nat → ByteArray, ∀ j, S j = strOf (List.replicate j 32) := ⟨_, fun _ => rfl⟩
  have HS := Lib.hid hS
  have hsz : ∀ j, (S j).size = j := fun j => by rw [hS, strOf_size, List.length_replicate]
  have hnx : ∀ j, S j ++ ⟨#[32]⟩ = S (j + 1) := fun j => by
    rw [hS, hS, show (⟨#[32]⟩ : ByteArray) = strOf [32] from rfl, strOf_append, List.replicate_succ']
  have h0 : (⟨#[]⟩ : ByteArray) = S 0 := by rw [hS]; rfl
  rw [← hS k]
  have H0 := Lib.hid h0
  have HNX := Lib.hid hnx
  clear hS h0 hnx hz
  go_enter Tryd.func27, Tryd.ntmps27
  go_wp2_with fail
  rw [H0.out]
  go_loopw [3, 4] (fun s i wr => ∃ j : Nat, j ≤ k ∧ s = .string (S j) ∧ i = .int .i64 (j : Int) ∧ w = wr) (fun _ i _ => (k : Nat) - (intOf i).toNat)
  case atStart => exact ⟨0, Nat.zero_le _, rfl, rfl, rfl⟩
  case round =>
    obtain ⟨j, hj, rfl, rfl, rfl⟩ := hrel
    have hs1 := hsz j
    by_cases h : j < k
    · have h' : (j : Int) < (k : Int) := by omega
      have HC := Lib.hid (HNX.out j)
      go_wp2_with fail
      exact ⟨⟨j + 1, by omega, by rw [HC.out], by simp, trivial⟩, by simp only [intOf]; omega⟩
    · obtain rfl : j = k := by omega
      go_wp2_with fail
      go_ret
      exact ⟨rfl, rfl⟩
end
end Go.Proofs.YthljgiimdcbfpaaDoor
