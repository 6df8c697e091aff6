/- The reference's forced in plain Lean: it is what the program's spread gives. -/
import Derived.Test.YtaojlnibkajfbaaDoorSprPlain
namespace Go.Proofs.YtaojlnibkajfbaaDoor
open Go.RowKit
set_option linter.unusedVariables false
mutual
def Doc.frc : Doc → Bool
  | .mk k _ ks b _ _ => if k = 14 then false else if k = 8 then b || frcH ks else if k = 5 ∨ k = 6 ∨ k = 16 then true else if k = 7 ∧ b = true then true else frcL ks
def frcL : List Doc → Bool
  | [] => false
  | d :: ds => d.frc || frcL ds
def frcH : List Doc → Bool
  | [] => false
  | d :: _ => d.frc
end
theorem frcL_any (ks : List Doc) : frcL ks = ks.any Doc.frc := by
  induction ks with
  | nil => rfl
  | cons d ds ih => rw [frcL, ih]; rfl
theorem frcH_head (ks : List Doc) : frcH ks = (ks.map Doc.frc).headD false := by cases ks <;> rfl
theorem Doc.frc_eq (d : Doc) : d.frc = if d.kind = 14 then false else if d.kind = 8 then d.brk || frcH d.kids else if d.kind = 5 ∨ d.kind = 6 ∨ d.kind = 16 then true else if d.kind = 7 ∧ d.brk = true then true else frcL d.kids := by
  cases d
  rw [Doc.frc]
  rfl
theorem formed_brk {k : Int} {t : ByteArray} {n : Nat} {b : Bool} {i y : Int} (h : formedF k t n b i y = true) (b' : Bool) : k = 7 → formedF k t n b' i y = true := by
  intro hk
  subst hk
  unfold formedF at h ⊢
  simpa using h
theorem formed_cond {k : Int} {t : ByteArray} {n : Nat} {b : Bool} {i y : Int} (h : formedF k t n b i y = true) (hk : k = 8) : 0 < n := by
  subst hk
  unfold formedF at h
  simp at h
  omega
theorem formed_group {k : Int} {t : ByteArray} {n : Nat} {b : Bool} {i y : Int} (h : formedF k t n b i y = true) (hk : k = 7) : n = 1 := by
  subst hk
  unfold formedF at h
  simp at h
  omega
theorem shape_parts {d : Doc} (h : d.shape = true) : formedF d.kind d.text d.kids.length d.brk d.id d.width = true ∧ ∀ x ∈ d.kids, x.shape = true := by
  rw [Doc.shape_eq, Bool.and_eq_true] at h
  refine ⟨?_, shapeL_mem h.2⟩
  have := h.1
  cases d
  exact this
theorem shapeL_of {ks : List Doc} (h : ∀ x ∈ ks, x.shape = true) : shapeL ks = true := by
  induction ks with
  | nil => rfl
  | cons d ds ih => simp [shapeL, h d (by simp), ih (fun x hx => h x (by simp [hx]))]
theorem sprD_shape (d : Doc) : d.shape = true → (d.sprD true).shape = true := by
  refine Doc.ind (P := fun d => d.shape = true → (d.sprD true).shape = true) (fun d ih h => ?_) d
  obtain ⟨h1, h2⟩ := shape_parts h
  rw [Doc.sprD_eq, Doc.shape_eq, Bool.and_eq_true]
  refine ⟨?_, shapeL_of fun x hx => ?_⟩
  · show formedF d.kind d.text (d.kids.map (Doc.sprD true)).length (sprBrk true d.kind d.brk (d.kidsMust true)) d.id d.width = true
    rw [List.length_map]
    by_cases hk : d.kind = 7
    · exact formed_brk h1 _ hk
    · unfold sprBrk; rw [if_neg hk]; exact h1
  · obtain ⟨y, hy, rfl⟩ := List.mem_map.1 hx
    exact ih y hy (h2 y hy)
theorem frc_must (d : Doc) : d.shape = true → (d.sprD true).frc = d.must true := by
  refine Doc.ind (P := fun d => d.shape = true → (d.sprD true).frc = d.must true) (fun d ih h => ?_) d
  obtain ⟨h1, h2⟩ := shape_parts h
  have hL : frcL (d.kids.map (Doc.sprD true)) = (d.kids.map (Doc.must true)).any id := by
    rw [frcL_any]
    have : ∀ ks : List Doc, (∀ x ∈ ks, x ∈ d.kids) → (ks.map (Doc.sprD true)).any Doc.frc = (ks.map (Doc.must true)).any id := by
      intro ks
      induction ks with
      | nil => intro _; rfl
      | cons x xs ih2 =>
        intro hm
        rw [List.map_cons, List.map_cons, List.any_cons, List.any_cons, ih2 (fun y hy => hm y (by simp [hy])), ih x (hm x (by simp)) (h2 x (hm x (by simp)))]
        rfl
    exact this d.kids (fun x hx => hx)
  have hH : frcH (d.kids.map (Doc.sprD true)) = (d.kids.map (Doc.must true)).headD false := by
    cases hk : d.kids with
    | nil => rfl
    | cons x xs =>
      have hx : x ∈ d.kids := by rw [hk]; simp
      show (x.sprD true).frc = x.must true
      exact ih x hx (h2 x hx)
  rw [Doc.sprD_eq, Doc.frc_eq, Doc.must_eq]
  show (if d.kind = 14 then false else if d.kind = 8 then sprBrk true d.kind d.brk (d.kidsMust true) || frcH (d.kids.map (Doc.sprD true)) else if d.kind = 5 ∨ d.kind = 6 ∨ d.kind = 16 then true else if d.kind = 7 ∧ sprBrk true d.kind d.brk (d.kidsMust true) = true then true else frcL (d.kids.map (Doc.sprD true))) = _
  rw [hL, hH]
  unfold sprOut sprBrk Doc.kidsMust mustL
  by_cases k14 : d.kind = 14
  · simp [k14]
  by_cases k8 : d.kind = 8
  · simp [k8, Bool.or_comm]
  by_cases k5 : d.kind = 5 ∨ d.kind = 6 ∨ d.kind = 16
  · rw [if_neg k14, if_neg k8, if_pos k5, if_pos k5]
  by_cases k7 : d.kind = 7
  · simp [k7]
    cases d.brk <;> simp
  · simp [k14, k8, k5, k7]
theorem sprD_bulk (d : Doc) : (d.sprD true).bulk = d.bulk := by
  refine Doc.ind (P := fun d => (d.sprD true).bulk = d.bulk) (fun d ih => ?_) d
  rw [Doc.sprD_eq, Doc.bulk_eq, Doc.bulk_eq d]
  show bulkL (d.kids.map (Doc.sprD true)) + d.text.size + 1 = _
  have : ∀ ks : List Doc, (∀ x ∈ ks, x ∈ d.kids) → bulkL (ks.map (Doc.sprD true)) = bulkL ks := by
    intro ks
    induction ks with
    | nil => intro _; rfl
    | cons x xs ih2 =>
      intro hm
      simp only [List.map_cons, bulkL]
      rw [ih x (hm x (by simp)), ih2 (fun y hy => hm y (by simp [hy]))]
  rw [this d.kids (fun x hx => hx)]
end Go.Proofs.YtaojlnibkajfbaaDoor
