/- A flat text is valid and has no line's end; what goes round a document leaves its flat text. Plain Lean. -/
import Derived.Test.YtaojlnibkajfbaaDoorDocJoins
import Derived.Test.YtaojlnibkajfbaaDoorUniLawPlain
namespace Go.Proofs.YtaojlnibkajfbaaDoor
open Go.RowKit
set_option linter.unusedVariables false

def okT (l : List UInt8) : Prop := validCode ⟨l.toArray⟩ = 0 ∧ ∀ c ∈ l, c ≠ 10 ∧ c ≠ 13
theorem okT_nil : okT [] := ⟨by kernel_rfl, by simp⟩
theorem okT_app {a b : List UInt8} (ha : okT a) (hb : okT b) : okT (a ++ b) := by
  refine ⟨?_, fun c hc => ?_⟩
  · have e : (⟨(a ++ b).toArray⟩ : ByteArray) = ⟨a.toArray⟩ ++ ⟨b.toArray⟩ := by apply ByteArray.ext; simp
    have h0 : ∀ l : List UInt8, validCode ⟨l.toArray⟩ = 0 → badRest ⟨l.toArray⟩ 0 = Option.none := by
      intro l h
      cases h1 : badRest ⟨l.toArray⟩ 0 with
      | none => rfl
      | some p => rw [(valid_some h1).2] at h; cases h
    have h1 := app_bad ⟨a.toArray⟩ ⟨b.toArray⟩ (h0 a ha.1)
    rw [h0 b hb.1] at h1
    rw [e]
    exact (valid_none h1).2
  · rcases List.mem_append.1 hc with h | h
    · exact ha.2 c h
    · exact hb.2 c h
theorem flatL_ok : ∀ (ks : List Doc), (∀ d ∈ ks, ∀ l, d.flat = some l → okT l) → ∀ l, flatL ks = some l → okT l
  | [], _, l, h => by cases h; exact okT_nil
  | d :: ds, hd, l, h => by
    simp only [flatL] at h
    cases h1 : d.flat with
    | none => rw [h1] at h; cases h
    | some a =>
      rw [h1] at h
      cases h2 : flatL ds with
      | none => rw [h2] at h; cases h
      | some b =>
        rw [h2] at h
        cases h
        exact okT_app (hd d (by simp) a h1) (flatL_ok ds (fun x hx => hd x (by simp [hx])) b h2)
theorem text_ok {t : ByteArray} (h : textB t = true) : okT t.data.toList := by
  unfold textB at h
  simp only [Bool.and_eq_true, beq_iff_eq, Bool.not_eq_true'] at h
  refine ⟨?_, fun c hc => ?_⟩
  · have e : (⟨t.data.toList.toArray⟩ : ByteArray) = t := by apply ByteArray.ext; simp
    rw [e]
    exact h.1
  · have h2 := h.2
    unfold endFrom at h2
    rw [List.drop_zero, List.any_eq_false] at h2
    have h3 := h2 c hc
    simp only [Bool.or_eq_true, beq_iff_eq, not_or] at h3
    exact h3
theorem Doc.flat_ok (d : Doc) : d.shape = true → ∀ l, d.flat = some l → okT l := by
  refine Doc.ind (P := fun d => d.shape = true → ∀ l, d.flat = some l → okT l) (fun d ih hs l h => ?_) d
  rw [Doc.shape_eq] at hs
  simp only [Bool.and_eq_true] at hs
  have hk : ∀ x ∈ d.kids, ∀ l, x.flat = some l → okT l := fun x hx l hl => ih x hx (shapeL_mem hs.2 x hx) l hl
  rw [Doc.flat_eq] at h
  split at h
  · next hk1 =>
    cases h
    have hf : formedF d.kind d.text d.kids.length d.brk d.id d.width = true := by have := hs.1; cases d; exact this
    rw [hk1] at hf
    unfold formedF at hf
    rw [if_pos rfl] at hf
    simp only [Bool.and_eq_true] at hf
    exact text_ok hf.1.1.1.1
  · split at h
    · cases h
      exact ⟨by kernel_rfl, by simp⟩
    · split at h
      · cases h
      · split at h
        · cases h
          exact okT_nil
        · split at h
          · split at h
            · cases h
            · rw [flatH_take] at h
              exact flatL_ok _ (fun x hx => hk x (List.mem_of_mem_take hx)) l h
          · split at h
            · rw [flatT_drop] at h
              exact flatL_ok _ (fun x hx => hk x (List.mem_of_mem_drop hx)) l h
            · exact flatL_ok _ hk l h
theorem flatS_ok {d : Doc} (h : d.flatOk = true) : ∃ l, d.code = 0 ∧ d.flat = some l ∧ d.flatS = ⟨l.toArray⟩ ∧ okT l := by
  unfold Doc.flatOk at h
  cases hv : d.flatV with
  | none => rw [hv] at h; cases h
  | some l =>
    have hs : d.flatS = ⟨l.toArray⟩ := by unfold Doc.flatS; rw [hv]
    unfold Doc.flatV at hv
    split at hv
    · next hc => exact ⟨l, hc, hv, hs, d.flat_ok (code_shape hc).1 l hv⟩
    · cases hv
theorem flatS_bad {d : Doc} (h : d.flatOk = false) : d.flatS = ⟨#[]⟩ := by
  unfold Doc.flatOk at h
  cases hv : d.flatV with
  | none => unfold Doc.flatS; rw [hv]
  | some l => rw [hv] at h; cases h
/-- What goes round a document. -/
def six (d : Doc) (y : Int) : List Doc := [eDoc 7 [d], eDoc 11 [d], .mk 13 ⟨#[]⟩ [d] false 0 y, eDoc 8 [d, eDoc 5 []], eDoc 10 [eDoc 5 [], d], eDoc 9 [d]]
theorem six_flat (d : Doc) (y : Int) : ∀ x ∈ six d y, x.flat = d.flat := by
  intro x hx
  simp only [six, List.mem_cons, List.not_mem_nil, or_false] at hx
  rcases hx with rfl | rfl | rfl | rfl | rfl | rfl
  · rfl
  · exact flatL_one d
  · exact flatL_one d
  · rfl
  · exact flatL_one d
  · exact flatL_one d
theorem around_flat {d x : Doc} (h : d.flatOk = true) (hx : x.flat = d.flat) (hc : x.code = 0) : x.flatOk = true ∧ x.flatS = d.flatS := by
  obtain ⟨l, h1, h2, h3, _⟩ := flatS_ok h
  have hv : x.flatV = some l := by unfold Doc.flatV; rw [if_pos hc, hx, h2]
  refine ⟨by unfold Doc.flatOk; rw [hv]; rfl, ?_⟩
  rw [h3]
  unfold Doc.flatS
  rw [hv]
theorem six_bulk (d : Doc) (y : Int) (h : d.bulk ≤ 1048576) : ∀ x ∈ six d y, x.bulk ≤ 4194304 := by
  intro x hx
  simp only [six, List.mem_cons, List.not_mem_nil, or_false] at hx
  have h0 : ((⟨#[]⟩ : ByteArray).size) = 0 := rfl
  rcases hx with rfl | rfl | rfl | rfl | rfl | rfl <;> (simp only [eDoc, Doc.bulk, bulkL, h0]; omega)
end Go.Proofs.YtaojlnibkajfbaaDoor
