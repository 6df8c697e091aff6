/- LayoutLines in plain words: what Layout gives. -/
import Derived.Test.YthljgiimdcbfpaaDoorLPLines
import Derived.Test.YthljgiimdcbfpaaDoorLPFlats
import Derived.Test.YthljgiimdcbfpaaDoorLPChoices
namespace Go.Proofs.YthljgiimdcbfpaaDoor
open Go.RowKit
set_option maxRecDepth 100000
set_option linter.unusedVariables false
set_option linter.unusedSimpArgs false

theorem lineOk_of (d : Doc) : d.shape = true → d.literal = false → d.lineOk = true := by
  refine Doc.ind (P := fun d => d.shape = true → d.literal = false → d.lineOk = true) (fun d ih hs hl => ?_) d
  rw [Doc.literal_eq, Bool.or_eq_false_iff] at hl
  obtain ⟨h6, hk⟩ := hl
  rw [literalL_any, List.any_eq_false] at hk
  rw [Doc.shape_eq, Bool.and_eq_true] at hs
  have hkids : lineOkL d.kids = true := (lineOkL_all _).2 fun x hx => ih x hx (shapeL_mem hs.2 x hx) (by simpa using hk x hx)
  rw [Doc.lineOk_eq, hkids, Bool.and_true, Bool.and_eq_true]
  refine ⟨by simpa using h6, ?_⟩
  by_cases k1 : d.kind = 1
  · have hf : formedF d.kind d.text d.kids.length d.brk d.id d.width = true := by have := hs.1; cases d; exact this
    rw [k1] at hf
    unfold formedF at hf
    rw [if_pos rfl] at hf
    simp only [Bool.and_eq_true] at hf
    have := (text_ok hf.1.1.1.1).2
    rw [Bool.or_eq_true]
    refine .inr (List.all_eq_true.2 fun c hc => ?_)
    have h := this c hc
    simp [h.1, h.2]
  · rw [Bool.or_eq_true]
    exact .inl (by simpa using k1)
/-- What Layout gives of a document without a literal. -/
theorem lay_lines (d : Doc) (o : Opt) (hl : d.literal = false) : LinesOk o.nl (layN d o).1 := by
  unfold layN
  split
  · exact LinesOk.nil _
  · split
    · exact LinesOk.nil _
    · next hc =>
      have hc0 : d.code = 0 := by simpa using hc
      have hd := lineOk_of d (code_shape hc0).1 hl
      split
      · exact LinesOk.nil _
      · next s hs =>
        refine runM_lines o _ _ _ ⟨LinesOk.nil _, fun c hcm => ?_, by intro c hcm; cases hcm⟩ hs
        have : c = ⟨[], false, d⟩ := by simpa [startM] using hcm
        subst this
        exact hd
/-- An error's text is empty. -/
theorem lay_bad (d : Doc) (o : Opt) (h : (layN d o).2 ≠ 0) : (layN d o).1 = [] := by
  unfold layN at h ⊢
  split
  · rfl
  · next h1 =>
    rw [if_neg h1] at h
    split
    · rfl
    · next h2 =>
      rw [if_neg h2] at h
      cases hr : runM o (2 * d.nodes) (startM d) with
      | none => rfl
      | some s => rw [hr] at h; exact absurd rfl h
end Go.Proofs.YthljgiimdcbfpaaDoor
