/- No way to be flat: plain. -/
import Derived.Test.YtaojlnibkajfbaaDoorDocFlatPlain
import Derived.Test.YtaojlnibkajfbaaDoorDocFormPlain
import Derived.Test.YtaojlnibkajfbaaDoorDocFlat
namespace Go.Proofs.YtaojlnibkajfbaaDoor
open Go.RowKit
set_option linter.unusedVariables false
set_option linter.unusedSimpArgs false

def Doc.kids5 (d : Doc) : List Doc := if d.kind = 8 then d.kids.take 1 else if d.kind = 10 then d.kids.drop 1 else d.kids
def Doc.frc5 (d : Doc) : Bool := d.flat.isNone
theorem flatL_isNone (ks : List Doc) : (flatL ks).isNone = ks.any Doc.frc5 := by
  induction ks with
  | nil => rfl
  | cons d ds ih =>
    simp only [flatL, List.any_cons, ← ih]
    unfold Doc.frc5
    cases d.flat <;> cases flatL ds <;> rfl
theorem formed_bare {k : Int} {t : ByteArray} {n : Nat} {b : Bool} {i y : Int} (h : formedF k t n b i y = true) :
    (k = 1 ∨ k = 3 ∨ k = 4 ∨ k = 15 → n = 0 ∧ b = false) ∧ (k = 7 → n = 1) ∧ (k = 8 → 1 ≤ n) ∧ (k = 10 → n = 2 ∧ b = false) ∧ (b = true → k = 7 ∨ k = 8) := by
  unfold formedF at h
  repeat' split at h
  all_goals simp at h
  all_goals (cases b <;> simp_all <;> omega)
theorem shape_bare {d : Doc} (h : d.shape = true) : formedF d.kind d.text d.kids.length d.brk d.id d.width = true ∧ ∀ x ∈ d.kids, x.shape = true := by
  rw [Doc.shape_eq, Bool.and_eq_true] at h
  refine ⟨?_, shapeL_mem h.2⟩
  have := h.1
  cases d
  exact this
theorem Doc.frc5_eq (d : Doc) (h : d.shape = true) : d.frc5 = if d.kind = 14 then false else if d.kind = 5 ∨ d.kind = 6 ∨ d.kind = 16 then true else if d.brk = true then true else d.kids5.any Doc.frc5 := by
  obtain ⟨hf, _⟩ := shape_bare h
  obtain ⟨f1, f7, f8, f10, fb⟩ := formed_bare hf
  unfold Doc.frc5 Doc.kids5
  rw [Doc.flat_eq]
  have hnil : d.kids.length = 0 → d.kids = [] := fun h => List.length_eq_zero_iff.1 h
  by_cases k14 : d.kind = 14
  · simp [k14]
  by_cases k5 : d.kind = 5 ∨ d.kind = 6 ∨ d.kind = 16
  · rw [if_neg (by omega), if_neg (by omega), if_pos k5, if_neg k14, if_pos k5]; rfl
  have ne : d.kind ≠ 5 ∧ d.kind ≠ 6 ∧ d.kind ≠ 16 := by omega
  by_cases k1 : d.kind = 1 ∨ d.kind = 3 ∨ d.kind = 4 ∨ d.kind = 15
  · obtain ⟨hn, hb⟩ := f1 k1
    rcases k1 with k | k | k | k <;> simp [k, hb, hnil hn]
  have ne1 : d.kind ≠ 1 ∧ d.kind ≠ 3 ∧ d.kind ≠ 4 ∧ d.kind ≠ 15 := by omega
  by_cases k7 : d.kind = 7
  · have : d.kids.take 1 = d.kids := List.take_of_length_le (by rw [f7 k7]; omega)
    have hz := flatL_isNone d.kids
    cases hb : d.brk <;> simp only [k7, hb, flatH_take, this] <;> simp [hz]
    rfl
  by_cases k8 : d.kind = 8
  · have hz := flatL_isNone (d.kids.take 1)
    cases hb : d.brk <;> simp only [k8, hb, flatH_take] <;> simp [hz]
    rfl
  have hb : d.brk = false := by
    cases hb : d.brk
    · rfl
    · rcases fb hb with h | h <;> contradiction
  by_cases k10 : d.kind = 10
  · have hz := flatL_isNone d.kids.tail
    simp only [k10, hb, flatT_drop]
    simp [hz]
    rfl
  · have hz := flatL_isNone d.kids
    simp [k14, ne, ne1, k7, k8, k10, hb, hz]
    rfl
end Go.Proofs.YtaojlnibkajfbaaDoor
