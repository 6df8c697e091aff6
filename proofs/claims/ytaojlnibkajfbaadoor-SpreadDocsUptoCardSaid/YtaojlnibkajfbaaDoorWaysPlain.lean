/- SpreadWays in plain Lean: a forced break goes up. -/
import Derived.Test.YtaojlnibkajfbaaDoorSprPlain
import Derived.Test.YtaojlnibkajfbaaDoorDocAwake
namespace Go.Proofs.YtaojlnibkajfbaaDoor
open Go.RowKit
set_option linter.unusedVariables false

def softD : Doc := eDoc 4 []
def stepD (r : Nat) (d : Doc) : Doc :=
  if r = 0 then eDoc 2 [softD, d] else if r = 1 then eDoc 11 [d] else if r = 2 then eDoc 7 [d] else if r = 3 then eDoc 14 [d] else if r = 4 then eDoc 8 [d, softD] else if r = 5 then eDoc 8 [softD, d] else if r = 6 then eDoc 9 [d] else eDoc 10 [softD, d]
def stepUp (r : Nat) (up : Bool) : Bool := if r = 3 ∨ r = 5 then false else up
theorem soft_facts : softD.shape = true ∧ softD.depth = 1 ∧ softD.bulk = 1 ∧ softD.must true = false := ⟨by kernel_rfl, by kernel_rfl, by kernel_rfl, by kernel_rfl⟩
structure WaysOk (n : Nat) (d : Doc) (up : Bool) : Prop where
  shape : d.shape = true
  depth : d.depth ≤ n + 1
  bulk : d.bulk ≤ 2 * n + 1
  must : d.must true = up
theorem eDoc_shape (k : Int) (ks : List Doc) : (eDoc k ks).shape = (formedF k ⟨#[]⟩ ks.length false 0 0 && shapeL ks) := by rw [Doc.shape_eq]; rfl
theorem eDoc_depth (k : Int) (ks : List Doc) : (eDoc k ks).depth = depthL ks + 1 := by rw [Doc.depth_eq]; rfl
theorem eDoc_bulk (k : Int) (ks : List Doc) : (eDoc k ks).bulk = bulkL ks + 1 := by rw [Doc.bulk_eq]; rfl
theorem eDoc_must (k : Int) (ks : List Doc) : (eDoc k ks).must true = sprOut true k false (mustL k (ks.map (Doc.must true))) := by rw [Doc.must_eq]; rfl
theorem formed_facts : formedF 2 ⟨#[]⟩ 2 false 0 0 = true ∧ formedF 11 ⟨#[]⟩ 1 false 0 0 = true ∧ formedF 7 ⟨#[]⟩ 1 false 0 0 = true ∧ formedF 14 ⟨#[]⟩ 1 false 0 0 = true ∧ formedF 8 ⟨#[]⟩ 2 false 0 0 = true ∧ formedF 9 ⟨#[]⟩ 1 false 0 0 = true ∧ formedF 10 ⟨#[]⟩ 2 false 0 0 = true :=
  ⟨by kernel_rfl, by kernel_rfl, by kernel_rfl, by kernel_rfl, by kernel_rfl, by kernel_rfl, by kernel_rfl⟩
theorem ways_step {n : Nat} {d : Doc} {up : Bool} (h : WaysOk n d up) (r : Nat) (hr : r < 8) : WaysOk (n + 1) (stepD r d) (stepUp r up) := by
  obtain ⟨f1, f2, f3, f4, f5, f6, f7⟩ := formed_facts
  obtain ⟨s1, s2, s3, s4⟩ := soft_facts
  obtain ⟨h1, h2, h3, h4⟩ := h
  have hc : r = 0 ∨ r = 1 ∨ r = 2 ∨ r = 3 ∨ r = 4 ∨ r = 5 ∨ r = 6 ∨ r = 7 := by omega
  rcases hc with rfl | rfl | rfl | rfl | rfl | rfl | rfl | rfl
  all_goals
    simp only [stepD, stepUp]
    refine ⟨?_, ?_, ?_, ?_⟩
    · simp [eDoc_shape, shapeL, *]
    · simp [eDoc_depth, depthL, *]; try omega
    · simp [eDoc_bulk, bulkL, *]; try omega
    · simp [eDoc_must, mustL, sprOut, *]
theorem ways_code {n : Nat} {d : Doc} {up : Bool} (h : WaysOk n d up) (hn : n ≤ 1000) : (eDoc 7 [d]).code = 0 ∧ ((eDoc 7 [d]).sprD true).brk = up ∧ (eDoc 7 [d]).bulk ≤ 4194304 := by
  obtain ⟨f1, f2, f3, f4, f5, f6, f7⟩ := formed_facts
  obtain ⟨h1, h2, h3, h4⟩ := h
  refine ⟨?_, ?_, ?_⟩
  · unfold Doc.code
    rw [if_neg (by rw [eDoc_depth]; simp [depthL]; omega), if_pos (by simp [eDoc_shape, shapeL, *])]
  · rw [Doc.sprD_eq]
    show sprBrk true 7 false (mustL 7 [d.must true]) = up
    simp [sprBrk, mustL, h4]
  · rw [eDoc_bulk]; simp [bulkL]; omega
theorem ways_new (k : Int) (hk : k = 5 ∨ k = 6 ∨ k = 16 ∨ k = 3) : WaysOk 0 (eDoc k []) (decide (k ≠ 3)) := by
  rcases hk with rfl | rfl | rfl | rfl
  all_goals exact ⟨by kernel_rfl, by decide +kernel, by decide +kernel, by kernel_rfl⟩
end Go.Proofs.YtaojlnibkajfbaaDoor
