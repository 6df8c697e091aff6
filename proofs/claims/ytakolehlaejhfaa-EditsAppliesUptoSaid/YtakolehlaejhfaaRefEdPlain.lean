/- The reference's pairs in plain Lean. -/
import Derived.Test.YtakolehlaejhfaaEdPlain2
namespace Go.Proofs.Ytakolehlaejhfaa
theorem kept_found {x : Ln} {xs b : List Ln} {j : Nat} (h1 : b[j]? = some x) (h2 : lcs xs (b.drop (j + 1)) + 1 = lcs (x :: xs) b) (hno : ∀ k, k < j → ¬ (b[k]? = some x ∧ lcs xs (b.drop (k + 1)) + 1 = lcs (x :: xs) b)) : keptAt x xs b = some j := by
  cases hk : keptAt x xs b with
  | none => exact absurd h2 ((keptAt_none hk).1 j h1)
  | some m =>
    obtain ⟨e1, e2, e3⟩ := keptAt_some hk
    rcases Nat.lt_trichotomy m j with h | h | h
    · exact absurd ⟨e1, e3⟩ (hno m h)
    · rw [h]
    · exact absurd h1 (e2 j h)
theorem kept_not {x : Ln} {xs b : List Ln} (hno : ∀ k, k < b.length → ¬ (b[k]? = some x ∧ lcs xs (b.drop (k + 1)) + 1 = lcs (x :: xs) b)) : keptAt x xs b = none := by
  cases hk : keptAt x xs b with
  | none => rfl
  | some m =>
    obtain ⟨e1, e2, e3⟩ := keptAt_some hk
    exact absurd ⟨e1, e3⟩ (hno m (List.getElem?_eq_some_iff.1 e1).1)
/-- While the line of b is looked for. -/
def Seek (a b : List Ln) (i k0 : Nat) (ps : List (Nat × Nat)) (fd : Bool) (j k : Nat) (qs : List (Nat × Nat)) : Prop :=
  k ≤ b.length ∧ j ≤ b.length ∧ qs.length ≤ ps.length + 1 ∧ (fd = true → ps ++ pairsB (a.drop i) (b.drop k0) i k0 = qs ++ pairsB (a.drop (i + 1)) (b.drop k) (i + 1) k) ∧
    (fd = false → k = k0 ∧ qs = ps ∧ k0 ≤ j ∧ ∀ q, k0 ≤ q → q < j → ¬ (b[q]? = a[i]? ∧ lcs (a.drop (i + 1)) (b.drop (q + 1)) + 1 = lcs (a.drop i) (b.drop k0)))
theorem seek_hit {a b : List Ln} {i k0 j : Nat} {ps qs : List (Nat × Nat)} (hi : i < a.length) (h : Seek a b i k0 ps false j k0 qs) (hj : j < b.length) (h1 : b[j]? = a[i]?) (h2 : lcs (a.drop (i + 1)) (b.drop (j + 1)) + 1 = lcs (a.drop i) (b.drop k0)) :
    Seek a b i k0 ps true (j + 1) (j + 1) (qs ++ [(i, j)]) := by
  obtain ⟨_, _, h3, _, h5⟩ := h
  obtain ⟨_, rfl, h6, h7⟩ := h5 rfl
  refine ⟨by omega, by omega, by simp, fun _ => ?_, (fun e => by cases e)⟩
  have hd := List.drop_eq_getElem_cons hi
  have hx := List.getElem?_eq_getElem hi
  rw [hx] at h1 h7
  rw [hd] at h2 h7 ⊢
  have hk : keptAt a[i] (a.drop (i + 1)) (b.drop k0) = some (j - k0) := by
    refine kept_found (by rw [List.getElem?_drop, show k0 + (j - k0) = j by omega]; exact h1) (by rw [List.drop_drop, show k0 + (j - k0 + 1) = j + 1 by omega]; exact h2) ?_
    intro k hk he
    rw [List.getElem?_drop, List.drop_drop] at he
    exact h7 (k0 + k) (by omega) (by omega) ⟨he.1, by rw [show k0 + k + 1 = k0 + (k + 1) by omega]; exact he.2⟩
  conv => lhs; rw [pairsB, hk]
  simp only []
  rw [List.drop_drop, show k0 + (j - k0 + 1) = j + 1 by omega, show k0 + (j - k0) + 1 = j + 1 by omega, show k0 + (j - k0) = j by omega]
  simp
theorem seek_miss {a b : List Ln} {i k0 j : Nat} {ps qs : List (Nat × Nat)} (h : Seek a b i k0 ps false j k0 qs) (hj : j < b.length) (h1 : ¬ (b[j]? = a[i]? ∧ lcs (a.drop (i + 1)) (b.drop (j + 1)) + 1 = lcs (a.drop i) (b.drop k0))) :
    Seek a b i k0 ps false (j + 1) k0 qs := by
  obtain ⟨h0, _, h3, _, h5⟩ := h
  obtain ⟨_, h5, h6, h7⟩ := h5 rfl
  refine ⟨h0, by omega, h3, (fun e => by cases e), fun _ => ⟨rfl, h5, by omega, fun q hq1 hq2 => ?_⟩⟩
  by_cases e : q = j
  · rw [e]; exact h1
  · exact h7 q hq1 (by omega)
theorem seek_end {a b : List Ln} {i k0 j k : Nat} {fd : Bool} {ps qs : List (Nat × Nat)} (hi : i < a.length) (h : Seek a b i k0 ps fd j k qs) (he : fd = true ∨ j = b.length) :
    ps ++ pairsB (a.drop i) (b.drop k0) i k0 = qs ++ pairsB (a.drop (i + 1)) (b.drop k) (i + 1) k := by
  obtain ⟨h0, _, h3, h4, h5⟩ := h
  cases fd with
  | true => exact h4 rfl
  | false =>
    obtain ⟨rfl, rfl, h6, h7⟩ := h5 rfl
    rcases he with he | rfl
    · cases he
    have hd := List.drop_eq_getElem_cons hi
    have hx := List.getElem?_eq_getElem hi
    rw [hx, hd] at h7
    rw [hd]
    have hk : keptAt a[i] (a.drop (i + 1)) (b.drop k) = none := by
      refine kept_not ?_
      intro q hq he
      rw [List.length_drop] at hq
      rw [List.getElem?_drop, List.drop_drop] at he
      exact h7 (k + q) (by omega) (by omega) ⟨he.1, by rw [show k + q + 1 = k + (q + 1) by omega]; exact he.2⟩
    conv => lhs; rw [pairsB, hk]
theorem seek_new (a b : List Ln) (i k0 : Nat) (ps : List (Nat × Nat)) (hk : k0 ≤ b.length) : Seek a b i k0 ps false k0 k0 ps :=
  ⟨hk, hk, by omega, fun e => (by cases e), fun _ => ⟨rfl, rfl, Nat.le_refl _, fun q h1 h2 => by omega⟩⟩
end Go.Proofs.Ytakolehlaejhfaa
