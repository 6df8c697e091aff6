/- Package edits in plain Lean: what is left of the pairs; a script's form. -/
import Derived.Test.YtakolehlaejhfaaEdPlain
namespace Go.Proofs.Ytakolehlaejhfaa
theorem pairsB_tail : ∀ (a b : List Ln) (i k : Nat) (x : Nat × Nat) (r : List (Nat × Nat)), pairsB a b i k = x :: r →
    i ≤ x.1 ∧ x.1 < i + a.length ∧ k ≤ x.2 ∧ x.2 < k + b.length ∧ r = pairsB (a.drop (x.1 + 1 - i)) (b.drop (x.2 + 1 - k)) (x.1 + 1) (x.2 + 1)
  | [], _, _, _, _, _, h => by simp [pairsB] at h
  | y :: ys, b, i, k, x, r, h => by
    unfold pairsB at h
    cases hk : keptAt y ys b with
    | none =>
      rw [hk] at h
      obtain ⟨h1, h2, h3, h4, h5⟩ := pairsB_tail ys b (i + 1) k x r h
      refine ⟨by omega, by simp; omega, h3, h4, ?_⟩
      rw [h5, show x.1 + 1 - i = (x.1 + 1 - (i + 1)) + 1 by omega, List.drop_succ_cons]
    | some j =>
      rw [hk] at h
      injection h with h1 h2
      subst h1
      have hj := (List.getElem?_eq_some_iff.1 (keptAt_some hk).1).1
      refine ⟨Nat.le_refl _, by simp, by simp, by simp; omega, ?_⟩
      rw [← h2]
      simp only [show i + 1 - i = 1 by omega, show k + j + 1 - k = j + 1 by omega, List.drop_succ_cons, List.drop_zero]
/-- One step. -/
theorem pairs_go {a b : List Ln} {pre : List (Nat × Nat)} {i k : Nat} (hp : pre ++ pairsB (a.drop i) (b.drop k) i k = pairsB a b 0 0) {x : Nat × Nat} {r : List (Nat × Nat)} (hr : pre ++ [x] ++ r = pairsB a b 0 0) (hi : i ≤ a.length) (hk : k ≤ b.length) :
    i ≤ x.1 ∧ x.1 < a.length ∧ k ≤ x.2 ∧ x.2 < b.length ∧ pairsB (a.drop i) (b.drop k) i k = x :: pairsB (a.drop (x.1 + 1)) (b.drop (x.2 + 1)) (x.1 + 1) (x.2 + 1) := by
  have e : pairsB (a.drop i) (b.drop k) i k = x :: r := by
    rw [← hr, List.append_assoc] at hp
    exact List.append_cancel_left hp
  obtain ⟨h1, h2, h3, h4, h5⟩ := pairsB_tail _ _ _ _ _ _ e
  rw [List.length_drop] at h2 h4
  refine ⟨h1, by omega, h3, by omega, ?_⟩
  rw [e, h5, List.drop_drop, List.drop_drop, show i + (x.1 + 1 - i) = x.1 + 1 by omega, show k + (x.2 + 1 - k) = x.2 + 1 by omega]
theorem edsB_nil (la : Nat) (b : List Ln) (keep i k : Nat) : edsB la b [] keep i k = if i < la ∨ k < b.length then [⟨keep, (la : Int) - i, b.drop k⟩] else if 0 < keep then [⟨keep, 0, []⟩] else [] := rfl
theorem edsB_yes (la : Nat) (b : List Ln) (p : Nat × Nat) (ps : List (Nat × Nat)) (keep i k : Nat) (h : i < p.1 ∨ k < p.2) :
    edsB la b (p :: ps) keep i k = ⟨keep, (p.1 : Int) - i, (b.drop k).take (p.2 - k)⟩ :: edsB la b ps 1 (p.1 + 1) (p.2 + 1) := by
  conv => lhs; unfold edsB
  rw [if_pos h]
theorem edsB_no (la : Nat) (b : List Ln) (p : Nat × Nat) (ps : List (Nat × Nat)) (keep i k : Nat) (h : ¬ (i < p.1 ∨ k < p.2)) :
    edsB la b (p :: ps) keep i k = edsB la b ps (keep + 1) (p.1 + 1) (p.2 + 1) := by
  conv => lhs; unfold edsB
  rw [if_neg h]
end Go.Proofs.Ytakolehlaejhfaa
