/- EditsOne in plain Lean: one line put in. -/
import Derived.Test.YtakolehlaejhfaaEdOne
namespace Go.Proofs.Ytakolehlaejhfaa

/-- A line with its end. -/
def Whole (m : Ln) : Prop := ∃ p : Ln, m = p ++ [10] ∧ ∀ c ∈ p, c ≠ 10
theorem lines_whole : ∀ (M : List Ln), (∀ m ∈ M, Whole m) → linesB M.flatten = M
  | [], _ => rfl
  | m :: M, h => by
    obtain ⟨p, rfl, hp⟩ := h m (by simp)
    have ih := lines_whole M (fun x hx => h x (by simp [hx]))
    have := linesB_nl p M.flatten hp
    rw [ih] at this
    simpa using this
theorem lcs_both (x : Ln) (xs ys : List Ln) : lcs xs ys + 1 ≤ lcs (x :: xs) (x :: ys) := by
  have := lcs_match x xs (x :: ys) 0 rfl
  simpa using this
theorem lcs_put (z : Ln) : ∀ (k : Nat) (L : List Ln), lcs L (L.take k ++ z :: L.drop k) = L.length
  | 0, L => by
    have h1 := lcs_r L z L
    have h2 := lcs_self L
    have h3 := lcs_le L (z :: L)
    simp only [List.take_zero, List.drop_zero, List.nil_append]
    omega
  | k + 1, [] => rfl
  | k + 1, x :: xs => by
    have ih := lcs_put z k xs
    have h1 := lcs_both x xs (xs.take k ++ z :: xs.drop k)
    have h2 := lcs_le (x :: xs) (x :: (xs.take k ++ z :: xs.drop k))
    simp only [List.take_succ_cons, List.drop_succ_cons, List.cons_append, List.length_cons] at h2 ⊢
    omega
theorem puts_eds (a b : List Ln) : ∀ (ps : List (Nat × Nat)) (keep i k : Nat), Chain a b ps i k → putsB (edsB a.length b ps keep i k) + k + ps.length = b.length
  | [], keep, i, k, h => by
    obtain ⟨h1, h2⟩ := h
    rw [edsB_nil]
    split
    · simp [putsB]; omega
    · split
      · simp [putsB]; omega
      · simp [putsB]; omega
  | p :: ps, keep, i, k, h => by
    obtain ⟨h1, h2, h3, h4, h5, h6⟩ := h
    by_cases hc : i < p.1 ∨ k < p.2
    · rw [edsB_yes _ _ _ _ _ _ _ hc]
      have ih := puts_eds a b ps 1 (p.1 + 1) (p.2 + 1) h6
      simp only [putsB, List.map_cons, List.sum_cons, List.length_take, List.length_drop, List.length_cons] at ih ⊢
      omega
    · rw [edsB_no _ _ _ _ _ _ _ hc]
      have ih := puts_eds a b ps (keep + 1) (p.1 + 1) (p.2 + 1) h6
      simp only [List.length_cons]
      omega
theorem puts_script (a b : List Ln) : putsB (scriptB a b) + lcs a b = b.length := by
  have := puts_eds a b (pairsB a b 0 0) 0 0 0 (chain_pairs a b _ 0 0 (Nat.zero_le _) (Nat.zero_le _) rfl)
  rw [pairsB_len] at this
  unfold scriptB
  omega
/-- One line put in at k. -/
theorem one_put (L : List Ln) (z : Ln) (k : Nat) (hk : k ≤ L.length) : putsB (scriptB L (L.take k ++ z :: L.drop k)) = 1 ∧ putsB (scriptB (L.take k ++ z :: L.drop k) L) = 0 ∧
    keptB (scriptB L (L.take k ++ z :: L.drop k)) = L.length ∧ keptB (scriptB (L.take k ++ z :: L.drop k) L) = L.length := by
  have h1 := puts_script L (L.take k ++ z :: L.drop k)
  have h2 := puts_script (L.take k ++ z :: L.drop k) L
  have h3 := (kept_script L (L.take k ++ z :: L.drop k)).1
  have h4 := (kept_script (L.take k ++ z :: L.drop k) L).1
  rw [lcs_comm] at h2 h4
  rw [lcs_put] at h1 h2 h3 h4
  simp only [List.length_append, List.length_cons, List.length_take, List.length_drop] at h1
  refine ⟨by omega, by omega, h3, h4⟩
theorem whole_of : ∀ s : Ln, s.getLast? = some 10 → ∀ m ∈ linesB s, Whole m
  | [], h, _, _ => by simp at h
  | c :: cs, h, m, hm => by
    unfold linesB at hm
    by_cases hcs : cs = []
    · subst hcs
      simp at h
      subst h
      simp [linesB] at hm
      subst hm
      exact ⟨[], rfl, by simp⟩
    · have hl : cs.getLast? = some 10 := by
        rw [List.getLast?_cons_of_ne_nil hcs] at h
        exact h
      have ih := whole_of cs hl
      split at hm
      · rename_i hc
        rcases List.mem_cons.1 hm with rfl | hm
        · exact ⟨[], by simp [hc], by simp⟩
        · exact ih m hm
      · rename_i hc
        cases hx : linesB cs with
        | nil =>
          have := linesB_flat cs
          rw [hx] at this
          exact absurd this.symm hcs
        | cons l ls =>
          rw [hx] at hm ih
          rcases List.mem_cons.1 hm with rfl | hm
          · obtain ⟨p, rfl, hp⟩ := ih l (by simp)
            refine ⟨c :: p, rfl, fun x hx => ?_⟩
            rcases List.mem_cons.1 hx with rfl | hx
            · exact hc
            · exact hp x hx
          · exact ih m (by simp [hm])
/-- What is joined when j lines have come. -/
def partB (L : List Ln) (z : Ln) (k j : Nat) : Ln := if j ≤ k then (L.take j).flatten else (L.take k).flatten ++ z ++ ((L.take j).drop k).flatten
theorem partB_lt (L : List Ln) (z : Ln) (k j : Nat) (hj : j < L.length) (h : j < k) : partB L z k (j + 1) = partB L z k j ++ L[j] := by
  unfold partB
  rw [if_pos (by omega), if_pos (by omega), take_flat1 L j L[j] (List.getElem?_eq_getElem hj)]
theorem partB_eq (L : List Ln) (z : Ln) (j : Nat) (hj : j < L.length) : partB L z j (j + 1) = partB L z j j ++ z ++ L[j] := by
  unfold partB
  rw [if_neg (by omega), if_pos (by omega), List.take_succ_eq_append_getElem hj, List.drop_append_of_le_length (by simp; omega)]
  simp
theorem partB_gt (L : List Ln) (z : Ln) (k j : Nat) (hj : j < L.length) (h : k < j) : partB L z k (j + 1) = partB L z k j ++ L[j] := by
  unfold partB
  rw [if_neg (by omega), if_neg (by omega), List.take_succ_eq_append_getElem hj, List.drop_append_of_le_length (by simp; omega)]
  simp
/-- The text with a line more: its lines. -/
theorem one_lines (s line : Ln) (k : Nat) (h : s.getLast? = some 10) (hl : ∀ c ∈ line, c ≠ 10) :
    linesB (((linesB s).take k).flatten ++ (line ++ [10]) ++ ((linesB s).drop k).flatten) = (linesB s).take k ++ (line ++ [10]) :: (linesB s).drop k := by
  have hw := whole_of s h
  have := lines_whole ((linesB s).take k ++ (line ++ [10]) :: (linesB s).drop k) (fun m hm => by
    rcases List.mem_append.1 hm with hm | hm
    · exact hw m (List.mem_of_mem_take hm)
    · rcases List.mem_cons.1 hm with rfl | hm
      · exact ⟨line, rfl, hl⟩
      · exact hw m (List.mem_of_mem_drop hm))
  simpa using this
end Go.Proofs.Ytakolehlaejhfaa
