/- Package regex in plain Lean: what RegexJoins says of the patterns' reader. -/
import Derived.Test.YtnbadnmmolagfaaDoorRegJoinQ
namespace Go.Proofs.YtnbadnmmolagfaaDoor
set_option linter.unusedVariables false
set_option linter.unusedSimpArgs false
set_option maxRecDepth 100000

/-- A text whose reader comes to its end, whatever stands behind. -/
def Whole (u : Bool) (l : Ln) : Prop := ∃ d, ∀ t, Stp t → ∀ g2 m, (l ++ t).length < m → ∃ m', t.length < m' ∧ patF u m (pl (l ++ t) g2) = patF u m' (pl t (g2 + d))
theorem whole_of {u : Bool} {l : Ln} (h : bodyL u l = .ok ()) (hpl : plainB l = true) : Whole u l := by
  unfold bodyL at h
  obtain ⟨s, h1, h2⟩ := bind_ok h
  obtain ⟨d, k1, k2, k3, k4⟩ := pat_loc u _ l 0 s hpl h1
  split at h2
  · cases h2
  · rename_i hr
    have hr' : s.r = [] := by simpa using hr
    rw [hr'] at k4
    exact ⟨d, k4⟩
theorem pat_nil {u : Bool} {m g : Nat} : patF u (m + 1) (pl [] g) = .ok (pl [] g) := by
  unfold patF; simp
theorem body_of {u : Bool} {l : Ln} {d : Nat} (h : patF u (l.length + 1) (pl l 0) = .ok (pl [] d)) : bodyL u l = .ok () := by
  unfold bodyL
  rw [h, ok_bind]
  simp [settleF]
theorem whole_end {u : Bool} {l : Ln} (h : Whole u l) (g m : Nat) (hm : l.length < m) : ∃ d, patF u m (pl l g) = .ok (pl [] d) := by
  obtain ⟨d, h⟩ := h
  obtain ⟨m', hm', hq⟩ := h [] (.inl rfl) g m (by simpa using hm)
  obtain ⟨m1, rfl⟩ : ∃ m1, m' = m1 + 1 := ⟨m' - 1, by simp at hm'; omega⟩
  rw [List.append_nil, pat_nil] at hq
  exact ⟨_, hq⟩
theorem join_bar {u : Bool} {a b : Ln} (ha : Whole u a) (hb : Whole u b) : bodyL u (a ++ 124 :: b) = .ok () := by
  obtain ⟨d, ha⟩ := ha
  obtain ⟨m', hm', hq⟩ := ha (124 :: b) (.inr ⟨b, .inl rfl⟩) 0 _ (Nat.lt_succ_self _)
  obtain ⟨m1, rfl⟩ : ∃ m1, m' = m1 + 1 := ⟨m' - 1, by omega⟩
  obtain ⟨d2, h2⟩ := whole_end hb (0 + d) m1 (by simp at hm'; omega)
  refine body_of (d := d2) ?_
  rw [hq]
  unfold patF
  simp only []
  rw [if_neg (by simp), if_pos (by rfl)]
  exact h2
theorem group_run {u : Bool} {a : Ln} (ha : Whole u a) (t : Ln) (g m : Nat) (hm : (a ++ 41 :: t).length < m) : ∃ d, groupS (patF u m) (pl (a ++ 41 :: t) g) = .ok (pl t d) := by
  obtain ⟨d, ha⟩ := ha
  obtain ⟨m', hm', hq⟩ := ha (41 :: t) (.inr ⟨t, .inr rfl⟩) g m hm
  obtain ⟨m1, rfl⟩ : ∃ m1, m' = m1 + 1 := ⟨m' - 1, by omega⟩
  refine ⟨g + d, ?_⟩
  unfold groupS
  rw [hq, pat_41 (by rfl), ok_bind]
  rfl
theorem hasP_ne {a c : UInt8} (w r : Ln) (h : (a == c) = false) : hasP (a :: w) (c :: r) = false := by
  show (a == c && _) = false
  rw [h]; rfl
theorem hasP_eq (a : UInt8) (w r : Ln) : hasP (a :: w) (a :: r) = hasP w r := by
  show (a == a && _) = _
  simp; rfl
theorem first_q {u : Bool} {f g : Nat} {q : Ln} {s : St} : patF u f (pl (63 :: q) g) ≠ .ok s := by
  cases f with
  | zero => intro h; cases h
  | succ f =>
    intro h
    unfold patF at h
    simp only [] at h
    rw [if_neg (by simp), if_neg (by show ¬ (63 = 124); omega), if_neg (by show ¬ (63 = 41); omega)] at h
    have ht : termS u (patF u f) (pl (63 :: q) g) = .error (form (63 :: q)) := by
      unfold termS
      simp only []
      rw [hasP_ne _ _ (by decide), hasP_ne _ _ (by decide), hasP_ne _ _ (by decide), hasP_ne _ _ (by decide), hasP_ne _ _ (by decide), hasP_ne _ _ (by decide), hasP_ne _ _ (by decide), hasP_ne _ _ (by decide)]
      simp only [Bool.false_eq_true, if_false]
      have : atomS u (patF u f) (pl (63 :: q) g) = .error (form (63 :: q)) := by
        unfold atomS
        simp only []
        rw [hasP_ne _ _ (by decide), hasP_ne _ _ (by decide), hasP_ne _ _ (by decide), hasP_ne _ _ (by decide)]
        simp only [Bool.false_eq_true, if_false]
        rw [if_neg (by show ¬ (63 = 92); omega), if_pos (by rfl)]
      rw [this]
      rfl
    rw [ht] at h
    cases h
theorem not_q {u : Bool} {a : Ln} (ha : Whole u a) (w t : Ln) : hasP (63 :: w) (a ++ 41 :: t) = false := by
  cases a with
  | nil => exact hasP_ne _ _ (by decide)
  | cons c a =>
    by_cases hc : c = 63
    · subst hc
      obtain ⟨d, h⟩ := whole_end ha 0 _ (Nat.lt_succ_self _)
      exact absurd h first_q
    · exact hasP_ne _ _ (by simpa using Ne.symm hc)
theorem pat_go {u : Bool} {m g : Nat} {c : UInt8} {r : Ln} (h1 : c.toNat ≠ 124) (h2 : c.toNat ≠ 41) {s : St} (ht : termS u (patF u m) (pl (c :: r) g) = .ok s) : patF u (m + 1) (pl (c :: r) g) = patF u m s := by
  conv => lhs; unfold patF
  simp only []
  rw [if_neg (by simp), if_neg (show ¬ peekL (c :: r) = 124 from h1), if_neg (show ¬ peekL (c :: r) = 41 from h2), ht]
theorem join_group {u : Bool} {a : Ln} (ha : Whole u a) : bodyL u (40 :: (a ++ [41, 42])) = .ok () := by
  obtain ⟨d, hg⟩ := group_run ha [42] (0 + 1) (40 :: (a ++ [41, 42])).length (by simp)
  have ht : termS u (patF u (40 :: (a ++ [41, 42])).length) (pl (40 :: (a ++ [41, 42])) 0) = .ok (pl [] d) := by
    unfold termS
    simp only []
    rw [hasP_ne _ _ (by decide), hasP_ne _ _ (by decide), hasP_ne _ _ (by decide), hasP_ne _ _ (by decide), hasP_eq, not_q ha, hasP_eq, not_q ha, hasP_eq, not_q ha, hasP_eq, not_q ha]
    simp only [Bool.false_eq_true, if_false]
    have : atomS u (patF u (40 :: (a ++ [41, 42])).length) (pl (40 :: (a ++ [41, 42])) 0) = .ok (pl [42] d) := by
      unfold atomS
      simp only []
      rw [hasP_eq, not_q ha, hasP_eq, not_q ha]
      simp only [Bool.false_eq_true, if_false]
      rw [if_pos (by rfl)]
      exact hg
    rw [this]
    rfl
  refine body_of (d := d) ?_
  rw [pat_go (by decide) (by decide) ht]
  exact pat_nil
theorem join_ahead {u : Bool} {a b : Ln} (ha : Whole u a) (hb : Whole u b) : bodyL u (40 :: 63 :: 61 :: (a ++ 41 :: (40 :: 63 :: 58 :: (b ++ [41, 63])))) = .ok () := by
  obtain ⟨L, hL⟩ : ∃ L, L = (40 :: 63 :: 61 :: (a ++ 41 :: (40 :: 63 :: 58 :: (b ++ [41, 63])))).length := ⟨_, rfl⟩
  have hL1 : (a ++ 41 :: (40 :: 63 :: 58 :: (b ++ [41, 63]))).length < L := by rw [hL]; simp; omega
  obtain ⟨d, hg⟩ := group_run ha (40 :: 63 :: 58 :: (b ++ [41, 63])) 0 L hL1
  have ht : termS u (patF u L) (pl (40 :: 63 :: 61 :: (a ++ 41 :: (40 :: 63 :: 58 :: (b ++ [41, 63])))) 0) = .ok (pl (40 :: 63 :: 58 :: (b ++ [41, 63])) d) := by
    unfold termS
    simp only []
    rw [hasP_ne _ _ (by decide), hasP_ne _ _ (by decide), hasP_ne _ _ (by decide), hasP_ne _ _ (by decide)]
    simp only [Bool.false_eq_true, if_false]
    rw [if_pos (by rfl)]
    exact hg
  obtain ⟨L', rfl⟩ : ∃ L', L = L' + 1 := ⟨L - 1, by omega⟩
  obtain ⟨d2, hg2⟩ := group_run hb [63] d L' (by simp at hL1 ⊢; omega)
  have ht2 : termS u (patF u L') (pl (40 :: 63 :: 58 :: (b ++ [41, 63])) d) = .ok (pl [] d2) := by
    unfold termS
    simp only []
    rw [hasP_ne _ _ (by decide), hasP_ne _ _ (by decide), hasP_ne _ _ (by decide), hasP_ne _ _ (by decide)]
    rw [show hasP [40, 63, 61] (40 :: 63 :: 58 :: (b ++ [41, 63])) = false from by rw [hasP_eq, hasP_eq]; exact hasP_ne _ _ (by decide), show hasP [40, 63, 33] (40 :: 63 :: 58 :: (b ++ [41, 63])) = false from by rw [hasP_eq, hasP_eq]; exact hasP_ne _ _ (by decide),
      show hasP [40, 63, 60, 61] (40 :: 63 :: 58 :: (b ++ [41, 63])) = false from by rw [hasP_eq, hasP_eq]; exact hasP_ne _ _ (by decide), show hasP [40, 63, 60, 33] (40 :: 63 :: 58 :: (b ++ [41, 63])) = false from by rw [hasP_eq, hasP_eq]; exact hasP_ne _ _ (by decide)]
    simp only [Bool.false_eq_true, if_false]
    have : atomS u (patF u L') (pl (40 :: 63 :: 58 :: (b ++ [41, 63])) d) = .ok (pl [63] d2) := by
      unfold atomS
      simp only []
      rw [if_pos (by rfl)]
      exact hg2
    rw [this]
    rfl
  refine body_of (d := d2) ?_
  rw [← hL, pat_go (by decide) (by decide) ht, pat_go (by decide) (by decide) ht2]
  have : 0 < L' := by simp at hL1; omega
  obtain ⟨L2, rfl⟩ : ∃ L2, L' = L2 + 1 := ⟨L' - 1, by omega⟩
  exact pat_nil
end Go.Proofs.YtnbadnmmolagfaaDoor
