/- Package regex in plain Lean: what a reader leaves is no longer than what it had. -/
import Derived.Test.YtnbadnmmolagfaaDoorRegPlain
import Derived.Lib.TrimUEq
namespace Go.Proofs.YtnbadnmmolagfaaDoor

theorem nextL_fits (r : Ln) : (nextL r).2 ≤ r.length ∨ r = [] := by
  by_cases h : r = []
  · exact .inr h
  · refine .inl ?_
    unfold nextL
    rw [if_neg h]
    split
    · exact Nat.zero_le _
    · have hl : 0 < r.length := List.length_pos_iff.2 h
      rw [Lib.decodeL_N]
      unfold Lib.decodeN
      repeat' split
      all_goals first | (dsimp only; omega) | omega
theorem take_len {r r1 : Ln} {c : Nat} (h : takeL r = .ok (c, r1)) : r1.length < r.length := by
  unfold takeL at h
  split at h
  · cases h
  · rename_i hz
    injection h with h
    injection h with h1 h2
    rw [← h2, List.length_drop]
    have hr : r ≠ [] := by rintro rfl; exact hz rfl
    have := List.length_pos_iff.2 hr
    omega
theorem want_len {t r r1 : Ln} (h : wantL t r = .ok r1) : r1.length ≤ r.length := by
  unfold wantL at h
  split at h
  · injection h with h
    rw [← h, List.length_drop]
    omega
  · cases h
theorem has_ne {t r : Ln} (h : hasP t r = true) : t.length ≤ r.length := (List.isPrefixOf_iff_prefix.1 (show t.isPrefixOf r = true from h)).length_le
theorem want_lt {t r r1 : Ln} (ht : t ≠ []) (h : wantL t r = .ok r1) : r1.length < r.length := by
  unfold wantL at h
  split at h
  · rename_i hp
    injection h with h
    rw [← h, List.length_drop]
    have := has_ne hp
    have := List.length_pos_iff.2 ht
    omega
  · cases h
theorem skip_len (t r : Ln) : (skipL t r).length ≤ r.length := by
  unfold skipL
  split
  · rw [List.length_drop]; omega
  · omega
theorem dropWhile_le (p : UInt8 → Bool) : ∀ r : Ln, (r.dropWhile p).length ≤ r.length
  | [] => Nat.le_refl _
  | a :: r => by
    have := dropWhile_le p r
    rw [List.dropWhile_cons]
    split
    · rw [List.length_cons]; omega
    · exact Nat.le_refl _
theorem digits_len {r r1 t : Ln} (h : digitsL r = .ok (t, r1)) : r1.length < r.length := by
  unfold digitsL at h
  split at h
  · cases h
  · rename_i hz
    injection h with h
    injection h with h1 h2
    rw [← h2]
    cases r with
    | nil => exact absurd rfl hz
    | cons a r =>
      rw [List.takeWhile_cons] at hz
      rw [List.dropWhile_cons]
      split at hz
      · rename_i ha
        rw [if_pos ha]
        have := dropWhile_le dig8 r
        rw [List.length_cons]; omega
      · exact absurd rfl hz
theorem braces_len {r0 r r1 : Ln} (h : bracesL r0 r = .ok r1) : r1.length ≤ r.length := by
  unfold bracesL at h
  rcases hd : digitsL r with f | ⟨t, r2⟩
  · rw [hd] at h; cases h
  · rw [hd] at h
    have h1 := digits_len hd
    simp only [bind, Except.bind] at h
    split at h
    · split at h
      · rcases hd2 : digitsL (r2.drop 1) with f | ⟨t2, r3⟩
        · rw [hd2] at h; cases h
        · rw [hd2] at h
          have h2 := digits_len hd2
          rw [List.length_drop] at h2
          rcases hw : wantL [125] r3 with f | r4
          · simp only [hw] at h; cases h
          · simp only [hw] at h
            have h3 := want_len hw
            split at h
            · cases h
            · injection h with h
              have := skip_len [63] r4
              rw [← h]; omega
      · rcases hw : wantL [125] (r2.drop 1) with f | r4
        · rw [hw] at h; cases h
        · rw [hw] at h
          have h3 := want_len hw
          rw [List.length_drop] at h3
          injection h with h
          have := skip_len [63] r4
          rw [← h]; omega
    · rcases hw : wantL [125] r2 with f | r4
      · rw [hw] at h; cases h
      · rw [hw] at h
        have h3 := want_len hw
        injection h with h
        have := skip_len [63] r4
        rw [← h]; omega
theorem quant_len {r r1 : Ln} (h : quantL r = .ok r1) : r1.length ≤ r.length := by
  unfold quantL at h
  split at h
  · injection h with h
    have := skip_len [63] (r.drop 1)
    rw [List.length_drop] at this
    rw [← h]; omega
  · split at h
    · have := braces_len h
      rw [List.length_drop] at this
      omega
    · injection h with h
      rw [← h]; omega
theorem nameR_len : ∀ (f : Nat) (b : Bool) (r : Ln), (nameR f b r).length ≤ r.length
  | 0, _, _ => Nat.le_refl _
  | f + 1, b, r => by
    unfold nameR
    split
    · exact Nat.le_refl _
    · have := nameR_len f false (r.drop (nextL r).2)
      rw [List.length_drop] at this
      omega
theorem name_len {r r1 t : Ln} (h : nameL r = .ok (t, r1)) : r1.length < r.length := by
  unfold nameL at h
  simp only [] at h
  split at h
  · cases h
  · rename_i hz
    rcases hw : wantL [62] (nameR r.length true r) with f | r2
    · rw [hw] at h; cases h
    · rw [hw] at h
      have h1 := want_len hw
      have h2 := nameR_len r.length true r
      injection h with h
      injection h with h3 h4
      rw [← h4]; omega
theorem propR_len : ∀ (f : Nat) (r r1 : Ln), propR f r = .ok r1 → r1.length ≤ r.length ∧ peekL r1 = 125
  | 0, r, r1, h => by cases h
  | f + 1, r, r1, h => by
    unfold propR at h
    split at h
    · rename_i hp
      injection h with h
      rw [← h]; exact ⟨Nat.le_refl _, hp⟩
    · rcases ht : takeL r with e | ⟨c, r2⟩
      · rw [ht] at h; cases h
      · rw [ht] at h
        have h1 := take_len ht
        have h2 := propR_len f r2 r1 h
        exact ⟨by omega, h2.2⟩
theorem peek_ne' {r : Ln} (h : peekL r ≠ 0) : r ≠ [] := by rintro rfl; exact h rfl
theorem set_len {u : Bool} {r r1 : Ln} (h : setL u r = .ok (some r1)) : r1.length < r.length := by
  unfold setL at h
  split at h
  · rename_i hc
    injection h with h
    injection h with h
    simp at hc
    have := List.length_pos_iff.2 (peek_ne' (r := r) hc.1)
    rw [← h, List.length_drop]; omega
  · split at h
    · rename_i hc
      have hne : r ≠ [] := by
        rintro rfl
        simp [peekL] at hc
      have := List.length_pos_iff.2 hne
      rcases hw : wantL [123] (r.drop 1) with f | r2
      · rw [hw] at h; cases h
      · rw [hw] at h
        have h1 := want_len hw
        rw [List.length_drop] at h1
        simp only [bind, Except.bind] at h
        rcases hp : propR (r2.length + 1) r2 with f | r3
        · rw [hp] at h; cases h
        · rw [hp] at h
          have h2 := propR_len _ _ _ hp
          simp only [] at h
          split at h
          · injection h with h
            injection h with h
            rw [← h, List.length_drop]; omega
          · cases h
    · injection h with h
      cases h
theorem hexes_len : ∀ (m x v : Nat) (r r1 : Ln), hexesL m x r = .ok (v, r1) → r1.length ≤ r.length
  | 0, x, v, r, r1, h => by
    injection h with h
    injection h with h1 h2
    rw [h2]; exact Nat.le_refl _
  | m + 1, x, v, r, r1, h => by
    unfold hexesL at h
    split at h
    · cases h
    · have := hexes_len m _ v _ r1 h
      rw [List.length_drop] at this
      omega
theorem bracedR_len : ∀ (f x : Nat) (r : Ln), (bracedR f x r).2.length ≤ r.length
  | 0, _, _ => Nat.le_refl _
  | f + 1, x, r => by
    unfold bracedR
    split
    · exact Nat.le_refl _
    · rename_i d hd
      have := bracedR_len f (min (16 * x + d) 1114112) (r.drop 1)
      rw [List.length_drop] at this
      exact Nat.le_trans this (by omega)
theorem braced_len {r r1 : Ln} {v : Nat} (h : bracedL r = .ok (v, r1)) : r1.length ≤ r.length := by
  unfold bracedL at h
  rcases hh : hexesL 1 0 r with f | ⟨x, r2⟩
  · rw [hh] at h; cases h
  · rw [hh] at h
    have h1 := hexes_len _ _ _ _ _ hh
    have h2 := bracedR_len r2.length x r2
    simp only [bind, Except.bind] at h
    split at h
    · cases h
    · injection h with h
      injection h with h3 h4
      rw [← h4, List.length_drop]; omega
theorem escape_len {u : Bool} {r r1 : Ln} {v : Nat} (h : escapeL u r = .ok (v, r1)) : r1.length < r.length := by
  unfold escapeL at h
  rcases ht : takeL r with f | ⟨c, r2⟩
  · rw [ht] at h; cases h
  · rw [ht] at h
    have h0 := take_len ht
    simp only [bind, Except.bind] at h
    split at h
    · split at h
      · injection h with h
        injection h with h1 h2
        rw [← h2, List.length_drop]; omega
      · cases h
    · split at h
      · split at h
        · cases h
        · injection h with h
          injection h with h1 h2
          rw [← h2]; exact h0
      · split at h
        · have := hexes_len _ _ _ _ _ h
          omega
        · split at h
          · split at h
            · have := braced_len h
              rw [List.length_drop] at this
              omega
            · have := hexes_len _ _ _ _ _ h
              omega
          · split at h
            · injection h with h
              injection h with h1 h2
              rw [← h2]; exact h0
            · unfold idleL at h
              split at h
              · cases h
              · injection h with h
                injection h with h1 h2
                rw [← h2]; exact h0
theorem point_len {u : Bool} {r r1 : Ln} {p : Pt} (h : pointL u r = .ok (p, r1)) : r1.length < r.length := by
  unfold pointL at h
  split at h
  · rename_i hp
    have hl : 1 ≤ r.length := has_ne hp
    split at h
    · injection h with h
      injection h with h1 h2
      rw [← h2, List.length_drop]; omega
    · split at h
      · injection h with h
        injection h with h1 h2
        rw [← h2, List.length_drop]; omega
      · rcases hs : setL u (r.drop 1) with f | o
        · rw [hs] at h; cases h
        · rw [hs] at h
          cases o with
          | some r2 =>
            have h3 := set_len hs
            rw [List.length_drop] at h3
            injection h with h
            injection h with h1 h2
            rw [← h2]; omega
          | none =>
            simp only [bind, Except.bind] at h
            rcases he : escapeL u (r.drop 1) with f | ⟨c, r2⟩
            · rw [he] at h; cases h
            · rw [he] at h
              have h3 := escape_len he
              rw [List.length_drop] at h3
              injection h with h
              injection h with h1 h2
              rw [← h2]; dsimp only; omega
  · rcases ht : takeL r with f | ⟨c, r2⟩
    · rw [ht] at h; cases h
    · rw [ht] at h
      injection h with h
      injection h with h1 h2
      rw [← h2]
      exact take_len ht
def some1 (h : Option Pt) : Nat := if h.isSome then 1 else 0
theorem ptNext_len {u : Bool} {h h1 : Option Pt} {r r1 : Ln} {p : Pt} (k : ptNext u h r = .ok (p, h1, r1)) : 2 * r1.length + some1 h1 < 2 * r.length + some1 h ∧ r1.length ≤ r.length := by
  unfold ptNext at k
  cases h with
  | some q =>
    injection k with k
    injection k with k1 k2
    injection k2 with k2 k3
    rw [← k2, ← k3]
    simp [some1]
  | none =>
    rcases hp : pointL u r with f | ⟨q, r2⟩
    · rw [hp] at k; cases k
    · rw [hp] at k
      have hl := point_len hp
      simp only [bind, Except.bind] at k
      split at k
      all_goals
        injection k with k
        injection k with k1 k2
        injection k2 with k2 k3
        rw [← k2, ← k3]
        simp [some1]
        omega
theorem classR_len (u : Bool) : ∀ (f : Nat) (h : Option Pt) (r r1 : Ln), classR u f h r = .ok r1 → r1.length ≤ r.length
  | 0, h, r, r1, k => by cases k
  | f + 1, h, r, r1, k => by
    unfold classR at k
    split at k
    · injection k with k
      rw [← k, List.length_drop]; omega
    · split at k
      · cases k
      · rename_i a h1 r2 hn
        have hl := (ptNext_len hn).2
        split at k
        · have := classR_len u f h1 r2 r1 k
          omega
        · split at k
          · cases k
          · rename_i b h2 r3 hn2
            have hl2 := (ptNext_len hn2).2
            rw [List.length_drop] at hl2
            split at k
            · cases k
            · have := classR_len u f h2 r3 r1 k
              omega
theorem class_len {u : Bool} {r r1 : Ln} (h : classL u r = .ok r1) : r1.length ≤ r.length := by
  have h1 := classR_len u _ _ _ _ h
  have h2 := skip_len [94] r
  omega
end Go.Proofs.YtnbadnmmolagfaaDoor
