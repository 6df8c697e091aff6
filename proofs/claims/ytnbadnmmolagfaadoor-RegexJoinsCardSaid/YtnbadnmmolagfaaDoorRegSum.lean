/- Package regex in plain Lean: what a whole reader has come to stays small. -/
import Derived.Test.YtnbadnmmolagfaaDoorRegLen
namespace Go.Proofs.YtnbadnmmolagfaaDoor

def St.sum (s : St) : Nat := s.g + s.nu.length + s.nd.length + s.r.length
theorem has_drop {t r : Ln} (h : hasP t r = true) : (r.drop t.length).length + t.length = r.length := by
  have := has_ne h
  rw [List.length_drop]
  omega
/-- What a reader of patterns keeps. -/
def Keeps (pat : St → Except Flt St) (k : Nat) : Prop := ∀ s s1, s.r.length < k → pat s = .ok s1 → s1.r.length ≤ s.r.length ∧ s1.sum ≤ s.sum
theorem group_keeps {pat : St → Except Flt St} {k : Nat} (hp : Keeps pat k) {s s1 : St} (hk : s.r.length < k) (h : groupS pat s = .ok s1) : s1.r.length ≤ s.r.length ∧ s1.sum ≤ s.sum := by
  unfold groupS at h
  rcases hq : pat s with f | s2
  · rw [hq] at h; cases h
  · rw [hq] at h
    have h1 := hp s s2 hk hq
    simp only [bind, Except.bind] at h
    rcases hw : wantL [41] s2.r with f | r
    · rw [hw] at h; cases h
    · rw [hw] at h
      have h2 := want_len hw
      injection h with h
      rw [← h]
      unfold St.sum at *
      dsimp only
      omega
theorem escaped_keeps {u : Bool} {s s1 : St} (hne : s.r ≠ []) (h : escapedS u s = .ok s1) : s1.r.length < s.r.length ∧ s1.sum ≤ s.sum := by
  have hl := List.length_pos_iff.2 hne
  unfold escapedS at h
  simp only [] at h
  split at h
  · rcases hd : digitsL (s.r.drop 1) with f | ⟨t, r2⟩
    · rw [hd] at h; cases h
    · rw [hd] at h
      have h1 := digits_len hd
      rw [List.length_drop] at h1
      injection h with h
      rw [← h]
      unfold St.sum
      dsimp only
      rw [List.length_append, List.length_singleton]
      omega
  · split at h
    · rcases hw : wantL [60] ((s.r.drop 1).drop 1) with f | r2
      · rw [hw] at h; cases h
      · rw [hw] at h
        have h1 := want_len hw
        rw [List.length_drop, List.length_drop] at h1
        simp only [bind, Except.bind] at h
        rcases hn : nameL r2 with f | ⟨t, r3⟩
        · rw [hn] at h; cases h
        · rw [hn] at h
          have h2 := name_len hn
          injection h with h
          rw [← h]
          unfold St.sum
          dsimp only
          rw [List.length_append, List.length_singleton]
          omega
    · rcases hs : setL u (s.r.drop 1) with f | o
      · rw [hs] at h; cases h
      · rw [hs] at h
        cases o with
        | some r2 =>
          have h3 := set_len hs
          rw [List.length_drop] at h3
          injection h with h
          rw [← h]
          unfold St.sum
          dsimp only
          omega
        | none =>
          simp only [bind, Except.bind] at h
          rcases he : escapeL u (s.r.drop 1) with f | ⟨c, r2⟩
          · rw [he] at h; cases h
          · rw [he] at h
            have h3 := escape_len he
            rw [List.length_drop] at h3
            injection h with h
            rw [← h]
            unfold St.sum
            dsimp only
            omega
theorem atom_keeps {u : Bool} {pat : St → Except Flt St} {k : Nat} (hp : Keeps pat k) {s s1 : St} (hk : s.r.length ≤ k) (hne : s.r ≠ []) (h : atomS u pat s = .ok s1) : s1.r.length < s.r.length ∧ s1.sum ≤ s.sum := by
  have hl := List.length_pos_iff.2 hne
  unfold atomS at h
  split at h
  · rename_i h0
    have h0 : (s.r.drop 3).length + 3 = s.r.length := has_drop h0
    have := group_keeps hp (s := { s with r := s.r.drop 3 }) (by dsimp only; omega) h
    unfold St.sum at *
    dsimp only at this
    omega
  · split at h
    · rename_i h0
      have h0 : (s.r.drop 3).length + 3 = s.r.length := has_drop h0
      rcases hn : nameL (s.r.drop 3) with f | ⟨t, r1⟩
      · rw [hn] at h; cases h
      · rw [hn] at h
        have h1 := name_len hn
        simp only [bind, Except.bind] at h
        split at h
        · cases h
        · have := group_keeps hp (s := { s with r := r1, g := s.g + 1, nm := s.nm ++ [(t, s.g + 1)] }) (by dsimp only; omega) h
          unfold St.sum at *
          dsimp only at this
          omega
    · split at h
      · rename_i h0
        have h0 : (s.r.drop 1).length + 1 = s.r.length := has_drop h0
        have := group_keeps hp (s := { s with r := s.r.drop 1, g := s.g + 1 }) (by dsimp only; omega) h
        unfold St.sum at *
        dsimp only at this
        omega
      · split at h
        · rename_i h0
          have h0 : (s.r.drop 1).length + 1 = s.r.length := has_drop h0
          rcases hc : classL u (s.r.drop 1) with f | r1
          · rw [hc] at h; cases h
          · rw [hc] at h
            have h1 := class_len hc
            injection h with h
            rw [← h]
            unfold St.sum
            dsimp only
            omega
        · split at h
          · exact escaped_keeps hne h
          · split at h
            · cases h
            · rcases ht : takeL s.r with f | ⟨c, r1⟩
              · rw [ht] at h; cases h
              · rw [ht] at h
                have h1 := take_len ht
                injection h with h
                rw [← h]
                unfold St.sum
                dsimp only
                omega
theorem term_keeps {u : Bool} {pat : St → Except Flt St} {k : Nat} (hp : Keeps pat k) {s s1 : St} (hk : s.r.length ≤ k) (hne : s.r ≠ []) (h : termS u pat s = .ok s1) : s1.r.length < s.r.length ∧ s1.sum ≤ s.sum := by
  have hl := List.length_pos_iff.2 hne
  have lone : ∀ n, 0 < n → (Except.ok { s with r := s.r.drop n } : Except Flt St) = .ok s1 → s1.r.length < s.r.length ∧ s1.sum ≤ s.sum := by
    intro n hn h
    injection h with h
    rw [← h]
    unfold St.sum
    dsimp only
    rw [List.length_drop]
    omega
  have grp : ∀ n, 0 < n → groupS pat { s with r := s.r.drop n } = .ok s1 → s1.r.length < s.r.length ∧ s1.sum ≤ s.sum := by
    intro n hn h
    have := group_keeps hp (s := { s with r := s.r.drop n }) (by dsimp only; rw [List.length_drop]; omega) h
    unfold St.sum at *
    dsimp only at this
    rw [List.length_drop] at this
    omega
  unfold termS at h
  split at h
  · exact lone 1 (by decide) h
  · split at h
    · exact lone 1 (by decide) h
    · split at h
      · exact lone 2 (by decide) h
      · split at h
        · exact lone 2 (by decide) h
        · split at h
          · exact grp 3 (by decide) h
          · split at h
            · exact grp 3 (by decide) h
            · split at h
              · exact grp 4 (by decide) h
              · split at h
                · exact grp 4 (by decide) h
                · rcases ha : atomS u pat s with f | s2
                  · rw [ha] at h; cases h
                  · rw [ha] at h
                    have h1 := atom_keeps hp hk hne ha
                    simp only [bind, Except.bind] at h
                    rcases hq : quantL s2.r with f | r
                    · rw [hq] at h; cases h
                    · rw [hq] at h
                      have h2 := quant_len hq
                      injection h with h
                      rw [← h]
                      unfold St.sum at *
                      dsimp only
                      omega
theorem pat_keeps (u : Bool) : ∀ k, Keeps (patF u k) k
  | 0 => fun s s1 hk h => by omega
  | k + 1 => fun s s1 hk h => by
    have ih := pat_keeps u k
    unfold patF at h
    split at h
    · injection h with h
      rw [← h]
      exact ⟨Nat.le_refl _, Nat.le_refl _⟩
    · rename_i hne
      have hl := List.length_pos_iff.2 hne
      split at h
      · have := ih { s with r := s.r.drop 1 } s1 (by dsimp only; rw [List.length_drop]; omega) h
        unfold St.sum at *
        dsimp only at this
        rw [List.length_drop] at this
        omega
      · split at h
        · injection h with h
          rw [← h]
          exact ⟨Nat.le_refl _, Nat.le_refl _⟩
        · rcases ht : termS u (patF u k) s with f | s2
          · rw [ht] at h; cases h
          · rw [ht] at h
            have h1 := term_keeps ih (by omega) hne ht
            have h2 := ih s2 s1 (by omega) h
            omega
end Go.Proofs.YtnbadnmmolagfaaDoor
