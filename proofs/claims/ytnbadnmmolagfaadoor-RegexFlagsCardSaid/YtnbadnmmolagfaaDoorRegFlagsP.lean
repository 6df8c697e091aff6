/- Package regex in plain Lean: which flags may be. -/
import Derived.Test.YtnbadnmmolagfaaDoorRegAwake
namespace Go.Proofs.YtnbadnmmolagfaaDoor
set_option linter.unusedVariables false
set_option linter.unusedSimpArgs false
set_option maxRecDepth 100000

def lettersL : Ln := [100, 103, 105, 109, 115, 117, 121, 118]
/-- What the loop over the flags has come to: the flags, and whether they are fine. -/
def fineStep (s : Ln) (fine : Bool) (c : UInt8) : Bool := fine && c != 118 && s.all (· != c)
def FineAt (s : Ln) (fine : Bool) : Prop :=
  (∀ c ∈ s, c ∈ lettersL) ∧ match flagsN s 0 with
  | none => fine = false
  | some t => fine = true ∧ t < 128 ∧ ∀ c ∈ lettersL, 0 ≤ flagK c → (t / 2 ^ (flagK c).toNat % 2 = 1 ↔ c ∈ s)
theorem fine_start : FineAt [] true := by
  refine ⟨(by intro c hc; cases hc), ?_⟩
  show true = true ∧ 0 < 128 ∧ _
  refine ⟨rfl, by decide, fun c hc h0 => ?_⟩
  simp
theorem flags_app : ∀ (s : Ln) (c : UInt8) (t : Nat), flagsN (s ++ [c]) t = (flagsN s t).bind (fun t' => flagsN [c] t')
  | [], c, t => rfl
  | a :: s, c, t => by
    rw [List.cons_append]
    unfold flagsN
    split
    · rfl
    · split
      · rfl
      · rw [flags_app s c]
        rfl
theorem letter7_all : lettersL.all (fun c => (flagK c < 0) == (c == 118) && decide (flagK c < 7)) = true := by decide +kernel
theorem letter_is {c : UInt8} (h : c ∈ lettersL) : (flagK c < 0 ↔ c = 118) ∧ flagK c < 7 := by
  have h1 := List.all_eq_true.1 letter7_all c h
  simp only [Bool.and_eq_true, decide_eq_true_eq] at h1
  refine ⟨?_, h1.2⟩
  have h2 := Bool.eq_iff_iff.1 (eq_of_beq h1.1)
  simpa using h2
theorem letter_inj_all : lettersL.all (fun c => lettersL.all fun d => decide (flagK c < 0) || decide (flagK c ≠ flagK d) || c == d) = true := by decide +kernel
theorem letter_inj {c d : UInt8} (hc : c ∈ lettersL) (hd : d ∈ lettersL) (h0 : 0 ≤ flagK c) (h : flagK c = flagK d) : c = d := by
  have h1 := List.all_eq_true.1 (List.all_eq_true.1 letter_inj_all c hc) d hd
  simp only [Bool.or_eq_true, decide_eq_true_eq, beq_iff_eq] at h1
  rcases h1 with (h1 | h1) | h1
  · omega
  · exact absurd h h1
  · exact h1
theorem bits_all : (List.range 128).all (fun t => (List.range 7).all fun k => (List.range 7).all fun j => t / 2 ^ k % 2 == 1 || ((t + 2 ^ k) / 2 ^ j % 2 == if j = k then 1 else t / 2 ^ j % 2)) = true := by decide +kernel
theorem bits_is {t k j : Nat} (ht : t < 128) (hk : k < 7) (hj : j < 7) (h : t / 2 ^ k % 2 ≠ 1) : (t + 2 ^ k) / 2 ^ j % 2 = if j = k then 1 else t / 2 ^ j % 2 := by
  have h1 := List.all_eq_true.1 (List.all_eq_true.1 (List.all_eq_true.1 bits_all t (List.mem_range.2 ht)) k (List.mem_range.2 hk)) j (List.mem_range.2 hj)
  simp only [Bool.or_eq_true, beq_iff_eq] at h1
  rcases h1 with h1 | h1
  · exact absurd h1 h
  · exact h1
theorem all_ne {s : Ln} {c : UInt8} : s.all (· != c) = decide (c ∉ s) := by
  rw [Bool.eq_iff_iff]
  simp only [List.all_eq_true, bne_iff_ne, ne_eq, decide_eq_true_eq]
  exact ⟨fun h hc => h c hc rfl, fun h x hx he => h (he ▸ hx)⟩
theorem fine_next {s : Ln} {fine : Bool} {c : UInt8} (h : FineAt s fine) (hc : c ∈ lettersL) : FineAt (s ++ [c]) (fineStep s fine c) := by
  obtain ⟨hs, h⟩ := h
  have hs' : ∀ d ∈ s ++ [c], d ∈ lettersL := by
    intro d hd
    rcases List.mem_append.1 hd with hd | hd
    · exact hs d hd
    · rw [List.mem_singleton.1 hd]; exact hc
  refine ⟨hs', ?_⟩
  rw [flags_app]
  unfold fineStep
  rw [all_ne]
  cases hf : flagsN s 0 with
  | none =>
    rw [hf] at h
    simp only [] at h
    subst h
    simp
  | some t =>
    rw [hf] at h
    obtain ⟨rfl, ht, hb⟩ := h
    obtain ⟨k1, k2⟩ := letter_is hc
    simp only [Option.bind_some]
    unfold flagsN
    by_cases hn : flagK c < 0
    · rw [if_pos hn]
      simp [k1.1 hn]
    · rw [if_neg hn]
      have hk7 : (flagK c).toNat < 7 := by omega
      have h118 : (c != 118) = true := by
        have : c ≠ 118 := fun he => hn (k1.2 he)
        simpa using this
      by_cases hm : c ∈ s
      · rw [if_pos ((hb c hc (by omega)).2 hm)]
        simp [hm]
      · have hbit : t / 2 ^ (flagK c).toNat % 2 ≠ 1 := fun he => hm ((hb c hc (by omega)).1 he)
        rw [if_neg hbit]
        unfold flagsN
        simp only []
        refine ⟨by simp [h118, hm], small_bit ht hk7 hbit, fun d hd h0 => ?_⟩
        have kd := (letter_is hd).2
        rw [bits_is ht hk7 (by omega) hbit]
        by_cases hdc : (flagK d).toNat = (flagK c).toNat
        · have : d = c := letter_inj hd hc h0 (by omega)
          rw [if_pos hdc, this]
          simp
        · rw [if_neg hdc, hb d hd h0]
          have : d ≠ c := fun he => hdc (by rw [he])
          simp [this]
theorem a_body (u : Bool) : bodyL u [97] = .ok () := by cases u <;> kernel_rfl
theorem fine_check {s : Ln} {fine : Bool} (h : FineAt s fine) : checkN [97] s = if fine then (0, 0) else (0, 401) := by
  obtain ⟨_, h⟩ := h
  unfold checkN
  cases hf : flagsN s 0 with
  | none =>
    rw [hf] at h
    simp only [] at h
    subst h
    rfl
  | some t =>
    rw [hf] at h
    obtain ⟨rfl, _, _⟩ := h
    simp only []
    rw [a_body]
    rfl
end Go.Proofs.YtnbadnmmolagfaaDoor
