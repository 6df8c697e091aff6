/- A number's digits in plain Lean. -/
namespace Go.Proofs.YtnbadnmmolagfaaDoor

/-- The digits of n ahead of what is there; at least one. -/
def decLoop : Nat → Nat → List UInt8 → List UInt8
  | 0, _, acc => acc
  | f + 1, n, acc => if 0 < n ∨ acc = [] then decLoop f (n / 10) (UInt8.ofNat (48 + n % 10) :: acc) else acc
def digs (n : Nat) : List UInt8 := decLoop 20 n []
def decB (a : Int) : List UInt8 := (if a < 0 then [45] else []) ++ digs a.natAbs

theorem decLoop_step (f n : Nat) (acc : List UInt8) (h : 0 < n ∨ acc = []) : decLoop (f + 1) n acc = decLoop f (n / 10) (UInt8.ofNat (48 + n % 10) :: acc) := by
  show (if _ then _ else _) = _
  rw [if_pos h]
theorem decLoop_end (f : Nat) (acc : List UInt8) (h : acc ≠ []) : decLoop f 0 acc = acc := by
  cases f with
  | zero => rfl
  | succ f =>
    show (if _ then _ else _) = _
    rw [if_neg (by simp [h])]
theorem decLoop_tail : ∀ (f n : Nat) (acc : List UInt8), ∃ pre, decLoop f n acc = pre ++ acc
  | 0, _, acc => ⟨[], rfl⟩
  | f + 1, n, acc => by
    by_cases h : 0 < n ∨ acc = []
    · rw [decLoop_step f n acc h]
      obtain ⟨pre, e⟩ := decLoop_tail f (n / 10) (UInt8.ofNat (48 + n % 10) :: acc)
      exact ⟨pre ++ [UInt8.ofNat (48 + n % 10)], by rw [e]; simp⟩
    · exact ⟨[], by show (if _ then _ else _) = _; rw [if_neg h]; rfl⟩
/-- The last letter of a number's text is a digit. -/
theorem decB_last (a : Int) : ∃ pre, ∃ d : Nat, d < 10 ∧ decB a = pre ++ [UInt8.ofNat (48 + d)] := by
  unfold decB digs
  rw [decLoop_step 19 _ [] (Or.inr rfl)]
  obtain ⟨pre, e⟩ := decLoop_tail 19 (a.natAbs / 10) [UInt8.ofNat (48 + a.natAbs % 10)]
  exact ⟨_ ++ pre, a.natAbs % 10, Nat.mod_lt _ (by decide), by rw [e, List.append_assoc]⟩
theorem pow10 : 18446744073709551616 ≤ 10 ^ 20 := by decide
end Go.Proofs.YtnbadnmmolagfaaDoor
