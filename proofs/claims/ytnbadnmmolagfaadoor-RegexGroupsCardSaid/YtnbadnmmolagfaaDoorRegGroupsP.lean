/- The law RegexGroups (platenlaw4) holds of the program. Conditions: the library's tables unicode/utf8.first and acceptRanges read as their initialisers lay them. -/
import Derived.Test.YtnbadnmmolagfaaDoorRegCard
import Derived.Test.YtnbadnmmolagfaaDoorDecimal
namespace Go.Proofs.YtnbadnmmolagfaaDoor
open Go.RowKit Go.WideShapes Go.ChangeShapes Go.ChangeAt
set_option maxRecDepth 100000
set_option linter.unusedVariables false
set_option linter.unusedSimpArgs false

theorem and_smallG (x : Int) (m : Nat) (hm : m ≤ 31) : ∃ n : Nat, n ≤ m ∧ bits .and .i64 x (m : Int) = (n : Int) := by
  have hle : (BitVec.ofInt 64 x).toNat &&& m ≤ m := Nat.and_le_right
  refine ⟨(BitVec.ofInt 64 x).toNat &&& m, hle, ?_⟩
  have hmm : m % 2 ^ 64 = m := Nat.mod_eq_of_lt (by omega)
  have e : (BitVec.ofInt 64 x &&& BitVec.ofNat 64 m).toNat = (BitVec.ofInt 64 x).toNat &&& m := by rw [BitVec.toNat_and, BitVec.toNat_ofNat, hmm]
  have h0 : bits .and .i64 x (m : Int) = IntKind.i64.wrap (((BitVec.ofInt 64 x) &&& (BitVec.ofInt 64 (m : Int))).toNat : Int) := rfl
  rw [h0, BitVec.ofInt_natCast, e, IntKind.wrap_i64]
  omega
def groupL (k n : Nat) : Ln := 92 :: (decB ((1 + n : Nat) : Int) ++ (List.replicate k ([40, 97, 41] : Ln)).flatten)
def groupRow (k : Nat) : Bool := (List.range 32).all fun n => checkN (groupL k n) [] == if 1 + n ≤ k then (0, 0) else (0, 402)
theorem groups_0 : groupRow 0 = true := by decide +kernel
theorem groups_1 : groupRow 1 = true := by decide +kernel
theorem groups_2 : groupRow 2 = true := by decide +kernel
theorem groups_3 : groupRow 3 = true := by decide +kernel
theorem groups_4 : groupRow 4 = true := by decide +kernel
theorem groups_5 : groupRow 5 = true := by decide +kernel
theorem groups_6 : groupRow 6 = true := by decide +kernel
theorem groups_7 : groupRow 7 = true := by decide +kernel
theorem groups_8 : groupRow 8 = true := by decide +kernel
theorem groups_9 : groupRow 9 = true := by decide +kernel
theorem groups_10 : groupRow 10 = true := by decide +kernel
theorem groups_11 : groupRow 11 = true := by decide +kernel
theorem groups_12 : groupRow 12 = true := by decide +kernel
theorem groups_13 : groupRow 13 = true := by decide +kernel
theorem groups_14 : groupRow 14 = true := by decide +kernel
theorem groups_15 : groupRow 15 = true := by decide +kernel
theorem groups_16 : groupRow 16 = true := by decide +kernel
theorem groups_17 : groupRow 17 = true := by decide +kernel
theorem groups_18 : groupRow 18 = true := by decide +kernel
theorem groups_19 : groupRow 19 = true := by decide +kernel
theorem groups_20 : groupRow 20 = true := by decide +kernel
theorem groups_21 : groupRow 21 = true := by decide +kernel
theorem groups_22 : groupRow 22 = true := by decide +kernel
theorem groups_23 : groupRow 23 = true := by decide +kernel
theorem groups_24 : groupRow 24 = true := by decide +kernel
theorem groups_25 : groupRow 25 = true := by decide +kernel
theorem groups_26 : groupRow 26 = true := by decide +kernel
theorem groups_27 : groupRow 27 = true := by decide +kernel
theorem groups_28 : groupRow 28 = true := by decide +kernel
theorem groups_29 : groupRow 29 = true := by decide +kernel
theorem groups_30 : groupRow 30 = true := by decide +kernel
theorem groups_31 : groupRow 31 = true := by decide +kernel
theorem groups_is {k n : Nat} (hk : k ≤ 31) (hn : n ≤ 31) : checkN (groupL k n) [] = if 1 + n ≤ k then (0, 0) else (0, 402) := by
  have h1 : groupRow k = true := by
    match k, hk with
    | 0, _ => exact groups_0
    | 1, _ => exact groups_1
    | 2, _ => exact groups_2
    | 3, _ => exact groups_3
    | 4, _ => exact groups_4
    | 5, _ => exact groups_5
    | 6, _ => exact groups_6
    | 7, _ => exact groups_7
    | 8, _ => exact groups_8
    | 9, _ => exact groups_9
    | 10, _ => exact groups_10
    | 11, _ => exact groups_11
    | 12, _ => exact groups_12
    | 13, _ => exact groups_13
    | 14, _ => exact groups_14
    | 15, _ => exact groups_15
    | 16, _ => exact groups_16
    | 17, _ => exact groups_17
    | 18, _ => exact groups_18
    | 19, _ => exact groups_19
    | 20, _ => exact groups_20
    | 21, _ => exact groups_21
    | 22, _ => exact groups_22
    | 23, _ => exact groups_23
    | 24, _ => exact groups_24
    | 25, _ => exact groups_25
    | 26, _ => exact groups_26
    | 27, _ => exact groups_27
    | 28, _ => exact groups_28
    | 29, _ => exact groups_29
    | 30, _ => exact groups_30
    | 31, _ => exact groups_31
    | k + 32, h => exact absurd h (by omega)
  have h2 := List.all_eq_true.1 h1 n (List.mem_range.2 (by omega))
  simpa using h2
end Go.Proofs.YtnbadnmmolagfaaDoor
