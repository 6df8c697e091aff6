/- Package regex: what the laws' last texts share. -/
import Derived.Test.YtnbadnmmolagfaaDoorRegCard
import Derived.Test.YtnbadnmmolagfaaDoorDecimal
import Derived.Laws.Cover4
namespace Go.Proofs.YtnbadnmmolagfaaDoor
open Go.RowKit
set_option maxRecDepth 100000
set_option linter.unusedVariables false
set_option linter.unusedSimpArgs false

theorem and_low (x : Int) (m : Nat) (hm : m ≤ 65535) : ∃ n : Nat, n ≤ m ∧ bits .and .i64 x (m : Int) = (n : Int) := by
  have hle : (BitVec.ofInt 64 x).toNat &&& m ≤ m := Nat.and_le_right
  refine ⟨(BitVec.ofInt 64 x).toNat &&& m, hle, ?_⟩
  have hmm : m % 2 ^ 64 = m := Nat.mod_eq_of_lt (by omega)
  have e : (BitVec.ofInt 64 x &&& BitVec.ofNat 64 m).toNat = (BitVec.ofInt 64 x).toNat &&& m := by rw [BitVec.toNat_and, BitVec.toNat_ofNat, hmm]
  have h0 : bits .and .i64 x (m : Int) = IntKind.i64.wrap (((BitVec.ofInt 64 x) &&& (BitVec.ofInt 64 (m : Int))).toNat : Int) := rfl
  rw [h0, BitVec.ofInt_natCast, e, IntKind.wrap_i64]
  omega
theorem u64_nat (a : Int) : ∃ u : Nat, IntKind.u64.wrap a = (u : Int) := by
  refine ⟨(IntKind.u64.wrap a).toNat, ?_⟩
  rw [IntKind.wrap_u64]
  omega
theorem laidOut : laidOutB Tryd.prog = true := by kernel_rfl
/-- A small number's text. -/
theorem dec_small (n : Nat) (h : n ≤ 65535) (w : World) : Calls Tryd.prog 13 #[.int .i64 (n : Int)] w fun e w' => e = .returned (.string (strOf (decB (n : Int)))) ∧ Below w.heap.size w w' :=
  decimal_any (n : Int) (by omega) (by omega) w
theorem str_list (l : Ln) : (strOf l).toList = l := by rw [ByteArray.toList_eq, strOf_list]
end Go.Proofs.YtnbadnmmolagfaaDoor
