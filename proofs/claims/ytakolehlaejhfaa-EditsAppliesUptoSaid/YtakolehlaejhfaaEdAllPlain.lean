/- EditsAll in plain Lean; small numbers by a mask; texts joined. -/
import Derived.Test.YtakolehlaejhfaaEdApply
import Derived.Test.YtakolehlaejhfaaDecPlain
import Derived.Laws.BitsLemmas
namespace Go.Proofs.Ytakolehlaejhfaa
open Go.RowKit

theorem and_small (x : Int) (m : Nat) (hm : m ≤ 15) : ∃ n : Nat, n ≤ m ∧ bits .and .i64 x (m : Int) = (n : Int) := by
  have hle : (BitVec.ofInt 64 x).toNat &&& m ≤ m := Nat.and_le_right
  refine ⟨(BitVec.ofInt 64 x).toNat &&& m, hle, ?_⟩
  have hmm : m % 2 ^ 64 = m := Nat.mod_eq_of_lt (by omega)
  have e : (BitVec.ofInt 64 x &&& BitVec.ofNat 64 m).toNat = (BitVec.ofInt 64 x).toNat &&& m := by rw [BitVec.toNat_and, BitVec.toNat_ofNat, hmm]
  have h0 : bits .and .i64 x (m : Int) = IntKind.i64.wrap (((BitVec.ofInt 64 x) &&& (BitVec.ofInt 64 (m : Int))).toNat : Int) := rfl
  rw [h0, BitVec.ofInt_natCast, e, IntKind.wrap_i64]
  omega
theorem strOf_app (x y : Ln) : strOf x ++ strOf y = strOf (x ++ y) := by
  rw [← strOf_list (strOf x ++ strOf y)]
  congr 1
def dl (i : Nat) : Ln := decB (i : Int) ++ [10]
def numsB (m : Nat) : List Ln := (List.range m).map dl
theorem numsB_succ (m : Nat) : numsB (m + 1) = numsB m ++ [dl m] := by simp [numsB, List.range_succ]
theorem numsB_len (m : Nat) : (numsB m).length = m := by simp [numsB]
theorem numsB_lines : ∀ m, m < 16 → linesB (numsB m).flatten = numsB m := by decide +kernel
theorem numsB_small : ∀ m, m < 17 → (numsB m).flatten.length ≤ 64 := by decide +kernel
theorem decB_small : ∀ m : Nat, m < 17 → (decB (m : Int)).length ≤ 30 := by decide +kernel
theorem numsB_take (k m : Nat) : (numsB m).take k = numsB (min k m) := by
  simp [numsB, List.take_range, ← List.map_take]
theorem apply_one (L : List Ln) (k d : Nat) (P : List Ln) : applyB L [⟨k, d, P⟩] = if k + d = L.length then some ((L.take k).flatten ++ P.flatten) else none := by
  by_cases hb : badE L.length ⟨k, d, P⟩
  · rw [applyB_bad hb]
    unfold badE at hb
    simp only at hb
    rw [if_neg (by omega)]
  · rw [applyB_good hb]
    unfold badE at hb
    simp only [Int.toNat_natCast] at hb ⊢
    by_cases hl : k + d = L.length
    · rw [if_pos hl, List.drop_eq_nil_of_le (by omega)]
      simp [applyB]
    · rw [if_neg hl]
      have : L.drop (k + d) ≠ [] := by
        intro e
        have := congrArg List.length e
        rw [List.length_drop, List.length_nil] at this
        omega
      unfold applyB
      rw [if_neg this]
      rfl
theorem rep_flat (p : Nat) : (List.replicate p [(120 : UInt8)]).flatten = List.replicate p 120 := by
  induction p with
  | zero => rfl
  | succ p ih => rw [List.replicate_succ, List.flatten_cons, ih]; rfl
end Go.Proofs.Ytakolehlaejhfaa
