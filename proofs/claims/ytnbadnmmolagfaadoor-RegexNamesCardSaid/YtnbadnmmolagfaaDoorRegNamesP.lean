/- Package regex in plain Lean: names of groups, 64 closed cases. -/
import Derived.Test.YtnbadnmmolagfaaDoorRegAwake
namespace Go.Proofs.YtnbadnmmolagfaaDoor
set_option maxRecDepth 100000

def nm (x : Nat) : Ln := [103, UInt8.ofNat (48 + x)]
def namesHead (x z : Nat) : Ln := [92, 107, 60] ++ nm z ++ [62, 40, 63, 60] ++ nm x ++ [62, 97, 41]
def namesL (x y z : Nat) : Ln := namesHead x z ++ [40, 63, 60] ++ nm y ++ [62, 98, 41]
def namesR (x y z : Nat) : Int × Nat := if x = y then (17, 404) else if z ≠ x ∧ z ≠ y then (0, 404) else (0, 0)
theorem names_all : (List.range 4).all (fun x => (List.range 4).all fun y => (List.range 4).all fun z => checkN (namesL x y z) [] == namesR x y z) = true := by decide +kernel
theorem names_is {x y z : Nat} (hx : x ≤ 3) (hy : y ≤ 3) (hz : z ≤ 3) : checkN (namesL x y z) [] = namesR x y z := by
  have h1 := List.all_eq_true.1 (List.all_eq_true.1 (List.all_eq_true.1 names_all x (List.mem_range.2 (by omega))) y (List.mem_range.2 (by omega))) z (List.mem_range.2 (by omega))
  exact eq_of_beq h1
end Go.Proofs.YtnbadnmmolagfaaDoor
