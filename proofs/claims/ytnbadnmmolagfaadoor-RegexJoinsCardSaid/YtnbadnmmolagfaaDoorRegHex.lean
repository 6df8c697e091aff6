/- Package regex: hex, at each byte. -/
import Derived.Test.YtnbadnmmolagfaaDoorRows
import Derived.Test.YtnbadnmmolagfaaDoorRegPlain
import Derived.Test.YtnbadnmmolagfaaDoorEval
namespace Go.Proofs.YtnbadnmmolagfaaDoor
open Go.RowKit
set_option maxRecDepth 100000

def hexV (c : Nat) : Int := match hexL c with | some h => (h : Int) | Option.none => -1
theorem hex_all (w : World) : (List.range 256).map (fun c : Nat => evCall Tryd.prog 9 3 62 #[.int .u8 (c : Int)] w) = (List.range 256).map (fun c : Nat => some (Value.int .i64 (hexV c), w)) := by kernel_rfl
theorem hex_any (c : Nat) (hc : c < 256) (w : World) :
    Calls Tryd.prog 62 #[.int .u8 (c : Int)] w fun e w' => e = .returned (.int .i64 (hexV c)) ∧ w = w' :=
  calls_ev 9 3 (List.map_inj_left.1 (hex_all w) c (List.mem_range.2 hc))
end Go.Proofs.YtnbadnmmolagfaaDoor
