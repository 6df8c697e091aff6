/- The walks of package uni, the second part: Ends, Blank, wide, Width; and the reference's. -/
import Derived.Test.YtnbadnmmolagfaaDoorUniWalks
import Derived.Lib.OthersKept
namespace Go.Proofs.YtnbadnmmolagfaaDoor
open Go.RowKit
set_option maxRecDepth 100000
set_option linter.unusedVariables false

theorem ends_any (r : Int) (w : World) :
    Calls Tryd.prog 48 #[.int .i64 r] w fun e w' => e = .returned (.bool (endsB r)) ∧ Below w.heap.size w w' := by
  go_enter Tryd.func48, Tryd.ntmps48
  go_wp2_with (go_at_call 50; refine (one_any r w.heap.size 4 4 [0xa, 0xd, 0x2028, 0x2029] _ rfl (by decide) (by exact cells_new _ _ [0xa, 0xd, 0x2028, 0x2029])).mono ?_; rintro e w1 ⟨rfl, hb1⟩)
  go_ret
  exact ⟨rfl, (Below.refl _ w).ac hb1⟩

end Go.Proofs.YtnbadnmmolagfaaDoor
