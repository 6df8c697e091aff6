/- What every card of this seat shares: the listed tables as the walks want them, a world for the witness. -/
import Derived.Test.YtnbadnmmolagfaaDoorCards
import Derived.Test.YtnbadnmmolagfaaDoorTie
import Derived.Test.YtnbadnmmolagfaaDoorRegAwake
import Derived.ProofKit
import Derived.OpenShut
import Derived.SizedLaws
import Derived.Deep.DeepHandedRow
import Derived.Lib.LaidTab
import Derived.Lib.LaidU8T
namespace Go.Proofs.YtnbadnmmolagfaaDoor
open Go.RowKit Go.ChangeShapes Go.WideShapes Go.ChangeAt
set_option maxRecDepth 100000

theorem ownKnob_none : ownKnob Tryd.prog.godebug = none := by kernel_rfl
theorem first_data : Rows.laid_unicode_utf8_first = Lib.firstData := by kernel_rfl
theorem accept_data : (Rows.laid_unicode_utf8_acceptRanges : DataW Unit) = Lib.acceptData := by kernel_rfl
theorem tabs_of_laid {W : World} (h : laidMet Tryd.prog Rows.regexJoinsRow.laid W) : Tabs W :=
  Tabs.of (utf8Tabs_of_readsT (U8Types.of260 Tryd.lays260) ⟨by kernel_rfl, by kernel_rfl, by kernel_rfl, by kernel_rfl, by kernel_rfl, by kernel_rfl, by kernel_rfl⟩
    (first_data ▸ Lib.laidMet.reads h (.tail _ (.head _))) (accept_data ▸ Lib.laidMet.reads h (.head _)))

theorem env_of_laid {W : World} (h : laidMet Tryd.prog Rows.regexJoinsRow.laid W) (hS : W.ShapedOpen Tryd.prog) : Env W := ⟨tabs_of_laid h, Tryd.laysM143.s1_3 W hS⟩
/-- A WORLD FOR THE WITNESS: the settled one, the two tables as their initialisers lay them. -/
noncomputable def laidWorld (os : Os) : World :=
  let w0 := World.holding Tryd.prog os ⟨#[], #[], []⟩
  let put (h : Array Obj) (g : Nat) (cs : Array Value) : Array Obj := h.modify g fun
    | .cells _ t frozen => .cells cs t frozen
    | o => o
  let h1 := put w0.heap 1 (Lib.firstTab.map fun z => Value.int .u8 z).toArray
  let h2 := put h1 2 ((List.range 16).flatMap fun i => [Value.int .u8 (Lib.accLo i), Value.int .u8 (Lib.accHi i)]).toArray
  { w0 with heap := h2 }
theorem laid_met (os : Os) (args : Array Value) : laidMet Tryd.prog Rows.regexJoinsRow.laid ((laidWorld os).forCall (fun _ _ => 0) ⟨#[], args, []⟩).memory :=
  laidMet_of_run' 8 (by kernel_rfl) (by kernel_rfl)
end Go.Proofs.YtnbadnmmolagfaaDoor
