/- Package regex: the laws' awake. -/
import Derived.Test.YtnbadnmmolagfaaDoorRegCheck
namespace Go.Proofs.YtnbadnmmolagfaaDoor
open Go.RowKit
set_option maxRecDepth 100000
set_option linter.unusedVariables false
set_option linter.unusedSimpArgs false

theorem check_is {l fl : Ln} {at' : Int} {c : Nat} (w : World) (hE : Env w) (hl : l.length ≤ 140737488355328) (hfl : fl.length ≤ 140737488355328) (h : checkN l fl = (at', c)) :
    Calls Tryd.prog 10 #[.string (strOf l), .string (strOf fl)] w fun e w' => e = .returned (.tuple #[.int .i64 at', .int .i64 (c : Int)]) ∧ Below w.heap.size w w' := by
  have := check_any l fl w hE hl hfl
  rw [h] at this
  exact this
theorem awake1 : checkN [97, 123, 50, 44, 49, 125] [] = (1, 403) := by decide +kernel
theorem awake2 : checkN [92, 49] [] = (0, 402) := by decide +kernel
theorem awake3 : checkN [40, 63, 60, 97, 62, 120, 41, 92, 107, 60, 97, 62] [117] = (0, 0) := by decide +kernel
set_option maxHeartbeats 4000000 in
theorem awake_any (w : World) (hE : Env w) :
    Calls Tryd.prog 9 #[] w fun e w' => e = .returned (.bool true) ∧ Below w.heap.size w w' := by
  have HE := Lib.hid hE
  clear hE
  go_enter Tryd.func9, Tryd.ntmps9
  go_wp2_with fail
  refine (check_is (l := [97, 123, 50, 44, 49, 125]) (fl := []) w HE.out (by decide) (by decide) awake1).mono ?_
  rintro e w1 ⟨rfl, hb1⟩
  have HE1 := Lib.hid (HE.out.below hb1)
  have HB1 := Lib.hid hb1
  clear hb1
  go_wp2_with fail
  refine (check_is (l := [92, 49]) (fl := []) w1 HE1.out (by decide) (by decide) awake2).mono ?_
  rintro e w2 ⟨rfl, hb2⟩
  have HE2 := Lib.hid (HE1.out.below hb2)
  have HB2 := Lib.hid (HB1.out.call hb2)
  clear hb2
  go_wp2_with fail
  refine (check_is (l := [40, 63, 60, 97, 62, 120, 41, 92, 107, 60, 97, 62]) (fl := [117]) w2 HE2.out (by decide) (by decide) awake3).mono ?_
  rintro e w3 ⟨rfl, hb3⟩
  have HB3 := Lib.hid (HB2.out.call hb3)
  clear hb3
  go_wp2_with (go_at_call 12; refine (num_any _ _).mono ?_; rintro e w9 ⟨rfl, rfl⟩)
  go_ret
  exact ⟨rfl, HB3.out⟩
end Go.Proofs.YtnbadnmmolagfaaDoor
