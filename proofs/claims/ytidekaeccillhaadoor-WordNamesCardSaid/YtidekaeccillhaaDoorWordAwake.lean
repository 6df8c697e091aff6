/- Chapter 6's awake. -/
import Derived.Test.YtidekaeccillhaaDoorWordWalks
import Derived.Test.YtidekaeccillhaaDoorNames
namespace Go.Proofs.YtidekaeccillhaaDoor
open Go.RowKit
set_option maxRecDepth 100000
set_option linter.unusedVariables false

theorem name_is (s : ByteArray) {b : Bool} (w : World) (hs : s.size ≤ 4611686018427387904) (h : nameB s = b) :
    Calls Tryd.prog 27 #[.string s] w fun e w' => e = .returned (.bool b) ∧ Below w.heap.size w w' := by
  subst h
  exact name_any s w hs

theorem awake_r1 (w : World) : Calls Tryd.prog 26 #[.string ⟨#[108, 101, 116]⟩, .bool false] w fun e w' => e = .returned (.bool true) ∧ w = w' := calls_ev 5 1 (by kernel_rfl)
theorem awake_r2 (w : World) : Calls Tryd.prog 26 #[.string ⟨#[97, 119, 97, 105, 116]⟩, .bool true] w fun e w' => e = .returned (.bool true) ∧ w = w' := calls_ev 5 1 (by kernel_rfl)
theorem awake_r3 (w : World) : Calls Tryd.prog 26 #[.string ⟨#[97, 119, 97, 105, 116]⟩, .bool false] w fun e w' => e = .returned (.bool false) ∧ w = w' := calls_ev 5 1 (by kernel_rfl)
theorem awake_l1 (w : World) : Calls Tryd.prog 35 #[.string ⟨#[63, 63]⟩] w fun e w' => e = .returned (.int .i64 1) ∧ w = w' := calls_ev 5 1 (by kernel_rfl)
theorem awake_l2 (w : World) : Calls Tryd.prog 35 #[.string ⟨#[42, 42]⟩] w fun e w' => e = .returned (.int .i64 12) ∧ w = w' := calls_ev 5 1 (by kernel_rfl)
theorem awake_t1 (w : World) : Calls Tryd.prog 36 #[.string ⟨#[42, 42]⟩] w fun e w' => e = .returned (.bool true) ∧ w = w' := calls_ev 5 1 (by kernel_rfl)
theorem awake_t2 (w : World) : Calls Tryd.prog 36 #[.string ⟨#[43]⟩] w fun e w' => e = .returned (.bool false) ∧ w = w' := calls_ev 5 1 (by kernel_rfl)

set_option maxHeartbeats 4000000 in
theorem awake6_any (w : World) : Calls Tryd.prog 25 #[] w fun e w' => e = .returned (.bool true) ∧ Below w.heap.size w w' := by
  go_enter Tryd.func25, Tryd.ntmps25
  go_wp2_with fail
  refine (name_is ⟨#[97, 49]⟩ (b := true) w (by decide) (by kernel_rfl)).mono ?_
  rintro e w1 ⟨rfl, hb1⟩
  go_wp2_with fail
  refine (name_is ⟨#[49, 97]⟩ (b := false) w1 (by decide) (by kernel_rfl)).mono ?_
  rintro e w2 ⟨rfl, hb2⟩
  go_wp2_with fail
  refine (awake_r1 w2).mono ?_
  rintro e w3 ⟨rfl, rfl⟩
  go_wp2_with fail
  refine (awake_r2 w2).mono ?_
  rintro e w3 ⟨rfl, rfl⟩
  go_wp2_with fail
  refine (awake_r3 w2).mono ?_
  rintro e w3 ⟨rfl, rfl⟩
  go_wp2_with fail
  refine (awake_l1 w2).mono ?_
  rintro e w3 ⟨rfl, rfl⟩
  go_wp2_with fail
  refine (awake_l2 w2).mono ?_
  rintro e w3 ⟨rfl, rfl⟩
  go_wp2_with fail
  refine (awake_t1 w2).mono ?_
  rintro e w3 ⟨rfl, rfl⟩
  go_wp2_with fail
  refine (awake_t2 w2).mono ?_
  rintro e w3 ⟨rfl, rfl⟩
  go_wp2_with fail
  go_ret
  exact ⟨rfl, hb1.call hb2⟩
end Go.Proofs.YtidekaeccillhaaDoor
