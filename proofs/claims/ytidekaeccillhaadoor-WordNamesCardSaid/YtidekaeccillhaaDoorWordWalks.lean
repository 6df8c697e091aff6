/- The walks of package word's tables: a word of the table by the kernel's reckoning, any other by one walk. Printed by wip/gen_words.py. -/
import Derived.Test.YtidekaeccillhaaDoorRows
import Derived.Test.YtidekaeccillhaaDoorEval
import Derived.Test.YtidekaeccillhaaDoorWordPlain
namespace Go.Proofs.YtidekaeccillhaaDoor
open Go.RowKit
set_option maxRecDepth 100000
set_option linter.unusedVariables false

theorem right_any (s : ByteArray) (w : World) :
    Calls Tryd.prog 36 #[.string s] w fun e w' => e = .returned (.bool (rightB s)) ∧ w = w' := by
  go_enter Tryd.func36, Tryd.ntmps36
  go_wp2
  go_ret
  exact ⟨ret_bool (by rw [ByteArray.toList_eq]; rfl), rfl⟩

theorem level_0 (w : World) : Calls Tryd.prog 35 #[.string ⟨#[42, 42]⟩] w fun e w' => e = .returned (.int .i64 12) ∧ w = w' := calls_ev 5 1 (by kernel_rfl)
theorem level_1 (w : World) : Calls Tryd.prog 35 #[.string ⟨#[42]⟩] w fun e w' => e = .returned (.int .i64 11) ∧ w = w' := calls_ev 5 1 (by kernel_rfl)
theorem level_2 (w : World) : Calls Tryd.prog 35 #[.string ⟨#[47]⟩] w fun e w' => e = .returned (.int .i64 11) ∧ w = w' := calls_ev 5 1 (by kernel_rfl)
theorem level_3 (w : World) : Calls Tryd.prog 35 #[.string ⟨#[37]⟩] w fun e w' => e = .returned (.int .i64 11) ∧ w = w' := calls_ev 5 1 (by kernel_rfl)
theorem level_4 (w : World) : Calls Tryd.prog 35 #[.string ⟨#[43]⟩] w fun e w' => e = .returned (.int .i64 10) ∧ w = w' := calls_ev 5 1 (by kernel_rfl)
theorem level_5 (w : World) : Calls Tryd.prog 35 #[.string ⟨#[45]⟩] w fun e w' => e = .returned (.int .i64 10) ∧ w = w' := calls_ev 5 1 (by kernel_rfl)
theorem level_6 (w : World) : Calls Tryd.prog 35 #[.string ⟨#[60, 60]⟩] w fun e w' => e = .returned (.int .i64 9) ∧ w = w' := calls_ev 5 1 (by kernel_rfl)
theorem level_7 (w : World) : Calls Tryd.prog 35 #[.string ⟨#[62, 62]⟩] w fun e w' => e = .returned (.int .i64 9) ∧ w = w' := calls_ev 5 1 (by kernel_rfl)
theorem level_8 (w : World) : Calls Tryd.prog 35 #[.string ⟨#[62, 62, 62]⟩] w fun e w' => e = .returned (.int .i64 9) ∧ w = w' := calls_ev 5 1 (by kernel_rfl)
theorem level_9 (w : World) : Calls Tryd.prog 35 #[.string ⟨#[60]⟩] w fun e w' => e = .returned (.int .i64 8) ∧ w = w' := calls_ev 5 1 (by kernel_rfl)
theorem level_10 (w : World) : Calls Tryd.prog 35 #[.string ⟨#[62]⟩] w fun e w' => e = .returned (.int .i64 8) ∧ w = w' := calls_ev 5 1 (by kernel_rfl)
theorem level_11 (w : World) : Calls Tryd.prog 35 #[.string ⟨#[60, 61]⟩] w fun e w' => e = .returned (.int .i64 8) ∧ w = w' := calls_ev 5 1 (by kernel_rfl)
theorem level_12 (w : World) : Calls Tryd.prog 35 #[.string ⟨#[62, 61]⟩] w fun e w' => e = .returned (.int .i64 8) ∧ w = w' := calls_ev 5 1 (by kernel_rfl)
theorem level_13 (w : World) : Calls Tryd.prog 35 #[.string ⟨#[105, 110]⟩] w fun e w' => e = .returned (.int .i64 8) ∧ w = w' := calls_ev 5 1 (by kernel_rfl)
theorem level_14 (w : World) : Calls Tryd.prog 35 #[.string ⟨#[105, 110, 115, 116, 97, 110, 99, 101, 111, 102]⟩] w fun e w' => e = .returned (.int .i64 8) ∧ w = w' := calls_ev 5 1 (by kernel_rfl)
theorem level_15 (w : World) : Calls Tryd.prog 35 #[.string ⟨#[61, 61]⟩] w fun e w' => e = .returned (.int .i64 7) ∧ w = w' := calls_ev 5 1 (by kernel_rfl)
theorem level_16 (w : World) : Calls Tryd.prog 35 #[.string ⟨#[33, 61]⟩] w fun e w' => e = .returned (.int .i64 7) ∧ w = w' := calls_ev 5 1 (by kernel_rfl)
theorem level_17 (w : World) : Calls Tryd.prog 35 #[.string ⟨#[61, 61, 61]⟩] w fun e w' => e = .returned (.int .i64 7) ∧ w = w' := calls_ev 5 1 (by kernel_rfl)
theorem level_18 (w : World) : Calls Tryd.prog 35 #[.string ⟨#[33, 61, 61]⟩] w fun e w' => e = .returned (.int .i64 7) ∧ w = w' := calls_ev 5 1 (by kernel_rfl)
theorem level_19 (w : World) : Calls Tryd.prog 35 #[.string ⟨#[38]⟩] w fun e w' => e = .returned (.int .i64 6) ∧ w = w' := calls_ev 5 1 (by kernel_rfl)
theorem level_20 (w : World) : Calls Tryd.prog 35 #[.string ⟨#[94]⟩] w fun e w' => e = .returned (.int .i64 5) ∧ w = w' := calls_ev 5 1 (by kernel_rfl)
theorem level_21 (w : World) : Calls Tryd.prog 35 #[.string ⟨#[124]⟩] w fun e w' => e = .returned (.int .i64 4) ∧ w = w' := calls_ev 5 1 (by kernel_rfl)
theorem level_22 (w : World) : Calls Tryd.prog 35 #[.string ⟨#[38, 38]⟩] w fun e w' => e = .returned (.int .i64 3) ∧ w = w' := calls_ev 5 1 (by kernel_rfl)
theorem level_23 (w : World) : Calls Tryd.prog 35 #[.string ⟨#[124, 124]⟩] w fun e w' => e = .returned (.int .i64 2) ∧ w = w' := calls_ev 5 1 (by kernel_rfl)
theorem level_24 (w : World) : Calls Tryd.prog 35 #[.string ⟨#[63, 63]⟩] w fun e w' => e = .returned (.int .i64 1) ∧ w = w' := calls_ev 5 1 (by kernel_rfl)

set_option maxHeartbeats 4000000 in
theorem level_none (s : ByteArray) (w : World) (h : hasB opsAll s = false) : Calls Tryd.prog 35 #[.string s] w fun e w' => e = .returned (.int .i64 0) ∧ w = w' := by
  have g0 : (s.toList == [42, 42]) = false := hasB_notW ⟨#[42, 42]⟩ h (by simp [opsAll])
  have g1 : (s.toList == [42]) = false := hasB_notW ⟨#[42]⟩ h (by simp [opsAll])
  have g2 : (s.toList == [47]) = false := hasB_notW ⟨#[47]⟩ h (by simp [opsAll])
  have g3 : (s.toList == [37]) = false := hasB_notW ⟨#[37]⟩ h (by simp [opsAll])
  have g4 : (s.toList == [43]) = false := hasB_notW ⟨#[43]⟩ h (by simp [opsAll])
  have g5 : (s.toList == [45]) = false := hasB_notW ⟨#[45]⟩ h (by simp [opsAll])
  have g6 : (s.toList == [60, 60]) = false := hasB_notW ⟨#[60, 60]⟩ h (by simp [opsAll])
  have g7 : (s.toList == [62, 62]) = false := hasB_notW ⟨#[62, 62]⟩ h (by simp [opsAll])
  have g8 : (s.toList == [62, 62, 62]) = false := hasB_notW ⟨#[62, 62, 62]⟩ h (by simp [opsAll])
  have g9 : (s.toList == [60]) = false := hasB_notW ⟨#[60]⟩ h (by simp [opsAll])
  have g10 : (s.toList == [62]) = false := hasB_notW ⟨#[62]⟩ h (by simp [opsAll])
  have g11 : (s.toList == [60, 61]) = false := hasB_notW ⟨#[60, 61]⟩ h (by simp [opsAll])
  have g12 : (s.toList == [62, 61]) = false := hasB_notW ⟨#[62, 61]⟩ h (by simp [opsAll])
  have g13 : (s.toList == [105, 110]) = false := hasB_notW ⟨#[105, 110]⟩ h (by simp [opsAll])
  have g14 : (s.toList == [105, 110, 115, 116, 97, 110, 99, 101, 111, 102]) = false := hasB_notW ⟨#[105, 110, 115, 116, 97, 110, 99, 101, 111, 102]⟩ h (by simp [opsAll])
  have g15 : (s.toList == [61, 61]) = false := hasB_notW ⟨#[61, 61]⟩ h (by simp [opsAll])
  have g16 : (s.toList == [33, 61]) = false := hasB_notW ⟨#[33, 61]⟩ h (by simp [opsAll])
  have g17 : (s.toList == [61, 61, 61]) = false := hasB_notW ⟨#[61, 61, 61]⟩ h (by simp [opsAll])
  have g18 : (s.toList == [33, 61, 61]) = false := hasB_notW ⟨#[33, 61, 61]⟩ h (by simp [opsAll])
  have g19 : (s.toList == [38]) = false := hasB_notW ⟨#[38]⟩ h (by simp [opsAll])
  have g20 : (s.toList == [94]) = false := hasB_notW ⟨#[94]⟩ h (by simp [opsAll])
  have g21 : (s.toList == [124]) = false := hasB_notW ⟨#[124]⟩ h (by simp [opsAll])
  have g22 : (s.toList == [38, 38]) = false := hasB_notW ⟨#[38, 38]⟩ h (by simp [opsAll])
  have g23 : (s.toList == [124, 124]) = false := hasB_notW ⟨#[124, 124]⟩ h (by simp [opsAll])
  have g24 : (s.toList == [63, 63]) = false := hasB_notW ⟨#[63, 63]⟩ h (by simp [opsAll])
  clear h
  go_enter Tryd.func35, Tryd.ntmps35
  go_wp2_with fail
  go_ret
  exact ⟨rfl, rfl⟩

theorem level_any (s : ByteArray) (w : World) : Calls Tryd.prog 35 #[.string s] w fun e w' => e = .returned (.int .i64 (levB s : Nat)) ∧ w = w' := by
  cases h : hasB opsAll s
  · rw [levB_none h]
    exact level_none s w h
  · have hm := hasB_mem h
    simp only [opsAll, List.mem_cons, List.mem_nil_iff, or_false] at hm
    rcases hm with rfl | rfl | rfl | rfl | rfl | rfl | rfl | rfl | rfl | rfl | rfl | rfl | rfl | rfl | rfl | rfl | rfl | rfl | rfl | rfl | rfl | rfl | rfl | rfl | rfl
    · rw [show levB ⟨#[42, 42]⟩ = 12 by decide]; exact level_0 w
    · rw [show levB ⟨#[42]⟩ = 11 by decide]; exact level_1 w
    · rw [show levB ⟨#[47]⟩ = 11 by decide]; exact level_2 w
    · rw [show levB ⟨#[37]⟩ = 11 by decide]; exact level_3 w
    · rw [show levB ⟨#[43]⟩ = 10 by decide]; exact level_4 w
    · rw [show levB ⟨#[45]⟩ = 10 by decide]; exact level_5 w
    · rw [show levB ⟨#[60, 60]⟩ = 9 by decide]; exact level_6 w
    · rw [show levB ⟨#[62, 62]⟩ = 9 by decide]; exact level_7 w
    · rw [show levB ⟨#[62, 62, 62]⟩ = 9 by decide]; exact level_8 w
    · rw [show levB ⟨#[60]⟩ = 8 by decide]; exact level_9 w
    · rw [show levB ⟨#[62]⟩ = 8 by decide]; exact level_10 w
    · rw [show levB ⟨#[60, 61]⟩ = 8 by decide]; exact level_11 w
    · rw [show levB ⟨#[62, 61]⟩ = 8 by decide]; exact level_12 w
    · rw [show levB ⟨#[105, 110]⟩ = 8 by decide]; exact level_13 w
    · rw [show levB ⟨#[105, 110, 115, 116, 97, 110, 99, 101, 111, 102]⟩ = 8 by decide]; exact level_14 w
    · rw [show levB ⟨#[61, 61]⟩ = 7 by decide]; exact level_15 w
    · rw [show levB ⟨#[33, 61]⟩ = 7 by decide]; exact level_16 w
    · rw [show levB ⟨#[61, 61, 61]⟩ = 7 by decide]; exact level_17 w
    · rw [show levB ⟨#[33, 61, 61]⟩ = 7 by decide]; exact level_18 w
    · rw [show levB ⟨#[38]⟩ = 6 by decide]; exact level_19 w
    · rw [show levB ⟨#[94]⟩ = 5 by decide]; exact level_20 w
    · rw [show levB ⟨#[124]⟩ = 4 by decide]; exact level_21 w
    · rw [show levB ⟨#[38, 38]⟩ = 3 by decide]; exact level_22 w
    · rw [show levB ⟨#[124, 124]⟩ = 2 by decide]; exact level_23 w
    · rw [show levB ⟨#[63, 63]⟩ = 1 by decide]; exact level_24 w

theorem reserved_await (m : Bool) (w : World) : Calls Tryd.prog 26 #[.string ⟨#[97, 119, 97, 105, 116]⟩, .bool m] w fun e w' => e = .returned (.bool m) ∧ w = w' := calls_ev 5 1 (by kernel_rfl)
theorem reserved_0 (m : Bool) (w : World) : Calls Tryd.prog 26 #[.string ⟨#[98, 114, 101, 97, 107]⟩, .bool m] w fun e w' => e = .returned (.bool true) ∧ w = w' := calls_ev 5 1 (by kernel_rfl)
theorem reserved_1 (m : Bool) (w : World) : Calls Tryd.prog 26 #[.string ⟨#[99, 97, 115, 101]⟩, .bool m] w fun e w' => e = .returned (.bool true) ∧ w = w' := calls_ev 5 1 (by kernel_rfl)
theorem reserved_2 (m : Bool) (w : World) : Calls Tryd.prog 26 #[.string ⟨#[99, 97, 116, 99, 104]⟩, .bool m] w fun e w' => e = .returned (.bool true) ∧ w = w' := calls_ev 5 1 (by kernel_rfl)
theorem reserved_3 (m : Bool) (w : World) : Calls Tryd.prog 26 #[.string ⟨#[99, 108, 97, 115, 115]⟩, .bool m] w fun e w' => e = .returned (.bool true) ∧ w = w' := calls_ev 5 1 (by kernel_rfl)
theorem reserved_4 (m : Bool) (w : World) : Calls Tryd.prog 26 #[.string ⟨#[99, 111, 110, 115, 116]⟩, .bool m] w fun e w' => e = .returned (.bool true) ∧ w = w' := calls_ev 5 1 (by kernel_rfl)
theorem reserved_5 (m : Bool) (w : World) : Calls Tryd.prog 26 #[.string ⟨#[99, 111, 110, 116, 105, 110, 117, 101]⟩, .bool m] w fun e w' => e = .returned (.bool true) ∧ w = w' := calls_ev 5 1 (by kernel_rfl)
theorem reserved_6 (m : Bool) (w : World) : Calls Tryd.prog 26 #[.string ⟨#[100, 101, 98, 117, 103, 103, 101, 114]⟩, .bool m] w fun e w' => e = .returned (.bool true) ∧ w = w' := calls_ev 5 1 (by kernel_rfl)
theorem reserved_7 (m : Bool) (w : World) : Calls Tryd.prog 26 #[.string ⟨#[100, 101, 102, 97, 117, 108, 116]⟩, .bool m] w fun e w' => e = .returned (.bool true) ∧ w = w' := calls_ev 5 1 (by kernel_rfl)
theorem reserved_8 (m : Bool) (w : World) : Calls Tryd.prog 26 #[.string ⟨#[100, 101, 108, 101, 116, 101]⟩, .bool m] w fun e w' => e = .returned (.bool true) ∧ w = w' := calls_ev 5 1 (by kernel_rfl)
theorem reserved_9 (m : Bool) (w : World) : Calls Tryd.prog 26 #[.string ⟨#[100, 111]⟩, .bool m] w fun e w' => e = .returned (.bool true) ∧ w = w' := calls_ev 5 1 (by kernel_rfl)
theorem reserved_10 (m : Bool) (w : World) : Calls Tryd.prog 26 #[.string ⟨#[101, 108, 115, 101]⟩, .bool m] w fun e w' => e = .returned (.bool true) ∧ w = w' := calls_ev 5 1 (by kernel_rfl)
theorem reserved_11 (m : Bool) (w : World) : Calls Tryd.prog 26 #[.string ⟨#[101, 110, 117, 109]⟩, .bool m] w fun e w' => e = .returned (.bool true) ∧ w = w' := calls_ev 5 1 (by kernel_rfl)
theorem reserved_12 (m : Bool) (w : World) : Calls Tryd.prog 26 #[.string ⟨#[101, 120, 112, 111, 114, 116]⟩, .bool m] w fun e w' => e = .returned (.bool true) ∧ w = w' := calls_ev 5 1 (by kernel_rfl)
theorem reserved_13 (m : Bool) (w : World) : Calls Tryd.prog 26 #[.string ⟨#[101, 120, 116, 101, 110, 100, 115]⟩, .bool m] w fun e w' => e = .returned (.bool true) ∧ w = w' := calls_ev 5 1 (by kernel_rfl)
theorem reserved_14 (m : Bool) (w : World) : Calls Tryd.prog 26 #[.string ⟨#[102, 97, 108, 115, 101]⟩, .bool m] w fun e w' => e = .returned (.bool true) ∧ w = w' := calls_ev 5 1 (by kernel_rfl)
theorem reserved_15 (m : Bool) (w : World) : Calls Tryd.prog 26 #[.string ⟨#[102, 105, 110, 97, 108, 108, 121]⟩, .bool m] w fun e w' => e = .returned (.bool true) ∧ w = w' := calls_ev 5 1 (by kernel_rfl)
theorem reserved_16 (m : Bool) (w : World) : Calls Tryd.prog 26 #[.string ⟨#[102, 111, 114]⟩, .bool m] w fun e w' => e = .returned (.bool true) ∧ w = w' := calls_ev 5 1 (by kernel_rfl)
theorem reserved_17 (m : Bool) (w : World) : Calls Tryd.prog 26 #[.string ⟨#[102, 117, 110, 99, 116, 105, 111, 110]⟩, .bool m] w fun e w' => e = .returned (.bool true) ∧ w = w' := calls_ev 5 1 (by kernel_rfl)
theorem reserved_18 (m : Bool) (w : World) : Calls Tryd.prog 26 #[.string ⟨#[105, 102]⟩, .bool m] w fun e w' => e = .returned (.bool true) ∧ w = w' := calls_ev 5 1 (by kernel_rfl)
theorem reserved_19 (m : Bool) (w : World) : Calls Tryd.prog 26 #[.string ⟨#[105, 109, 112, 108, 101, 109, 101, 110, 116, 115]⟩, .bool m] w fun e w' => e = .returned (.bool true) ∧ w = w' := calls_ev 5 1 (by kernel_rfl)
theorem reserved_20 (m : Bool) (w : World) : Calls Tryd.prog 26 #[.string ⟨#[105, 109, 112, 111, 114, 116]⟩, .bool m] w fun e w' => e = .returned (.bool true) ∧ w = w' := calls_ev 5 1 (by kernel_rfl)
theorem reserved_21 (m : Bool) (w : World) : Calls Tryd.prog 26 #[.string ⟨#[105, 110]⟩, .bool m] w fun e w' => e = .returned (.bool true) ∧ w = w' := calls_ev 5 1 (by kernel_rfl)
theorem reserved_22 (m : Bool) (w : World) : Calls Tryd.prog 26 #[.string ⟨#[105, 110, 115, 116, 97, 110, 99, 101, 111, 102]⟩, .bool m] w fun e w' => e = .returned (.bool true) ∧ w = w' := calls_ev 5 1 (by kernel_rfl)
theorem reserved_23 (m : Bool) (w : World) : Calls Tryd.prog 26 #[.string ⟨#[105, 110, 116, 101, 114, 102, 97, 99, 101]⟩, .bool m] w fun e w' => e = .returned (.bool true) ∧ w = w' := calls_ev 5 1 (by kernel_rfl)
theorem reserved_24 (m : Bool) (w : World) : Calls Tryd.prog 26 #[.string ⟨#[108, 101, 116]⟩, .bool m] w fun e w' => e = .returned (.bool true) ∧ w = w' := calls_ev 5 1 (by kernel_rfl)
theorem reserved_25 (m : Bool) (w : World) : Calls Tryd.prog 26 #[.string ⟨#[110, 101, 119]⟩, .bool m] w fun e w' => e = .returned (.bool true) ∧ w = w' := calls_ev 5 1 (by kernel_rfl)
theorem reserved_26 (m : Bool) (w : World) : Calls Tryd.prog 26 #[.string ⟨#[110, 117, 108, 108]⟩, .bool m] w fun e w' => e = .returned (.bool true) ∧ w = w' := calls_ev 5 1 (by kernel_rfl)
theorem reserved_27 (m : Bool) (w : World) : Calls Tryd.prog 26 #[.string ⟨#[112, 97, 99, 107, 97, 103, 101]⟩, .bool m] w fun e w' => e = .returned (.bool true) ∧ w = w' := calls_ev 5 1 (by kernel_rfl)
theorem reserved_28 (m : Bool) (w : World) : Calls Tryd.prog 26 #[.string ⟨#[112, 114, 105, 118, 97, 116, 101]⟩, .bool m] w fun e w' => e = .returned (.bool true) ∧ w = w' := calls_ev 5 1 (by kernel_rfl)
theorem reserved_29 (m : Bool) (w : World) : Calls Tryd.prog 26 #[.string ⟨#[112, 114, 111, 116, 101, 99, 116, 101, 100]⟩, .bool m] w fun e w' => e = .returned (.bool true) ∧ w = w' := calls_ev 5 1 (by kernel_rfl)
theorem reserved_30 (m : Bool) (w : World) : Calls Tryd.prog 26 #[.string ⟨#[112, 117, 98, 108, 105, 99]⟩, .bool m] w fun e w' => e = .returned (.bool true) ∧ w = w' := calls_ev 5 1 (by kernel_rfl)
theorem reserved_31 (m : Bool) (w : World) : Calls Tryd.prog 26 #[.string ⟨#[114, 101, 116, 117, 114, 110]⟩, .bool m] w fun e w' => e = .returned (.bool true) ∧ w = w' := calls_ev 5 1 (by kernel_rfl)
theorem reserved_32 (m : Bool) (w : World) : Calls Tryd.prog 26 #[.string ⟨#[115, 116, 97, 116, 105, 99]⟩, .bool m] w fun e w' => e = .returned (.bool true) ∧ w = w' := calls_ev 5 1 (by kernel_rfl)
theorem reserved_33 (m : Bool) (w : World) : Calls Tryd.prog 26 #[.string ⟨#[115, 117, 112, 101, 114]⟩, .bool m] w fun e w' => e = .returned (.bool true) ∧ w = w' := calls_ev 5 1 (by kernel_rfl)
theorem reserved_34 (m : Bool) (w : World) : Calls Tryd.prog 26 #[.string ⟨#[115, 119, 105, 116, 99, 104]⟩, .bool m] w fun e w' => e = .returned (.bool true) ∧ w = w' := calls_ev 5 1 (by kernel_rfl)
theorem reserved_35 (m : Bool) (w : World) : Calls Tryd.prog 26 #[.string ⟨#[116, 104, 105, 115]⟩, .bool m] w fun e w' => e = .returned (.bool true) ∧ w = w' := calls_ev 5 1 (by kernel_rfl)
theorem reserved_36 (m : Bool) (w : World) : Calls Tryd.prog 26 #[.string ⟨#[116, 104, 114, 111, 119]⟩, .bool m] w fun e w' => e = .returned (.bool true) ∧ w = w' := calls_ev 5 1 (by kernel_rfl)
theorem reserved_37 (m : Bool) (w : World) : Calls Tryd.prog 26 #[.string ⟨#[116, 114, 117, 101]⟩, .bool m] w fun e w' => e = .returned (.bool true) ∧ w = w' := calls_ev 5 1 (by kernel_rfl)
theorem reserved_38 (m : Bool) (w : World) : Calls Tryd.prog 26 #[.string ⟨#[116, 114, 121]⟩, .bool m] w fun e w' => e = .returned (.bool true) ∧ w = w' := calls_ev 5 1 (by kernel_rfl)
theorem reserved_39 (m : Bool) (w : World) : Calls Tryd.prog 26 #[.string ⟨#[116, 121, 112, 101, 111, 102]⟩, .bool m] w fun e w' => e = .returned (.bool true) ∧ w = w' := calls_ev 5 1 (by kernel_rfl)
theorem reserved_40 (m : Bool) (w : World) : Calls Tryd.prog 26 #[.string ⟨#[118, 97, 114]⟩, .bool m] w fun e w' => e = .returned (.bool true) ∧ w = w' := calls_ev 5 1 (by kernel_rfl)
theorem reserved_41 (m : Bool) (w : World) : Calls Tryd.prog 26 #[.string ⟨#[118, 111, 105, 100]⟩, .bool m] w fun e w' => e = .returned (.bool true) ∧ w = w' := calls_ev 5 1 (by kernel_rfl)
theorem reserved_42 (m : Bool) (w : World) : Calls Tryd.prog 26 #[.string ⟨#[119, 104, 105, 108, 101]⟩, .bool m] w fun e w' => e = .returned (.bool true) ∧ w = w' := calls_ev 5 1 (by kernel_rfl)
theorem reserved_43 (m : Bool) (w : World) : Calls Tryd.prog 26 #[.string ⟨#[119, 105, 116, 104]⟩, .bool m] w fun e w' => e = .returned (.bool true) ∧ w = w' := calls_ev 5 1 (by kernel_rfl)
theorem reserved_44 (m : Bool) (w : World) : Calls Tryd.prog 26 #[.string ⟨#[121, 105, 101, 108, 100]⟩, .bool m] w fun e w' => e = .returned (.bool true) ∧ w = w' := calls_ev 5 1 (by kernel_rfl)

set_option maxHeartbeats 8000000 in
theorem reserved_none (s : ByteArray) (m : Bool) (w : World) (ha : (s.data.toList == awaitB.data.toList) = false) (h : hasB words s = false) : Calls Tryd.prog 26 #[.string s, .bool m] w fun e w' => e = .returned (.bool false) ∧ w = w' := by
  have ga : (s.toList == [97, 119, 97, 105, 116]) = false := by rw [ByteArray.toList_eq]; exact ha
  have g0 : (s.toList == [98, 114, 101, 97, 107]) = false := hasB_notW ⟨#[98, 114, 101, 97, 107]⟩ h (by simp [words])
  have g1 : (s.toList == [99, 97, 115, 101]) = false := hasB_notW ⟨#[99, 97, 115, 101]⟩ h (by simp [words])
  have g2 : (s.toList == [99, 97, 116, 99, 104]) = false := hasB_notW ⟨#[99, 97, 116, 99, 104]⟩ h (by simp [words])
  have g3 : (s.toList == [99, 108, 97, 115, 115]) = false := hasB_notW ⟨#[99, 108, 97, 115, 115]⟩ h (by simp [words])
  have g4 : (s.toList == [99, 111, 110, 115, 116]) = false := hasB_notW ⟨#[99, 111, 110, 115, 116]⟩ h (by simp [words])
  have g5 : (s.toList == [99, 111, 110, 116, 105, 110, 117, 101]) = false := hasB_notW ⟨#[99, 111, 110, 116, 105, 110, 117, 101]⟩ h (by simp [words])
  have g6 : (s.toList == [100, 101, 98, 117, 103, 103, 101, 114]) = false := hasB_notW ⟨#[100, 101, 98, 117, 103, 103, 101, 114]⟩ h (by simp [words])
  have g7 : (s.toList == [100, 101, 102, 97, 117, 108, 116]) = false := hasB_notW ⟨#[100, 101, 102, 97, 117, 108, 116]⟩ h (by simp [words])
  have g8 : (s.toList == [100, 101, 108, 101, 116, 101]) = false := hasB_notW ⟨#[100, 101, 108, 101, 116, 101]⟩ h (by simp [words])
  have g9 : (s.toList == [100, 111]) = false := hasB_notW ⟨#[100, 111]⟩ h (by simp [words])
  have g10 : (s.toList == [101, 108, 115, 101]) = false := hasB_notW ⟨#[101, 108, 115, 101]⟩ h (by simp [words])
  have g11 : (s.toList == [101, 110, 117, 109]) = false := hasB_notW ⟨#[101, 110, 117, 109]⟩ h (by simp [words])
  have g12 : (s.toList == [101, 120, 112, 111, 114, 116]) = false := hasB_notW ⟨#[101, 120, 112, 111, 114, 116]⟩ h (by simp [words])
  have g13 : (s.toList == [101, 120, 116, 101, 110, 100, 115]) = false := hasB_notW ⟨#[101, 120, 116, 101, 110, 100, 115]⟩ h (by simp [words])
  have g14 : (s.toList == [102, 97, 108, 115, 101]) = false := hasB_notW ⟨#[102, 97, 108, 115, 101]⟩ h (by simp [words])
  have g15 : (s.toList == [102, 105, 110, 97, 108, 108, 121]) = false := hasB_notW ⟨#[102, 105, 110, 97, 108, 108, 121]⟩ h (by simp [words])
  have g16 : (s.toList == [102, 111, 114]) = false := hasB_notW ⟨#[102, 111, 114]⟩ h (by simp [words])
  have g17 : (s.toList == [102, 117, 110, 99, 116, 105, 111, 110]) = false := hasB_notW ⟨#[102, 117, 110, 99, 116, 105, 111, 110]⟩ h (by simp [words])
  have g18 : (s.toList == [105, 102]) = false := hasB_notW ⟨#[105, 102]⟩ h (by simp [words])
  have g19 : (s.toList == [105, 109, 112, 108, 101, 109, 101, 110, 116, 115]) = false := hasB_notW ⟨#[105, 109, 112, 108, 101, 109, 101, 110, 116, 115]⟩ h (by simp [words])
  have g20 : (s.toList == [105, 109, 112, 111, 114, 116]) = false := hasB_notW ⟨#[105, 109, 112, 111, 114, 116]⟩ h (by simp [words])
  have g21 : (s.toList == [105, 110]) = false := hasB_notW ⟨#[105, 110]⟩ h (by simp [words])
  have g22 : (s.toList == [105, 110, 115, 116, 97, 110, 99, 101, 111, 102]) = false := hasB_notW ⟨#[105, 110, 115, 116, 97, 110, 99, 101, 111, 102]⟩ h (by simp [words])
  have g23 : (s.toList == [105, 110, 116, 101, 114, 102, 97, 99, 101]) = false := hasB_notW ⟨#[105, 110, 116, 101, 114, 102, 97, 99, 101]⟩ h (by simp [words])
  have g24 : (s.toList == [108, 101, 116]) = false := hasB_notW ⟨#[108, 101, 116]⟩ h (by simp [words])
  have g25 : (s.toList == [110, 101, 119]) = false := hasB_notW ⟨#[110, 101, 119]⟩ h (by simp [words])
  have g26 : (s.toList == [110, 117, 108, 108]) = false := hasB_notW ⟨#[110, 117, 108, 108]⟩ h (by simp [words])
  have g27 : (s.toList == [112, 97, 99, 107, 97, 103, 101]) = false := hasB_notW ⟨#[112, 97, 99, 107, 97, 103, 101]⟩ h (by simp [words])
  have g28 : (s.toList == [112, 114, 105, 118, 97, 116, 101]) = false := hasB_notW ⟨#[112, 114, 105, 118, 97, 116, 101]⟩ h (by simp [words])
  have g29 : (s.toList == [112, 114, 111, 116, 101, 99, 116, 101, 100]) = false := hasB_notW ⟨#[112, 114, 111, 116, 101, 99, 116, 101, 100]⟩ h (by simp [words])
  have g30 : (s.toList == [112, 117, 98, 108, 105, 99]) = false := hasB_notW ⟨#[112, 117, 98, 108, 105, 99]⟩ h (by simp [words])
  have g31 : (s.toList == [114, 101, 116, 117, 114, 110]) = false := hasB_notW ⟨#[114, 101, 116, 117, 114, 110]⟩ h (by simp [words])
  have g32 : (s.toList == [115, 116, 97, 116, 105, 99]) = false := hasB_notW ⟨#[115, 116, 97, 116, 105, 99]⟩ h (by simp [words])
  have g33 : (s.toList == [115, 117, 112, 101, 114]) = false := hasB_notW ⟨#[115, 117, 112, 101, 114]⟩ h (by simp [words])
  have g34 : (s.toList == [115, 119, 105, 116, 99, 104]) = false := hasB_notW ⟨#[115, 119, 105, 116, 99, 104]⟩ h (by simp [words])
  have g35 : (s.toList == [116, 104, 105, 115]) = false := hasB_notW ⟨#[116, 104, 105, 115]⟩ h (by simp [words])
  have g36 : (s.toList == [116, 104, 114, 111, 119]) = false := hasB_notW ⟨#[116, 104, 114, 111, 119]⟩ h (by simp [words])
  have g37 : (s.toList == [116, 114, 117, 101]) = false := hasB_notW ⟨#[116, 114, 117, 101]⟩ h (by simp [words])
  have g38 : (s.toList == [116, 114, 121]) = false := hasB_notW ⟨#[116, 114, 121]⟩ h (by simp [words])
  have g39 : (s.toList == [116, 121, 112, 101, 111, 102]) = false := hasB_notW ⟨#[116, 121, 112, 101, 111, 102]⟩ h (by simp [words])
  have g40 : (s.toList == [118, 97, 114]) = false := hasB_notW ⟨#[118, 97, 114]⟩ h (by simp [words])
  have g41 : (s.toList == [118, 111, 105, 100]) = false := hasB_notW ⟨#[118, 111, 105, 100]⟩ h (by simp [words])
  have g42 : (s.toList == [119, 104, 105, 108, 101]) = false := hasB_notW ⟨#[119, 104, 105, 108, 101]⟩ h (by simp [words])
  have g43 : (s.toList == [119, 105, 116, 104]) = false := hasB_notW ⟨#[119, 105, 116, 104]⟩ h (by simp [words])
  have g44 : (s.toList == [121, 105, 101, 108, 100]) = false := hasB_notW ⟨#[121, 105, 101, 108, 100]⟩ h (by simp [words])
  clear h ha
  go_enter Tryd.func26, Tryd.ntmps26
  go_wp2_with fail
  go_ret
  exact ⟨rfl, rfl⟩

theorem reserved_any (s : ByteArray) (m : Bool) (w : World) : Calls Tryd.prog 26 #[.string s, .bool m] w fun e w' => e = .returned (.bool (resB s m)) ∧ w = w' := by
  cases ha : (s.data.toList == awaitB.data.toList)
  · unfold resB
    rw [ha]
    cases h : hasB words s
    · have := reserved_none s m w ha h
      cases m <;> exact this
    · have hm := hasB_mem h
      have e : (m && false || true) = true := by cases m <;> rfl
      rw [e]
      clear ha h
      simp only [words, List.mem_cons, List.mem_nil_iff, or_false] at hm
      rcases hm with rfl | rfl | rfl | rfl | rfl | rfl | rfl | rfl | rfl | rfl | rfl | rfl | rfl | rfl | rfl | rfl | rfl | rfl | rfl | rfl | rfl | rfl | rfl | rfl | rfl | rfl | rfl | rfl | rfl | rfl | rfl | rfl | rfl | rfl | rfl | rfl | rfl | rfl | rfl | rfl | rfl | rfl | rfl | rfl | rfl
      · exact reserved_0 m w
      · exact reserved_1 m w
      · exact reserved_2 m w
      · exact reserved_3 m w
      · exact reserved_4 m w
      · exact reserved_5 m w
      · exact reserved_6 m w
      · exact reserved_7 m w
      · exact reserved_8 m w
      · exact reserved_9 m w
      · exact reserved_10 m w
      · exact reserved_11 m w
      · exact reserved_12 m w
      · exact reserved_13 m w
      · exact reserved_14 m w
      · exact reserved_15 m w
      · exact reserved_16 m w
      · exact reserved_17 m w
      · exact reserved_18 m w
      · exact reserved_19 m w
      · exact reserved_20 m w
      · exact reserved_21 m w
      · exact reserved_22 m w
      · exact reserved_23 m w
      · exact reserved_24 m w
      · exact reserved_25 m w
      · exact reserved_26 m w
      · exact reserved_27 m w
      · exact reserved_28 m w
      · exact reserved_29 m w
      · exact reserved_30 m w
      · exact reserved_31 m w
      · exact reserved_32 m w
      · exact reserved_33 m w
      · exact reserved_34 m w
      · exact reserved_35 m w
      · exact reserved_36 m w
      · exact reserved_37 m w
      · exact reserved_38 m w
      · exact reserved_39 m w
      · exact reserved_40 m w
      · exact reserved_41 m w
      · exact reserved_42 m w
      · exact reserved_43 m w
      · exact reserved_44 m w
  · obtain rfl : s = awaitB := eq_of_data (eq_of_beq ha)
    have e : resB awaitB m = m := by cases m <;> decide
    rw [e]
    exact reserved_await m w
end Go.Proofs.YtidekaeccillhaaDoor
