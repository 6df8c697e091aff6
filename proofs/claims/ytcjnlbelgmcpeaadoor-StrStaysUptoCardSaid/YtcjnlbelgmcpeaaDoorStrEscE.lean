/- The walk of package str's escape, branch by branch (part E). -/
import Derived.Test.YtcjnlbelgmcpeaaDoorStrEsc
namespace Go.Proofs.YtcjnlbelgmcpeaaDoor
open Go.RowKit
set_option maxRecDepth 100000
set_option linter.unusedVariables false
set_option linter.unusedSectionVars false
section
variable (s : ByteArray) (i r n : Nat) (w : World) (hs : s.size ≤ 1152921504606846976) (hi : i < s.size) (hn1 : 1 ≤ n) (hn2 : i + n ≤ s.size) (hne : ¬ (r = 65533 ∧ n = 1)) (hr : r ≤ 1114111) (hv : OkRune r)
  (HD : Hid (Calls Tryd.prog 23 #[.string (s.extract i s.size)] w fun e w' => e = .returned (.tuple #[.int .i32 (r : Int), .int .i64 (n : Int)]) ∧ Below w.heap.size w w'))
include hs hi hn1 hn2 hne hr hv HD

set_option maxHeartbeats 4000000 in
theorem escape_simple (h1 : r ≠ 48 ∧ r ≠ 120 ∧ r ≠ 117 ∧ r ≠ 13 ∧ r ≠ 10 ∧ r ≠ 8232 ∧ r ≠ 8233) (h2 : 57 < r) (he : r ≠ 65533) (x : Int) (hx0 : simN r = x) (hx : 0 ≤ x) (hxl : x ≤ 13) :
    Calls Tryd.prog 24 #[.string s, .int .i64 ((i : Int) - 1)] w fun e w' => e = endG (escR s i r n) ∧ Below w.heap.size w w' := by
  have hne1 : ¬ (r = 65533 ∧ n = 1) := hne
  have hn0 : n ≠ 0 := by omega
  clear hne
  have HC : Hid (∀ w : World, Calls Tryd.prog 29 #[.int .i32 (r : Int)] w fun e w' => e = .returned (.int .i64 x) ∧ Below w.heap.size w w') := Lib.hid fun w => by subst hx0; exact simple_any r w (by omega) hv
  have HG : Hid (escR s i r n = ⟨x, i + n, true⟩) := Lib.hid (by unfold escR; rw [if_neg (by omega), if_neg (by omega), if_neg (by omega), if_neg (by omega), if_neg (by omega), if_neg (by omega), if_neg (by omega), hx0, if_pos hx])
  clear hx0 hv
  have d1 : r ≠ 48 := by omega
  have d2 : r ≠ 120 := by omega
  have d3 : r ≠ 117 := by omega
  have d4 : r ≠ 13 := by omega
  have d5 : r ≠ 10 := by omega
  have d6 : r ≠ 8232 := by omega
  have d7 : r ≠ 8233 := by omega
  have e0 : ((r : Int) == 48) = false := by rw [beq_eq_false_iff_ne]; omega
  have e1 : ((r : Int) == 120) = false := by rw [beq_eq_false_iff_ne]; omega
  have e2 : ((r : Int) == 117) = false := by rw [beq_eq_false_iff_ne]; omega
  have e3 : ((r : Int) == 13) = false := by rw [beq_eq_false_iff_ne]; omega
  have e4 : ((r : Int) == 10) = false := by rw [beq_eq_false_iff_ne]; omega
  have e5 : ((r : Int) == 8232) = false := by rw [beq_eq_false_iff_ne]; omega
  have e6 : ((r : Int) == 8233) = false := by rw [beq_eq_false_iff_ne]; omega
  clear h1 d1 d2 d3 d4 d5 d6 d7
  clear hne1
  go_enter Tryd.func24, Tryd.ntmps24
  go_wp2_with (first
      | (go_at_call 23; refine HD.out.mono ?_; rintro e w1 ⟨rfl, hb1⟩)
      | (go_at_call 29; refine (HC.out _).mono ?_; rintro e w2 ⟨rfl, hb2⟩))
  go_ret3
  exact ⟨by rw [HG.out]; exact ret_got rfl (by go_num) rfl, hb1.call hb2⟩

set_option maxHeartbeats 4000000 in
theorem escape_low (h1 : r ≠ 48 ∧ r ≠ 120 ∧ r ≠ 117 ∧ r ≠ 13 ∧ r ≠ 10 ∧ r ≠ 8232 ∧ r ≠ 8233) (h2 : r < 49) (he : r ≠ 65533) (x : Int) (hx0 : simN r = x) (hx : ¬ 0 ≤ x) (hxl : x ≤ 13) :
    Calls Tryd.prog 24 #[.string s, .int .i64 ((i : Int) - 1)] w fun e w' => e = endG (escR s i r n) ∧ Below w.heap.size w w' := by
  have hne1 : ¬ (r = 65533 ∧ n = 1) := hne
  have hn0 : n ≠ 0 := by omega
  clear hne
  have HC : Hid (∀ w : World, Calls Tryd.prog 29 #[.int .i32 (r : Int)] w fun e w' => e = .returned (.int .i64 x) ∧ Below w.heap.size w w') := Lib.hid fun w => by subst hx0; exact simple_any r w (by omega) hv
  have HG : Hid (escR s i r n = ⟨r, i + n, true⟩) := Lib.hid (by unfold escR; rw [if_neg (by omega), if_neg (by omega), if_neg (by omega), if_neg (by omega), if_neg (by omega), if_neg (by omega), if_neg (by omega), hx0, if_neg hx])
  clear hx0 hv
  have d1 : r ≠ 48 := by omega
  have d2 : r ≠ 120 := by omega
  have d3 : r ≠ 117 := by omega
  have d4 : r ≠ 13 := by omega
  have d5 : r ≠ 10 := by omega
  have d6 : r ≠ 8232 := by omega
  have d7 : r ≠ 8233 := by omega
  have e0 : ((r : Int) == 48) = false := by rw [beq_eq_false_iff_ne]; omega
  have e1 : ((r : Int) == 120) = false := by rw [beq_eq_false_iff_ne]; omega
  have e2 : ((r : Int) == 117) = false := by rw [beq_eq_false_iff_ne]; omega
  have e3 : ((r : Int) == 13) = false := by rw [beq_eq_false_iff_ne]; omega
  have e4 : ((r : Int) == 10) = false := by rw [beq_eq_false_iff_ne]; omega
  have e5 : ((r : Int) == 8232) = false := by rw [beq_eq_false_iff_ne]; omega
  have e6 : ((r : Int) == 8233) = false := by rw [beq_eq_false_iff_ne]; omega
  clear h1 d1 d2 d3 d4 d5 d6 d7
  clear hne1
  go_enter Tryd.func24, Tryd.ntmps24
  go_wp2_with (first
      | (go_at_call 23; refine HD.out.mono ?_; rintro e w1 ⟨rfl, hb1⟩)
      | (go_at_call 29; refine (HC.out _).mono ?_; rintro e w2 ⟨rfl, hb2⟩))
  go_ret3
  exact ⟨by rw [HG.out]; exact ret_got rfl (by go_num) rfl, hb1.call hb2⟩

set_option maxHeartbeats 4000000 in
theorem escape_high (h1 : r ≠ 48 ∧ r ≠ 120 ∧ r ≠ 117 ∧ r ≠ 13 ∧ r ≠ 10 ∧ r ≠ 8232 ∧ r ≠ 8233) (h2 : 57 < r) (he : r ≠ 65533) (x : Int) (hx0 : simN r = x) (hx : ¬ 0 ≤ x) (hxl : x ≤ 13) :
    Calls Tryd.prog 24 #[.string s, .int .i64 ((i : Int) - 1)] w fun e w' => e = endG (escR s i r n) ∧ Below w.heap.size w w' := by
  have hne1 : ¬ (r = 65533 ∧ n = 1) := hne
  have hn0 : n ≠ 0 := by omega
  clear hne
  have HC : Hid (∀ w : World, Calls Tryd.prog 29 #[.int .i32 (r : Int)] w fun e w' => e = .returned (.int .i64 x) ∧ Below w.heap.size w w') := Lib.hid fun w => by subst hx0; exact simple_any r w (by omega) hv
  have HG : Hid (escR s i r n = ⟨r, i + n, true⟩) := Lib.hid (by unfold escR; rw [if_neg (by omega), if_neg (by omega), if_neg (by omega), if_neg (by omega), if_neg (by omega), if_neg (by omega), if_neg (by omega), hx0, if_neg hx])
  clear hx0 hv
  have d1 : r ≠ 48 := by omega
  have d2 : r ≠ 120 := by omega
  have d3 : r ≠ 117 := by omega
  have d4 : r ≠ 13 := by omega
  have d5 : r ≠ 10 := by omega
  have d6 : r ≠ 8232 := by omega
  have d7 : r ≠ 8233 := by omega
  have e0 : ((r : Int) == 48) = false := by rw [beq_eq_false_iff_ne]; omega
  have e1 : ((r : Int) == 120) = false := by rw [beq_eq_false_iff_ne]; omega
  have e2 : ((r : Int) == 117) = false := by rw [beq_eq_false_iff_ne]; omega
  have e3 : ((r : Int) == 13) = false := by rw [beq_eq_false_iff_ne]; omega
  have e4 : ((r : Int) == 10) = false := by rw [beq_eq_false_iff_ne]; omega
  have e5 : ((r : Int) == 8232) = false := by rw [beq_eq_false_iff_ne]; omega
  have e6 : ((r : Int) == 8233) = false := by rw [beq_eq_false_iff_ne]; omega
  clear h1 d1 d2 d3 d4 d5 d6 d7
  clear hne1
  go_enter Tryd.func24, Tryd.ntmps24
  go_wp2_with (first
      | (go_at_call 23; refine HD.out.mono ?_; rintro e w1 ⟨rfl, hb1⟩)
      | (go_at_call 29; refine (HC.out _).mono ?_; rintro e w2 ⟨rfl, hb2⟩))
  go_ret3
  exact ⟨by rw [HG.out]; exact ret_got rfl (by go_num) rfl, hb1.call hb2⟩

set_option maxHeartbeats 4000000 in
theorem escape_err (h1 : r ≠ 48 ∧ r ≠ 120 ∧ r ≠ 117 ∧ r ≠ 13 ∧ r ≠ 10 ∧ r ≠ 8232 ∧ r ≠ 8233) (h2 : 57 < r) (he : r = 65533) (x : Int) (hx0 : simN r = x) (hx : ¬ 0 ≤ x) (hxl : x ≤ 13) :
    Calls Tryd.prog 24 #[.string s, .int .i64 ((i : Int) - 1)] w fun e w' => e = endG (escR s i r n) ∧ Below w.heap.size w w' := by
  have hne1 : ¬ (r = 65533 ∧ n = 1) := hne
  have hn0 : n ≠ 0 := by omega
  clear hne
  have HC : Hid (∀ w : World, Calls Tryd.prog 29 #[.int .i32 (r : Int)] w fun e w' => e = .returned (.int .i64 x) ∧ Below w.heap.size w w') := Lib.hid fun w => by subst hx0; exact simple_any r w (by omega) hv
  have HG : Hid (escR s i r n = ⟨r, i + n, true⟩) := Lib.hid (by unfold escR; rw [if_neg (by omega), if_neg (by omega), if_neg (by omega), if_neg (by omega), if_neg (by omega), if_neg (by omega), if_neg (by omega), hx0, if_neg hx])
  clear hx0 hv
  clear h1
  subst he
  have hne2 : n ≠ 1 := by omega
  have hne3 : ((n : Int) == 1) = false := by rw [beq_eq_false_iff_ne]; omega
  clear hne1 hne2
  go_enter Tryd.func24, Tryd.ntmps24
  go_wp2_with (first
      | (go_at_call 23; refine HD.out.mono ?_; rintro e w1 ⟨rfl, hb1⟩)
      | (go_at_call 29; refine (HC.out _).mono ?_; rintro e w2 ⟨rfl, hb2⟩))
  go_ret3
  exact ⟨by rw [HG.out]; exact ret_got rfl (by go_num) rfl, hb1.call hb2⟩

end
end Go.Proofs.YtcjnlbelgmcpeaaDoor
