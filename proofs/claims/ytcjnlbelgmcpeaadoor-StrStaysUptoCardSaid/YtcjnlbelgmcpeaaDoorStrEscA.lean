/- The walk of package str's escape, branch by branch (part A). -/
import Derived.Test.YtcjnlbelgmcpeaaDoorStrEsc
namespace Go.Proofs.YtcjnlbelgmcpeaaDoor
open Go.RowKit
set_option maxRecDepth 100000
set_option linter.unusedVariables false
set_option linter.unusedSectionVars false
section
variable (s : ByteArray) (i r n : Nat) (w : World) (hs : s.size ≤ 1152921504606846976) (hi : i < s.size) (hn1 : 1 ≤ n) (hn2 : i + n ≤ s.size) (hne : ¬ (r = 65533 ∧ n = 1)) (hr : r ≤ 1114111) (hv : OkRune r)
  (HD : Hid (Calls Tryd.prog 23 #[.string (s.extract i s.size)] w fun e w' => e = .returned (.tuple #[.int .i32 (r : Int), .int .i64 (n : Int)]) ∧ Below w.heap.size w w'))
include hs hi hn1 hn2 hne hr hv HD

set_option maxHeartbeats 4000000 in
theorem escape_digit (h1 : 49 ≤ r) (h2 : r ≤ 57) :
    Calls Tryd.prog 24 #[.string s, .int .i64 ((i : Int) - 1)] w fun e w' => e = endG (escR s i r n) ∧ Below w.heap.size w w' := by
  have hne1 : ¬ (r = 65533 ∧ n = 1) := hne
  have hn0 : n ≠ 0 := by omega
  clear hne
  have HG : Hid (escR s i r n = ⟨0, i, false⟩) := Lib.hid (by unfold escR; rw [if_pos ⟨h1, h2⟩])
  have hne2 : r ≠ 65533 := by omega
  clear hne1 hv
  go_enter Tryd.func24, Tryd.ntmps24
  go_wp2_with (go_at_call 23; refine HD.out.mono ?_; rintro e w1 ⟨rfl, hb1⟩)
  go_ret3
  exact ⟨by rw [HG.out]; exact ret_got rfl rfl rfl, hb1⟩

set_option maxHeartbeats 4000000 in
theorem escape_zero_bad (h1 : r = 48) (hin : i + 1 < s.size) (h2 : 48 ≤ (s[i + 1]'hin).toNat) (h3 : (s[i + 1]'hin).toNat ≤ 57) :
    Calls Tryd.prog 24 #[.string s, .int .i64 ((i : Int) - 1)] w fun e w' => e = endG (escR s i r n) ∧ Below w.heap.size w w' := by
  have hne1 : ¬ (r = 65533 ∧ n = 1) := hne
  have hn0 : n ≠ 0 := by omega
  clear hne
  have HG : Hid (escR s i r n = ⟨0, i + 1, false⟩) := Lib.hid (by unfold escR; rw [if_neg (by omega), if_pos h1, isDig_at hin]; simp [h2, h3])
  subst h1
  clear hne1 hv
  have g1 : (i : Int) + 1 < (s.size : Int) := by omega
  have g2 : 48 ≤ ((s[i + 1]'hin).toNat : Int) := by omega
  have g3 : ((s[i + 1]'hin).toNat : Int) ≤ 57 := by omega
  go_enter Tryd.func24, Tryd.ntmps24
  go_wp2_with (go_at_call 23; refine HD.out.mono ?_; rintro e w1 ⟨rfl, hb1⟩)
  go_ret3
  exact ⟨by rw [HG.out]; exact ret_got rfl (by go_num) rfl, hb1⟩

set_option maxHeartbeats 4000000 in
theorem escape_zero_low (h1 : r = 48) (hin : i + 1 < s.size) (h2 : (s[i + 1]'hin).toNat < 48) :
    Calls Tryd.prog 24 #[.string s, .int .i64 ((i : Int) - 1)] w fun e w' => e = endG (escR s i r n) ∧ Below w.heap.size w w' := by
  have hne1 : ¬ (r = 65533 ∧ n = 1) := hne
  have hn0 : n ≠ 0 := by omega
  clear hne
  have HG : Hid (escR s i r n = ⟨0, i + 1, true⟩) := Lib.hid (by unfold escR; rw [if_neg (by omega), if_pos h1, isDig_at hin, if_neg (by simp; omega)])
  subst h1
  clear hne1 hv
  have g1 : (i : Int) + 1 < (s.size : Int) := by omega
  have g2 : ((s[i + 1]'hin).toNat : Int) < 48 := by omega
  go_enter Tryd.func24, Tryd.ntmps24
  go_wp2_with (go_at_call 23; refine HD.out.mono ?_; rintro e w1 ⟨rfl, hb1⟩)
  go_ret3
  exact ⟨by rw [HG.out]; exact ret_got rfl (by go_num) rfl, hb1⟩

set_option maxHeartbeats 4000000 in
theorem escape_zero_high (h1 : r = 48) (hin : i + 1 < s.size) (h2 : 57 < (s[i + 1]'hin).toNat) :
    Calls Tryd.prog 24 #[.string s, .int .i64 ((i : Int) - 1)] w fun e w' => e = endG (escR s i r n) ∧ Below w.heap.size w w' := by
  have hne1 : ¬ (r = 65533 ∧ n = 1) := hne
  have hn0 : n ≠ 0 := by omega
  clear hne
  have HG : Hid (escR s i r n = ⟨0, i + 1, true⟩) := Lib.hid (by unfold escR; rw [if_neg (by omega), if_pos h1, isDig_at hin, if_neg (by simp; omega)])
  subst h1
  clear hne1 hv
  have g1 : (i : Int) + 1 < (s.size : Int) := by omega
  have g2 : 57 < ((s[i + 1]'hin).toNat : Int) := by omega
  have g3 : 48 ≤ ((s[i + 1]'hin).toNat : Int) := by omega
  go_enter Tryd.func24, Tryd.ntmps24
  go_wp2_with (go_at_call 23; refine HD.out.mono ?_; rintro e w1 ⟨rfl, hb1⟩)
  go_ret3
  exact ⟨by rw [HG.out]; exact ret_got rfl (by go_num) rfl, hb1⟩

set_option maxHeartbeats 4000000 in
theorem escape_zero_end (h1 : r = 48) (hin : ¬ i + 1 < s.size) :
    Calls Tryd.prog 24 #[.string s, .int .i64 ((i : Int) - 1)] w fun e w' => e = endG (escR s i r n) ∧ Below w.heap.size w w' := by
  have hne1 : ¬ (r = 65533 ∧ n = 1) := hne
  have hn0 : n ≠ 0 := by omega
  clear hne
  have HG : Hid (escR s i r n = ⟨0, i + 1, true⟩) := Lib.hid (by unfold escR; rw [if_neg (by omega), if_pos h1, isDig_out hin]; rfl)
  subst h1
  clear hne1 hv
  have g1 : ¬ (i : Int) + 1 < (s.size : Int) := by omega
  go_enter Tryd.func24, Tryd.ntmps24
  go_wp2_with (go_at_call 23; refine HD.out.mono ?_; rintro e w1 ⟨rfl, hb1⟩)
  go_ret3
  exact ⟨by rw [HG.out]; exact ret_got rfl (by go_num) rfl, hb1⟩

end
end Go.Proofs.YtcjnlbelgmcpeaaDoor
