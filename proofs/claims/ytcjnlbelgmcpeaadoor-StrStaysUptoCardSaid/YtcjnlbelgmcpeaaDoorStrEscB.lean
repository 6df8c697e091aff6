/- The walk of package str's escape, branch by branch (part B). -/
import Derived.Test.YtcjnlbelgmcpeaaDoorStrEsc
namespace Go.Proofs.YtcjnlbelgmcpeaaDoor
open Go.RowKit
set_option maxRecDepth 100000
set_option linter.unusedVariables false
set_option linter.unusedSectionVars false
section
variable (s : ByteArray) (i r n : Nat) (w : World) (hs : s.size ≤ 1152921504606846976) (hi : i < s.size) (hn1 : 1 ≤ n) (hn2 : i + n ≤ s.size) (hne : ¬ (r = 65533 ∧ n = 1)) (hr : r ≤ 1114111) (hv : OkRune r)
  (HD : Hid (Calls Tryd.prog 23 #[.string (s.extract i s.size)] w fun e w' => e = .returned (.tuple #[.int .i32 (r : Int), .int .i64 (n : Int)]) ∧ Below w.heap.size w w'))
include hs hi hn1 hn2 hne hr hv HD

set_option maxHeartbeats 4000000 in
theorem escape_hex2 (h1 : r = 120) :
    Calls Tryd.prog 24 #[.string s, .int .i64 ((i : Int) - 1)] w fun e w' => e = endG (escR s i r n) ∧ Below w.heap.size w w' := by
  have hne1 : ¬ (r = 65533 ∧ n = 1) := hne
  have hn0 : n ≠ 0 := by omega
  clear hne
  have HG : Hid (escR s i r n = gotOf (digF s 2 (i + 1) 0)) := Lib.hid (by unfold escR; rw [if_neg (by omega), if_neg (by omega), if_pos h1])
  have HC : Hid (∀ w : World, Calls Tryd.prog 27 #[.string s, .int .i64 ((i : Int) + 1), .int .i64 2] w fun e w' => e = endG (gotOf (digF s 2 (i + 1) 0)) ∧ w = w') := Lib.hid fun w => digits_any s (i + 1) 2 w (by omega) (by omega) (by decide)
  generalize gotOf (digF s 2 (i + 1) 0) = g at *
  obtain ⟨gv, gt, gf⟩ := g
  subst h1
  clear hne1 hv
  go_enter Tryd.func24, Tryd.ntmps24
  go_wp2_with (first
      | (go_at_call 23; refine HD.out.mono ?_; rintro e w1 ⟨rfl, hb1⟩)
      | (go_at_call 27; refine (HC.out _).mono ?_; rintro e w2 ⟨rfl, rfl⟩; simp only [endG]))
  go_ret3
  exact ⟨by rw [HG.out]; rfl, hb1⟩

set_option maxHeartbeats 4000000 in
theorem escape_brace (h1 : r = 117) (hin : i + 1 < s.size) (h2 : (s[i + 1]'hin).toNat = 123) :
    Calls Tryd.prog 24 #[.string s, .int .i64 ((i : Int) - 1)] w fun e w' => e = endG (escR s i r n) ∧ Below w.heap.size w w' := by
  have hne1 : ¬ (r = 65533 ∧ n = 1) := hne
  have hn0 : n ≠ 0 := by omega
  clear hne
  have HG : Hid (escR s i r n = gotOf (braRest s (i + 2) (i + 2) 0)) := Lib.hid (by unfold escR; rw [if_neg (by omega), if_neg (by omega), if_neg (by omega), if_pos ⟨h1, isByte_at hin h2⟩])
  have HC : Hid (∀ w : World, Calls Tryd.prog 28 #[.string s, .int .i64 ((i : Int) + 2)] w fun e w' => e = endG (gotOf (braRest s (i + 2) (i + 2) 0)) ∧ w = w') := Lib.hid fun w => braced_any s (i + 2) w (by omega) (by omega)
  generalize gotOf (braRest s (i + 2) (i + 2) 0) = g at *
  obtain ⟨gv, gt, gf⟩ := g
  subst h1
  clear hne1 hv
  have g1 : (i : Int) + 1 < (s.size : Int) := by omega
  have g2 : ((s[i + 1]'hin).toNat : Int) = 123 := by omega
  go_enter Tryd.func24, Tryd.ntmps24
  go_wp2_with (first
      | (go_at_call 23; refine HD.out.mono ?_; rintro e w1 ⟨rfl, hb1⟩)
      | (go_at_call 28; refine (HC.out _).mono ?_; rintro e w2 ⟨rfl, rfl⟩; simp only [endG]))
  go_ret3
  exact ⟨by rw [HG.out]; rfl, hb1⟩

set_option maxHeartbeats 4000000 in
theorem escape_hex4_end (h1 : r = 117) (hin : ¬ i + 1 < s.size) :
    Calls Tryd.prog 24 #[.string s, .int .i64 ((i : Int) - 1)] w fun e w' => e = endG (escR s i r n) ∧ Below w.heap.size w w' := by
  have hne1 : ¬ (r = 65533 ∧ n = 1) := hne
  have hn0 : n ≠ 0 := by omega
  clear hne
  have HG : Hid (escR s i r n = gotOf (digF s 4 (i + 1) 0)) := Lib.hid (by unfold escR; rw [if_neg (by omega), if_neg (by omega), if_neg (by omega), if_neg (by rw [isByte_out hin]; simp), if_pos h1])
  have HC : Hid (∀ w : World, Calls Tryd.prog 27 #[.string s, .int .i64 ((i : Int) + 1), .int .i64 4] w fun e w' => e = endG (gotOf (digF s 4 (i + 1) 0)) ∧ w = w') := Lib.hid fun w => digits_any s (i + 1) 4 w (by omega) (by omega) (by decide)
  generalize gotOf (digF s 4 (i + 1) 0) = g at *
  obtain ⟨gv, gt, gf⟩ := g
  subst h1
  clear hne1 hv
  have g1 : ¬ (i : Int) + 1 < (s.size : Int) := by omega
  go_enter Tryd.func24, Tryd.ntmps24
  go_wp2_with (first
      | (go_at_call 23; refine HD.out.mono ?_; rintro e w1 ⟨rfl, hb1⟩)
      | (go_at_call 27; refine (HC.out _).mono ?_; rintro e w2 ⟨rfl, rfl⟩; simp only [endG]))
  go_ret3
  exact ⟨by rw [HG.out]; rfl, hb1⟩

set_option maxHeartbeats 4000000 in
theorem escape_hex4 (h1 : r = 117) (hin : i + 1 < s.size) (h2 : (s[i + 1]'hin).toNat ≠ 123) :
    Calls Tryd.prog 24 #[.string s, .int .i64 ((i : Int) - 1)] w fun e w' => e = endG (escR s i r n) ∧ Below w.heap.size w w' := by
  have hne1 : ¬ (r = 65533 ∧ n = 1) := hne
  have hn0 : n ≠ 0 := by omega
  clear hne
  have HG : Hid (escR s i r n = gotOf (digF s 4 (i + 1) 0)) := Lib.hid (by unfold escR; rw [if_neg (by omega), if_neg (by omega), if_neg (by omega), if_neg (by rw [isByte_not hin h2]; simp), if_pos h1])
  have HC : Hid (∀ w : World, Calls Tryd.prog 27 #[.string s, .int .i64 ((i : Int) + 1), .int .i64 4] w fun e w' => e = endG (gotOf (digF s 4 (i + 1) 0)) ∧ w = w') := Lib.hid fun w => digits_any s (i + 1) 4 w (by omega) (by omega) (by decide)
  generalize gotOf (digF s 4 (i + 1) 0) = g at *
  obtain ⟨gv, gt, gf⟩ := g
  subst h1
  clear hne1 hv
  have g1 : (i : Int) + 1 < (s.size : Int) := by omega
  have g2 : ((s[i + 1]'hin).toNat : Int) ≠ 123 := by omega
  go_enter Tryd.func24, Tryd.ntmps24
  go_wp2_with (first
      | (go_at_call 23; refine HD.out.mono ?_; rintro e w1 ⟨rfl, hb1⟩)
      | (go_at_call 27; refine (HC.out _).mono ?_; rintro e w2 ⟨rfl, rfl⟩; simp only [endG]))
  go_ret3
  exact ⟨by rw [HG.out]; rfl, hb1⟩

end
end Go.Proofs.YtcjnlbelgmcpeaaDoor
