/- The walk of package str's escape: the branches joined: it tells escB. -/
import Derived.Test.YtcjnlbelgmcpeaaDoorStrEscA
import Derived.Test.YtcjnlbelgmcpeaaDoorStrEscB
import Derived.Test.YtcjnlbelgmcpeaaDoorStrEscC
import Derived.Test.YtcjnlbelgmcpeaaDoorStrEscE
namespace Go.Proofs.YtcjnlbelgmcpeaaDoor
open Go.RowKit
set_option maxRecDepth 100000
set_option linter.unusedVariables false

set_option maxHeartbeats 4000000 in
/-- The decoder finds no character. -/
theorem escape_out (s : ByteArray) (i : Nat) (d n : Int) (w : World) (hs : s.size ≤ 1152921504606846976) (hi : i ≤ s.size)
    (h : n = 0 ∨ (d = 65533 ∧ n = 1)) (HD : Hid (Calls Tryd.prog 23 #[.string (s.extract i s.size)] w fun e w' => e = .returned (.tuple #[.int .i32 d, .int .i64 n]) ∧ Below w.heap.size w w')) :
    Calls Tryd.prog 24 #[.string s, .int .i64 ((i : Int) - 1)] w fun e w' => e = endG ⟨0, i, false⟩ ∧ Below w.heap.size w w' := by
  rcases h with rfl | ⟨rfl, rfl⟩
  all_goals
    go_enter Tryd.func24, Tryd.ntmps24
    go_wp2_with (go_at_call 23; refine HD.out.mono ?_; rintro e w1 ⟨rfl, hb1⟩)
    go_ret3
    exact ⟨ret_got rfl rfl rfl, hb1⟩

theorem simN_bd (r : Int) : -1 ≤ simN r ∧ simN r ≤ 13 := by
  unfold simN
  repeat' split
  all_goals omega
theorem simN_low (r : Int) (h : r < 98) : simN r = -1 := by
  unfold simN
  repeat' split
  all_goals omega

theorem escape_any (s : ByteArray) (i0 : Nat) (w : World) (hs : s.size ≤ 1152921504606846976) (hi : i0 < s.size) (hT : Tabs w) :
    Calls Tryd.prog 24 #[.string s, .int .i64 (i0 : Int)] w fun e w' => e = endG (escB s i0) ∧ Below w.heap.size w w' := by
  have ei : (i0 : Int) = ((i0 + 1 : Nat) : Int) - 1 := by omega
  by_cases hin : i0 + 1 < s.size
  · have HD := Lib.hid (decodeRune_rest s (i0 + 1) hin w hT)
    by_cases hl : lenB s (i0 + 1) = 0
    · rw [escB_out s i0 (Or.inr hl), ei]
      rw [decode_bad s (i0 + 1) hl] at HD
      exact escape_out s (i0 + 1) _ _ w hs (by omega) (Or.inr ⟨rfl, rfl⟩) HD
    · have hbad : ¬ ((Utf8.decode s (i0 + 1)).1 = 65533 ∧ (Utf8.decode s (i0 + 1)).2 = 1) := fun h => hl ((bad_iff s (i0 + 1)).2 h)
      have hn1 := decode_pos s (i0 + 1)
      have hn2 := decode_in s (i0 + 1) hin
      have hv : OkRune (Utf8.decode s (i0 + 1)).1 := decode_valid s (i0 + 1)
      have hr : (Utf8.decode s (i0 + 1)).1 ≤ 1114111 := by
        have := decode_valid s (i0 + 1)
        unfold Utf8.valid at this
        simp at this
        omega
      rw [escB_in s i0 hin hl, ei]
      generalize (Utf8.decode s (i0 + 1)).1 = r at *
      generalize (Utf8.decode s (i0 + 1)).2 = n at *
      generalize i0 + 1 = i at *
      by_cases c0 : 49 ≤ r ∧ r ≤ 57
      · exact escape_digit s i r n w hs hin hn1 hn2 hbad hr hv HD c0.1 c0.2
      by_cases c1 : r = 48
      · by_cases h : i + 1 < s.size
        · by_cases g1 : (s[i + 1]'h).toNat < 48
          · exact escape_zero_low s i r n w hs hin hn1 hn2 hbad hr hv HD c1 h g1
          · by_cases g2 : (s[i + 1]'h).toNat ≤ 57
            · exact escape_zero_bad s i r n w hs hin hn1 hn2 hbad hr hv HD c1 h (by omega) g2
            · exact escape_zero_high s i r n w hs hin hn1 hn2 hbad hr hv HD c1 h (by omega)
        · exact escape_zero_end s i r n w hs hin hn1 hn2 hbad hr hv HD c1 h
      by_cases c2 : r = 120
      · exact escape_hex2 s i r n w hs hin hn1 hn2 hbad hr hv HD c2
      by_cases c3 : r = 117
      · by_cases h : i + 1 < s.size
        · by_cases g1 : (s[i + 1]'h).toNat = 123
          · exact escape_brace s i r n w hs hin hn1 hn2 hbad hr hv HD c3 h g1
          · exact escape_hex4 s i r n w hs hin hn1 hn2 hbad hr hv HD c3 h g1
        · exact escape_hex4_end s i r n w hs hin hn1 hn2 hbad hr hv HD c3 h
      by_cases c4 : r = 13
      · by_cases h : i + 1 < s.size
        · by_cases g1 : (s[i + 1]'h).toNat = 10
          · exact escape_crlf s i r n w hs hin hn1 hn2 hbad hr hv HD c4 h g1
          · exact escape_cr s i r n w hs hin hn1 hn2 hbad hr hv HD c4 h g1
        · exact escape_cr_end s i r n w hs hin hn1 hn2 hbad hr hv HD c4 h
      by_cases c5 : r = 10
      · exact escape_line s i r n w hs hin hn1 hn2 hbad hr hv HD c5
      by_cases c6 : r = 8232
      · exact escape_sep s i r n w hs hin hn1 hn2 hbad hr hv HD c6
      by_cases c7 : r = 8233
      · exact escape_par s i r n w hs hin hn1 hn2 hbad hr hv HD c7
      have hall : r ≠ 48 ∧ r ≠ 120 ∧ r ≠ 117 ∧ r ≠ 13 ∧ r ≠ 10 ∧ r ≠ 8232 ∧ r ≠ 8233 := ⟨c1, c2, c3, c4, c5, c6, c7⟩
      have hbd := simN_bd (r : Int)
      by_cases h2 : r < 49
      · have hl := simN_low (r : Int) (by omega)
        exact escape_low s i r n w hs hin hn1 hn2 hbad hr hv HD hall h2 (by omega) _ hl (by omega) (by omega)
      · by_cases he : r = 65533
        · have hx : simN (r : Int) = -1 := by subst he; decide
          exact escape_err s i r n w hs hin hn1 hn2 hbad hr hv HD hall (by omega) he _ hx (by omega) (by omega)
        · by_cases hx : 0 ≤ simN (r : Int)
          · exact escape_simple s i r n w hs hin hn1 hn2 hbad hr hv HD hall (by omega) he _ rfl hx hbd.2
          · exact escape_high s i r n w hs hin hn1 hn2 hbad hr hv HD hall (by omega) he _ rfl hx (by omega)
  · rw [escB_out s i0 (Or.inl hin), ei]
    exact escape_out s (i0 + 1) _ _ w hs (by omega) (Or.inl rfl) (Lib.hid (decodeRune_end s (i0 + 1) (by omega) w hT))
end Go.Proofs.YtcjnlbelgmcpeaaDoor
