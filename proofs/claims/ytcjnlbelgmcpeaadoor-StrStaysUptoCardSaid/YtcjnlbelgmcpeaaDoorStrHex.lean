/- The walks of package str's digits: hex, digits, braced. -/
import Derived.Test.YtcjnlbelgmcpeaaDoorRows
import Derived.Test.YtcjnlbelgmcpeaaDoorKit
import Derived.Test.YtcjnlbelgmcpeaaDoorStrPlain
import Derived.Deep.RegionWith
import Derived.Laws.Bits64b
import Derived.OwnWalk
namespace Go.Proofs.YtcjnlbelgmcpeaaDoor
open Go.RowKit
set_option maxRecDepth 100000
set_option linter.unusedVariables false

set_option maxHeartbeats 4000000 in
theorem hex_any (c : Nat) (w : World) (hc : c < 256) :
    Calls Tryd.prog 33 #[.int .u8 (c : Int)] w fun e w' => e = .returned (.int .i64 (hexN c)) ∧ w = w' := by
  have hcase : (c < 48) ∨ (48 ≤ c ∧ c ≤ 57) ∨ (57 < c ∧ c < 65) ∨ (65 ≤ c ∧ c ≤ 70) ∨ (70 < c ∧ c < 97) ∨ (97 ≤ c ∧ c ≤ 102) ∨ 102 < c := by omega
  rcases hcase with h | ⟨h, h'⟩ | ⟨h, h'⟩ | ⟨h, h'⟩ | ⟨h, h'⟩ | ⟨h, h'⟩ | h
  all_goals
    have HV : Hid (hexN c = _) := Lib.hid (by unfold hexN; rfl)
    go_enter Tryd.func33, Tryd.ntmps33
    go_wp2
    go_ret
    refine ⟨ret_int ?_, rfl⟩
    rw [HV.out]
    clear HV
    repeat' split
    all_goals omega

theorem or16 (x h : Nat) (hx : x < 72057594037927936) (hh : h < 16) : bits .or .i64 ((x : Int) * 16) (h : Int) = ((16 * x + h : Nat) : Int) := by
  have hx1 : x * 16 < 18446744073709551616 := by omega
  have e0 : (x : Int) * 16 = ((x * 16 : Nat) : Int) := by omega
  have h1 : (BitVec.ofInt 64 ((x * 16 : Nat) : Int)).toNat = x * 16 := by
    rw [BitVec.ofInt_natCast, BitVec.toNat_ofNat]; exact Nat.mod_eq_of_lt (by omega)
  have h2 : (BitVec.ofInt 64 (h : Int)).toNat = h := by
    rw [BitVec.ofInt_natCast, BitVec.toNat_ofNat]; exact Nat.mod_eq_of_lt (by omega)
  have h3 : x * 16 ||| h = 16 * x + h := by
    have := Nat.shiftLeft_add_eq_or_of_lt (i := 4) (b := h) (by omega) x
    rw [Nat.shiftLeft_eq, show (2 : Nat) ^ 4 = 16 from rfl] at this
    omega
  rw [e0]
  show IntKind.i64.wrap ((BitVec.ofInt 64 ((x * 16 : Nat) : Int) ||| BitVec.ofInt 64 (h : Int)).toNat : Int) = _
  rw [BitVec.toNat_or, h1, h2, h3, IntKind.wrap_i64]
  omega

/-- An ending that hands a Got out. -/
def endG (g : Got) : Ending := .returned (.tuple #[.int .i64 g.val, .int .i64 (g.to : Int), .bool g.fine])
theorem ret_got {a b : Int} {c : Bool} {g : Got} (h : g.val = a) (h' : (g.to : Int) = b) (h'' : g.fine = c) : Ending.returned (.tuple #[.int .i64 a, .int .i64 b, .bool c]) = endG g := by
  subst h h' h''
  rfl
theorem got_none (r : Option Nat × Nat) (p : Nat) (h : r = (Option.none, p)) : gotOf r = ⟨0, p, false⟩ := by subst h; rfl
theorem got_some (r : Option Nat × Nat) (x p : Nat) (h : r = (some x, p)) : gotOf r = ⟨x, p, true⟩ := by subst h; rfl

theorem pow16 {x k d : Nat} (hx : x < 16 ^ k) (hd : d < 16) : 16 * x + d < 16 ^ (k + 1) := by
  have e : 16 ^ (k + 1) = 16 ^ k * 16 := Nat.pow_succ 16 k
  rw [e]
  generalize 16 ^ k = p at hx
  omega

set_option maxHeartbeats 4000000 in
theorem digits_any (s : ByteArray) (i m : Nat) (w : World) (hs : s.size ≤ 2305843009213693952) (hi : i ≤ 2305843009213693952) (hm : m ≤ 4) :
    Calls Tryd.prog 27 #[.string s, .int .i64 (i : Int), .int .i64 (m : Int)] w fun e w' => e = endG (gotOf (digF s m i 0)) ∧ w = w' := by
  go_enter Tryd.func27, Tryd.ntmps27
  go_wp2
  go_loop [1, 9, 11] (fun a x k => ∃ (kk aa xx : Nat), kk ≤ m ∧ a = .int .i64 (aa : Int) ∧ x = .int .i64 (xx : Int) ∧ k = .int .i64 (kk : Int) ∧ aa ≤ 2305843009213693952 + kk ∧ xx < 16 ^ kk ∧ digF s (m - kk) aa xx = digF s m i 0) (fun _ _ k => m - (intOf k).toNat)
  case atStart => exact ⟨0, i, 0, Nat.zero_le _, rfl, rfl, rfl, by omega, by decide, rfl⟩
  case round =>
    obtain ⟨kk, aa, xx, hk, rfl, rfl, rfl, ha, hx, he⟩ := hrel
    have HE := Lib.hid he
    have HX := Lib.hid hx
    clear he hx
    by_cases hlt : kk < m
    · obtain ⟨f, hf⟩ : ∃ f, m - kk = f + 1 := ⟨m - kk - 1, by omega⟩
      have hx2 : xx < 72057594037927936 := by
        have h1 := HX.out
        have h2 : 16 ^ kk ≤ 16 ^ 4 := Nat.pow_le_pow_right (by omega) (by omega)
        have h3 : (16 : Nat) ^ 4 = 65536 := rfl
        omega
      by_cases hin : aa < s.size
      · have HB : Hid (hexAt s aa = hexN (byt s aa)) := Lib.hid (by unfold hexAt; rw [if_pos hin])
        have HH := Lib.hid (hex_any ((s[aa]'hin).toNat) w (s[aa]'hin).toNat_lt)
        have HY : Hid (hexN ((s[aa]'hin).toNat) = hexN (byt s aa)) := Lib.hid (by rw [byt_eq])
        have hbd := hexN_bd (byt s aa)
        generalize hexN (byt s aa) = h at *
        by_cases hh : 0 ≤ h
        · obtain ⟨d, rfl⟩ : ∃ d : Nat, h = (d : Int) := ⟨h.toNat, by omega⟩
          have ho := or16 xx d hx2 (by omega)
          have HS : Hid (digF s (m - kk) aa xx = digF s f (aa + 1) (16 * xx + d)) := Lib.hid (by rw [hf, digF_step s f aa xx (by rw [HB.out]; exact hh), HB.out]; rfl)
          have HF : Hid (m - (kk + 1) = f) := Lib.hid (by omega)
          clear hf
          go_wp2_with (go_at_call 33; refine HH.out.mono ?_; rw [HY.out]; rintro e w1 ⟨rfl, rfl⟩)
          go_round
          case rel => exact ⟨kk + 1, aa + 1, 16 * xx + d, by omega, by go_num, by go_num, by go_num, by omega, pow16 HX.out (by omega), by rw [← HE.out, HS.out, HF.out]⟩
          case measure => simp [intOf]; omega
        · have HS : Hid (digF s (m - kk) aa xx = (Option.none, aa)) := Lib.hid (by rw [hf]; exact digF_stop s f aa xx (by rw [HB.out]; exact hh))
          clear hf
          go_wp2_with (go_at_call 33; refine HH.out.mono ?_; rw [HY.out]; rintro e w1 ⟨rfl, rfl⟩)
          go_ret3
          rw [got_none _ aa (by rw [← HE.out, HS.out])]
          exact ⟨rfl, rfl⟩
      · have HS : Hid (digF s (m - kk) aa xx = (Option.none, aa)) := Lib.hid (by rw [hf]; exact digF_stop s f aa xx (by unfold hexAt; rw [if_neg hin]; decide))
        clear hf
        go_wp2_with fail
        go_ret3
        rw [got_none _ aa (by rw [← HE.out, HS.out])]
        exact ⟨rfl, rfl⟩
    · have HS : Hid (digF s (m - kk) aa xx = (some xx, aa)) := Lib.hid (by rw [show m - kk = 0 by omega]; rfl)
      go_wp2_with fail
      go_ret3
      rw [got_some _ xx aa (by rw [← HE.out, HS.out])]
      exact ⟨rfl, rfl⟩

set_option maxHeartbeats 4000000 in
theorem braced_any (s : ByteArray) (i : Nat) (w : World) (hs : s.size ≤ 2305843009213693952) (hi : i ≤ s.size) :
    Calls Tryd.prog 28 #[.string s, .int .i64 (i : Int)] w fun e w' => e = endG (gotOf (braRest s i i 0)) ∧ w = w' := by
  go_enter Tryd.func28, Tryd.ntmps28
  go_wp2
  go_loop [1, 7] (fun a x => ∃ (aa xx : Nat), a = .int .i64 (aa : Int) ∧ x = .int .i64 (xx : Int) ∧ i ≤ aa ∧ aa ≤ s.size ∧ xx ≤ 1114112 ∧ braRest s i aa xx = braRest s i i 0) (fun a _ => s.size - (intOf a).toNat)
  case atStart => exact ⟨i, 0, rfl, rfl, Nat.le_refl _, hi, by omega, rfl⟩
  case round =>
    obtain ⟨aa, xx, rfl, rfl, hia, ha, hx, he⟩ := hrel
    have HE := Lib.hid he
    clear he
    by_cases hin : aa < s.size
    · have HB : Hid (hexAt s aa = hexN (byt s aa)) := Lib.hid (by unfold hexAt; rw [if_pos hin])
      have HH := Lib.hid (hex_any ((s[aa]'hin).toNat) w (s[aa]'hin).toNat_lt)
      have HY : Hid (hexN ((s[aa]'hin).toNat) = hexN (byt s aa)) := Lib.hid (by rw [byt_eq])
      have HZ : Hid (byt s aa = (s[aa]'hin).toNat) := Lib.hid (byt_eq s aa hin).symm
      have hbd := hexN_bd (byt s aa)
      generalize hexN (byt s aa) = h at *
      by_cases hh : 0 ≤ h
      · obtain ⟨d, rfl⟩ : ∃ d : Nat, h = (d : Int) := ⟨h.toNat, by omega⟩
        have ho := or16 xx d (by omega) (by omega)
        have HS : Hid (braRest s i aa xx = braRest s i (aa + 1) (min (16 * xx + d) 1114112)) := Lib.hid (by rw [braRest_step s i aa xx (by rw [HB.out]; exact hh), HB.out]; rfl)
        by_cases hc : 16 * xx + d < 1114112
        all_goals
          go_wp2_with (go_at_call 33; refine HH.out.mono ?_; rw [HY.out]; rintro e w1 ⟨rfl, rfl⟩)
          go_round
          case rel => exact ⟨aa + 1, min (16 * xx + d) 1114112, by go_num, by go_num, by omega, by omega, by omega, by rw [← HE.out, HS.out]⟩
          case measure => simp [intOf]; omega
      · have HS := Lib.hid (braRest_end s i aa xx (by rw [HB.out]; exact hh))
        have H125 : Hid (Calls Tryd.prog 33 #[.int .u8 125] w fun e w' => e = .returned (.int .i64 (-1)) ∧ w = w') := Lib.hid (hex_any 125 w (by decide))
        by_cases g1 : (s[aa]'hin).toNat = 125
        · by_cases g2 : aa = i
          · have HG := Lib.hid (got_none _ aa (HE.out.symm.trans (HS.out.trans (if_neg (fun h => h.2.2.1 g2)))))
            subst g2
            clear HH HY
            go_wp2_with (go_at_call 33; refine H125.out.mono ?_; rintro e w1 ⟨rfl, rfl⟩)
            go_ret3
            exact ⟨by rw [HG.out]; exact ret_got rfl rfl rfl, rfl⟩
          · by_cases g3 : xx ≤ 1114111
            · have HG := Lib.hid (got_some _ xx (aa + 1) (HE.out.symm.trans (HS.out.trans (if_pos ⟨hin, by rw [HZ.out]; exact g1, g2, g3⟩))))
              clear HH HY
              go_wp2_with (go_at_call 33; refine H125.out.mono ?_; rintro e w1 ⟨rfl, rfl⟩)
              go_ret3
              exact ⟨by rw [HG.out]; exact ret_got rfl (by go_num) rfl, rfl⟩
            · have HG := Lib.hid (got_none _ aa (HE.out.symm.trans (HS.out.trans (if_neg (fun h => g3 h.2.2.2)))))
              clear HH HY
              go_wp2_with (go_at_call 33; refine H125.out.mono ?_; rintro e w1 ⟨rfl, rfl⟩)
              go_ret3
              exact ⟨by rw [HG.out]; exact ret_got rfl rfl rfl, rfl⟩
        · have HG := Lib.hid (got_none _ aa (HE.out.symm.trans (HS.out.trans (if_neg (fun h => g1 (by rw [← HZ.out]; exact h.2.1))))))
          go_wp2_with (go_at_call 33; refine HH.out.mono ?_; rw [HY.out]; rintro e w1 ⟨rfl, rfl⟩)
          go_ret3
          exact ⟨by rw [HG.out]; exact ret_got rfl rfl rfl, rfl⟩
    · have hh : ¬ 0 ≤ hexAt s aa := by unfold hexAt; rw [if_neg hin]; decide
      have HG := Lib.hid (got_none _ aa (HE.out.symm.trans ((braRest_end s i aa xx hh).trans (if_neg (fun h => hin h.1)))))
      clear hh
      go_wp2_with fail
      go_ret3
      exact ⟨by rw [HG.out]; exact ret_got rfl rfl rfl, rfl⟩
end Go.Proofs.YtcjnlbelgmcpeaaDoor
