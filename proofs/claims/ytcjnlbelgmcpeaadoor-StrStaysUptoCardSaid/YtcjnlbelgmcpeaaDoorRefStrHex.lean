/- The reference of the strings: hex, digits, braced, simple, Units, Ends. -/
import Derived.Test.YtcjnlbelgmcpeaaDoorStrUnits
import Derived.Test.YtcjnlbelgmcpeaaDoorRefRune
namespace Go.Proofs.YtcjnlbelgmcpeaaDoor
open Go.RowKit
set_option maxRecDepth 100000
set_option linter.unusedVariables false
set_option linter.unusedSimpArgs false

set_option maxHeartbeats 1000000 in
theorem rhex_any (s : ByteArray) (i : Nat) (w : World) (hs : s.size ≤ 4194304) :
    Calls Tryd.prog 44 #[.string s, .int .i64 (i : Int)] w fun e w' => e = .returned (.int .i64 (hexAt s i)) ∧ w = w' := by
  by_cases hi : i < s.size
  · have HV : Hid (hexAt s i = hexN ((s[i]'hi).toNat)) := Lib.hid (by unfold hexAt; rw [if_pos hi, byt_eq])
    have g0 : 0 ≤ ((s[i]'hi).toNat : Int) := by omega
    have g1 : ((s[i]'hi).toNat : Int) < 256 := by have := (s[i]'hi).toNat_lt; omega
    rcases (by omega : (s[i]'hi).toNat < 48 ∨ (48 ≤ (s[i]'hi).toNat ∧ (s[i]'hi).toNat ≤ 57) ∨ (57 < (s[i]'hi).toNat ∧ (s[i]'hi).toNat < 65) ∨ (65 ≤ (s[i]'hi).toNat ∧ (s[i]'hi).toNat ≤ 70) ∨ (70 < (s[i]'hi).toNat ∧ (s[i]'hi).toNat < 97) ∨ (97 ≤ (s[i]'hi).toNat ∧ (s[i]'hi).toNat ≤ 102) ∨ 102 < (s[i]'hi).toNat) with h | ⟨h, h'⟩ | ⟨h, h'⟩ | ⟨h, h'⟩ | ⟨h, h'⟩ | ⟨h, h'⟩ | h
    all_goals
      go_enter Tryd.func44, Tryd.ntmps44
      go_wp2
      go_ret
      refine ⟨ret_int ?_, rfl⟩
      rw [HV.out]
      unfold hexN
      repeat' split
      all_goals omega
  · have HV : Hid (hexAt s i = -1) := Lib.hid (by unfold hexAt; rw [if_neg hi])
    go_enter Tryd.func44, Tryd.ntmps44
    go_wp2_with fail
    go_ret
    exact ⟨ret_int HV.out.symm, rfl⟩
theorem rhex_at (s : ByteArray) (i : Nat) {x : Int} (w : World) (hs : s.size ≤ 4194304) (hx : x = (i : Int)) :
    Calls Tryd.prog 44 #[.string s, .int .i64 x] w fun e w' => e = .returned (.int .i64 (hexAt s i)) ∧ w = w' := by
  subst hx
  exact rhex_any s i w hs

/-- The reference's word for what was read. -/
def rval (o : Option Nat) : Int := match o with | some x => (x : Int) | Option.none => -1
theorem rval_some {r : Option Nat × Nat} {x p : Nat} (h : r = (some x, p)) : rval r.1 = x ∧ r.2 = p := by subst h; exact ⟨rfl, rfl⟩
theorem rval_none {r : Option Nat × Nat} {p : Nat} (h : r = (Option.none, p)) : rval r.1 = -1 ∧ r.2 = p := by subst h; exact ⟨rfl, rfl⟩

set_option maxHeartbeats 2000000 in
theorem rdigits_any (s : ByteArray) (i m : Nat) {y : Int} (w : World) (hs : s.size ≤ 4194304) (hi : i ≤ 8388608) (hm : m ≤ 4) (hy : y = (i : Int)) :
    Calls Tryd.prog 35 #[.string s, .int .i64 y, .int .i64 (m : Int)] w fun e w' => e = .returned (.tuple #[.int .i64 (rval (digF s m i 0).1), .int .i64 ((digF s m i 0).2 : Int)]) ∧ w = w' := by
  subst hy
  go_enter Tryd.func35, Tryd.ntmps35
  go_wp2
  go_loop [8, 9] (fun x k => ∃ (kk xx : Nat), kk ≤ m ∧ x = .int .i64 (xx : Int) ∧ k = .int .i64 (kk : Int) ∧ xx < 16 ^ kk ∧ digF s (m - kk) (i + kk) xx = digF s m i 0) (fun _ k => m - (intOf k).toNat)
  case atStart => exact ⟨0, 0, Nat.zero_le _, rfl, rfl, by decide, rfl⟩
  case round =>
    obtain ⟨kk, xx, hk, rfl, rfl, hx, he⟩ := hrel
    have HE := Lib.hid he
    have HX := Lib.hid hx
    clear he hx
    by_cases hlt : kk < m
    · obtain ⟨f, hf⟩ : ∃ f, m - kk = f + 1 := ⟨m - kk - 1, by omega⟩
      have hx2 : xx < 65536 := by
        have h1 := HX.out
        have h2 : 16 ^ kk ≤ 16 ^ 4 := Nat.pow_le_pow_right (by omega) (by omega)
        have h3 : (16 : Nat) ^ 4 = 65536 := rfl
        omega
      have hbd := hexAt_bd s (i + kk)
      have HH := Lib.hid (fun W => rhex_at s (i + kk) (x := (i : Int) + kk) W hs (by omega))
      have HS1 := Lib.hid (digF_step s f (i + kk) xx)
      have HS2 := Lib.hid (digF_stop s f (i + kk) xx)
      generalize hexAt s (i + kk) = h at *
      by_cases hh : 0 ≤ h
      · obtain ⟨d, rfl⟩ : ∃ d : Nat, h = (d : Int) := ⟨h.toNat, by omega⟩
        have HS : Hid (digF s (m - kk) (i + kk) xx = digF s f (i + kk + 1) (16 * xx + d)) := Lib.hid (by rw [hf, HS1.out hh]; rfl)
        have HF : Hid (m - (kk + 1) = f) := Lib.hid (by omega)
        clear hf
        go_wp2_with (go_at_call 44; refine (HH.out _).mono ?_; rintro e w1 ⟨rfl, rfl⟩)
        go_round
        case rel => exact ⟨kk + 1, 16 * xx + d, by omega, by go_num, by go_num, pow16 HX.out (by omega), by rw [← HE.out, HS.out, HF.out]; rfl⟩
        case measure => simp [intOf]; omega
      · have HS : Hid (digF s (m - kk) (i + kk) xx = (Option.none, i + kk)) := Lib.hid (by rw [hf]; exact HS2.out hh)
        have HR := Lib.hid (rval_none (HE.out.symm.trans HS.out))
        clear hf
        go_wp2_with (go_at_call 44; refine (HH.out _).mono ?_; rintro e w1 ⟨rfl, rfl⟩)
        go_ret2
        exact ⟨ret_two HR.out.1.symm (by rw [HR.out.2]; omega), rfl⟩
    · have HS : Hid (digF s (m - kk) (i + kk) xx = (some xx, i + m)) := Lib.hid (by rw [show m - kk = 0 by omega, show kk = m by omega]; rfl)
      have HR := Lib.hid (rval_some (HE.out.symm.trans HS.out))
      go_wp2_with fail
      go_ret2
      exact ⟨ret_two HR.out.1.symm (by rw [HR.out.2]; omega), rfl⟩

def overN (o : Bool) (x : Nat) : Nat := if o then 1114112 else x
set_option maxHeartbeats 4000000 in
theorem rbraced_any (s : ByteArray) (i : Nat) {y : Int} (w : World) (hs : s.size ≤ 4194304) (hi : i ≤ s.size) (hy : y = (i : Int)) :
    Calls Tryd.prog 36 #[.string s, .int .i64 y] w fun e w' => e = .returned (.tuple #[.int .i64 (rval (braRest s i i 0).1), .int .i64 ((braRest s i i 0).2 : Int)]) ∧ w = w' := by
  subst hy
  go_enter Tryd.func36, Tryd.ntmps36
  go_wp2
  go_loop [1, 6, 8] (fun a x o => ∃ (j xx : Nat) (ov : Bool), i ≤ j ∧ j ≤ s.size ∧ a = .int .i64 (j : Int) ∧ x = .int .i64 (xx : Int) ∧ o = .bool ov ∧ xx ≤ 1114111 ∧ (ov = true → xx = 1114111) ∧ braRest s i j (overN ov xx) = braRest s i i 0) (fun a _ _ => s.size - (intOf a).toNat)
  case atStart => exact ⟨i, 0, false, Nat.le_refl _, hi, rfl, rfl, rfl, by omega, by simp, rfl⟩
  case round =>
    obtain ⟨j, xx, ov, hj1, hj2, rfl, rfl, rfl, hx, hov, he⟩ := hrel
    have HE := Lib.hid he
    have HOV := Lib.hid hov
    clear he hov
    have hbd := hexAt_bd s j
    have hin0 := @hexAt_in s j
    have HH := Lib.hid (fun W => rhex_any s j W hs)
    have HS1 := Lib.hid (braRest_step s i j (overN ov xx))
    have HS2 := Lib.hid (braRest_end s i j (overN ov xx))
    generalize hexAt s j = h at *
    by_cases hh : 0 ≤ h
    · have hin := hin0 hh
      obtain ⟨d, rfl⟩ : ∃ d : Nat, h = (d : Int) := ⟨h.toNat, by omega⟩
      have HS : Hid (braRest s i j (overN ov xx) = braRest s i (j + 1) (min (16 * overN ov xx + d) 1114112)) := Lib.hid (by rw [HS1.out hh]; rfl)
      clear hin0
      by_cases hbig : 1114111 < 16 * xx + d
      · have HN : Hid (min (16 * overN ov xx + d) 1114112 = overN true 1114111) := Lib.hid (by cases ov <;> simp [overN] <;> omega)
        go_wp2_with (go_at_call 44; refine (HH.out _).mono ?_; rintro e w1 ⟨rfl, rfl⟩)
        go_round
        case rel => exact ⟨j + 1, 1114111, true, by omega, by omega, by go_num, rfl, rfl, by omega, by simp, by rw [← HE.out, HS.out, HN.out]⟩
        case measure => simp [intOf]; omega
      · have HN : Hid (min (16 * overN ov xx + d) 1114112 = overN ov (16 * xx + d)) := Lib.hid (by cases ov <;> simp [overN] <;> (try (have := HOV.out rfl)) <;> omega)
        go_wp2_with (go_at_call 44; refine (HH.out _).mono ?_; rintro e w1 ⟨rfl, rfl⟩)
        go_round
        case rel => exact ⟨j + 1, 16 * xx + d, ov, by omega, by omega, by go_num, by go_num, rfl, by omega, fun h => by have := HOV.out h; omega, by rw [← HE.out, HS.out, HN.out]⟩
        case measure => simp [intOf]; omega
    · have HS := Lib.hid (HS2.out hh)
      clear hin0
      by_cases hst : j = i
      · have HR := Lib.hid (rval_none (p := j) (HE.out.symm.trans (HS.out.trans (by rw [if_neg (by omega)]))))
        have hst2 : ((j : Int) == (i : Int)) = true := by rw [beq_iff_eq]; omega
        clear hst
        go_wp2_with (go_at_call 44; refine (HH.out _).mono ?_; rintro e w1 ⟨rfl, rfl⟩)
        go_ret2
        exact ⟨ret_two HR.out.1.symm (by rw [HR.out.2]), rfl⟩
      · have hst2 : ((j : Int) == (i : Int)) = false := by rw [beq_eq_false_iff_ne]; omega
        by_cases hin : j < s.size
        · by_cases hb : (s[j]'hin).toNat = 125
          · have hb2 : (((s[j]'hin).toNat : Int) != 125) = false := by rw [bne_eq_false_iff_eq]; omega
            have hb3 : byt s j = 125 := by rw [← byt_eq s j hin]; exact hb
            cases ov
            · have HR := Lib.hid (rval_some (x := xx) (p := j + 1) (HE.out.symm.trans (HS.out.trans (by rw [if_pos ⟨hin, hb3, hst, by simp [overN]; omega⟩]; rfl))))
              clear hst hb hb3
              go_wp2_with (go_at_call 44; refine (HH.out _).mono ?_; rintro e w1 ⟨rfl, rfl⟩)
              go_ret2
              exact ⟨ret_two HR.out.1.symm (by rw [HR.out.2]; omega), rfl⟩
            · have HR := Lib.hid (rval_none (p := j) (HE.out.symm.trans (HS.out.trans (by rw [if_neg (by simp [overN])]))))
              clear hst hb hb3
              go_wp2_with (go_at_call 44; refine (HH.out _).mono ?_; rintro e w1 ⟨rfl, rfl⟩)
              go_ret2
              exact ⟨ret_two HR.out.1.symm (by rw [HR.out.2]), rfl⟩
          · have hb2 : (((s[j]'hin).toNat : Int) != 125) = true := by rw [bne_iff_ne]; omega
            have hb3 : byt s j ≠ 125 := by rw [← byt_eq s j hin]; exact hb
            have HR := Lib.hid (rval_none (p := j) (HE.out.symm.trans (HS.out.trans (by rw [if_neg (by omega)]))))
            clear hst hb hb3
            go_wp2_with (go_at_call 44; refine (HH.out _).mono ?_; rintro e w1 ⟨rfl, rfl⟩)
            go_ret2
            exact ⟨ret_two HR.out.1.symm (by rw [HR.out.2]), rfl⟩
        · have HR := Lib.hid (rval_none (p := j) (HE.out.symm.trans (HS.out.trans (by rw [if_neg (by omega)]))))
          clear hst
          go_wp2_with (go_at_call 44; refine (HH.out _).mono ?_; rintro e w1 ⟨rfl, rfl⟩)
          go_ret2
          exact ⟨ret_two HR.out.1.symm (by rw [HR.out.2]), rfl⟩

def letterAt (k : Nat) : Nat := [98, 102, 110, 114, 116, 118].getD k 0
set_option maxHeartbeats 4000000 in
theorem rsimple_any (c : Nat) (w : World) (hc : c < 256) :
    Calls Tryd.prog 37 #[.int .u8 (c : Int)] w fun e w' => e = .returned (.int .i64 (simN c)) ∧ Below w.heap.size w w' := by
  go_enter Tryd.func37, Tryd.ntmps37
  go_wp2
  go_loop [5] (fun i => ∃ k : Nat, k ≤ 6 ∧ i = .int .i64 (k : Int) ∧ ∀ j, j < k → c ≠ letterAt j) (fun i => 6 - (intOf i).toNat)
  case atStart => exact ⟨0, by omega, rfl, fun j h => by omega⟩
  case round =>
    obtain ⟨k, hk, rfl, hne⟩ := hrel
    rcases (by omega : k = 0 ∨ k = 1 ∨ k = 2 ∨ k = 3 ∨ k = 4 ∨ k = 5 ∨ k = 6) with rfl | rfl | rfl | rfl | rfl | rfl | rfl
    · by_cases hc : c = 98
      · subst hc
        go_wp2_with fail
        go_ret
        exact ⟨rfl, (Below.refl _ w).alloc (Nat.le_refl _) _⟩
      · have hc2 : ((((({ data := #[98, 102, 110, 114, 116, 118] } : ByteArray)[0]'(by decide)).toNat : Nat) : Int) == (c : Int)) = false := by
          show ((98 : Int) == (c : Int)) = false
          rw [beq_eq_false_iff_ne]
          omega
        go_wp2_with fail
        go_round
        case rel => exact ⟨1, by omega, rfl, fun j hj => by rcases (by omega : j < 0 ∨ j = 0) with h | rfl; exact hne j h; exact hc⟩
        case measure => simp [intOf]
    · by_cases hc : c = 102
      · subst hc
        go_wp2_with fail
        go_ret
        exact ⟨rfl, (Below.refl _ w).alloc (Nat.le_refl _) _⟩
      · have hc2 : ((((({ data := #[98, 102, 110, 114, 116, 118] } : ByteArray)[1]'(by decide)).toNat : Nat) : Int) == (c : Int)) = false := by
          show ((102 : Int) == (c : Int)) = false
          rw [beq_eq_false_iff_ne]
          omega
        go_wp2_with fail
        go_round
        case rel => exact ⟨2, by omega, rfl, fun j hj => by rcases (by omega : j < 1 ∨ j = 1) with h | rfl; exact hne j h; exact hc⟩
        case measure => simp [intOf]
    · by_cases hc : c = 110
      · subst hc
        go_wp2_with fail
        go_ret
        exact ⟨rfl, (Below.refl _ w).alloc (Nat.le_refl _) _⟩
      · have hc2 : ((((({ data := #[98, 102, 110, 114, 116, 118] } : ByteArray)[2]'(by decide)).toNat : Nat) : Int) == (c : Int)) = false := by
          show ((110 : Int) == (c : Int)) = false
          rw [beq_eq_false_iff_ne]
          omega
        go_wp2_with fail
        go_round
        case rel => exact ⟨3, by omega, rfl, fun j hj => by rcases (by omega : j < 2 ∨ j = 2) with h | rfl; exact hne j h; exact hc⟩
        case measure => simp [intOf]
    · by_cases hc : c = 114
      · subst hc
        go_wp2_with fail
        go_ret
        exact ⟨rfl, (Below.refl _ w).alloc (Nat.le_refl _) _⟩
      · have hc2 : ((((({ data := #[98, 102, 110, 114, 116, 118] } : ByteArray)[3]'(by decide)).toNat : Nat) : Int) == (c : Int)) = false := by
          show ((114 : Int) == (c : Int)) = false
          rw [beq_eq_false_iff_ne]
          omega
        go_wp2_with fail
        go_round
        case rel => exact ⟨4, by omega, rfl, fun j hj => by rcases (by omega : j < 3 ∨ j = 3) with h | rfl; exact hne j h; exact hc⟩
        case measure => simp [intOf]
    · by_cases hc : c = 116
      · subst hc
        go_wp2_with fail
        go_ret
        exact ⟨rfl, (Below.refl _ w).alloc (Nat.le_refl _) _⟩
      · have hc2 : ((((({ data := #[98, 102, 110, 114, 116, 118] } : ByteArray)[4]'(by decide)).toNat : Nat) : Int) == (c : Int)) = false := by
          show ((116 : Int) == (c : Int)) = false
          rw [beq_eq_false_iff_ne]
          omega
        go_wp2_with fail
        go_round
        case rel => exact ⟨5, by omega, rfl, fun j hj => by rcases (by omega : j < 4 ∨ j = 4) with h | rfl; exact hne j h; exact hc⟩
        case measure => simp [intOf]
    · by_cases hc : c = 118
      · subst hc
        go_wp2_with fail
        go_ret
        exact ⟨rfl, (Below.refl _ w).alloc (Nat.le_refl _) _⟩
      · have hc2 : ((((({ data := #[98, 102, 110, 114, 116, 118] } : ByteArray)[5]'(by decide)).toNat : Nat) : Int) == (c : Int)) = false := by
          show ((118 : Int) == (c : Int)) = false
          rw [beq_eq_false_iff_ne]
          omega
        go_wp2_with fail
        go_round
        case rel => exact ⟨6, by omega, rfl, fun j hj => by rcases (by omega : j < 5 ∨ j = 5) with h | rfl; exact hne j h; exact hc⟩
        case measure => simp [intOf]
    · have H : Hid (simN c = -1) := Lib.hid (by
        have h0 := hne 0 (by omega)
        have h1 := hne 1 (by omega)
        have h2 := hne 2 (by omega)
        have h3 := hne 3 (by omega)
        have h4 := hne 4 (by omega)
        have h5 := hne 5 (by omega)
        simp [letterAt] at h0 h1 h2 h3 h4 h5
        unfold simN
        repeat' split
        all_goals omega)
      clear hne
      go_wp2_with fail
      go_ret
      exact ⟨ret_int H.out.symm, (Below.refl _ w).alloc (Nat.le_refl _) _⟩

/-- Units of a part: a slice of its own. -/
def UnitsAt (W : World) (B : Nat) (v : Value) (us : List Int) : Prop := (v = .slice none 0 0 ∧ us = []) ∨ ∃ g, v = .slice (some ⟨g, 0, none⟩) us.length us.length ∧ B ≤ g ∧ Blk W g (intCells us) 3 ∧ 0 < us.length ∧ us.length ≤ 2
theorem UnitsAt.below {W W' : World} {B : Nat} {v : Value} {us : List Int} (h : UnitsAt W B v us) (hb : Below W.heap.size W W') : UnitsAt W' B v us := by
  rcases h with h | ⟨g, h1, h2, h3, h4⟩
  · exact .inl h
  · exact .inr ⟨g, h1, h2, h3.below hb, h4⟩
theorem UnitsAt.low {W : World} {B B' : Nat} {v : Value} {us : List Int} (h : UnitsAt W B v us) (hb : B' ≤ B) : UnitsAt W B' v us := by
  rcases h with h | ⟨g, h1, h2, h3⟩
  · exact .inl h
  · exact .inr ⟨g, h1, by omega, h3⟩

set_option maxHeartbeats 1000000 in
theorem runits_any (r : Int) (w : World) (h0 : 0 ≤ r) (h1 : r ≤ 1114111) :
    Calls Tryd.prog 32 #[.int .i64 r] w fun e w' => ∃ g n, e = .returned (.slice (some ⟨g, 0, none⟩) n n) ∧ UnitsAt w' w.heap.size (.slice (some ⟨g, 0, none⟩) n n) (unitsOf r) ∧ Below w.heap.size w w' := by
  by_cases h : r ≤ 65535
  · have HU : Hid (unitsOf r = [r]) := Lib.hid (by unfold unitsOf; rw [if_neg (by omega), if_neg (by omega)])
    go_enter Tryd.func32, Tryd.ntmps32
    go_wp2_with fail
    go_ret
    exact ⟨_, _, rfl, .inr ⟨w.heap.size, by rw [HU.out]; rfl, Nat.le_refl _, by rw [HU.out]; exact Blk.new w (intCells [r]) _, by rw [HU.out]; simp, by rw [HU.out]; simp⟩, (Below.refl _ w).alloc (Nat.le_refl _) _⟩
  · have HU : Hid (unitsOf r = [55296 + (r - 65536) / 1024, 56320 + (r - 65536) % 1024]) := Lib.hid (by unfold unitsOf; rw [if_neg (by omega), if_pos (by omega)])
    go_enter Tryd.func32, Tryd.ntmps32
    go_wp2_with fail
    go_ret
    exact ⟨_, _, rfl, .inr ⟨w.heap.size, by rw [HU.out]; rfl, Nat.le_refl _, by rw [HU.out]; exact Blk.new w (intCells [55296 + (r - 65536) / 1024, 56320 + (r - 65536) % 1024]) _, by rw [HU.out]; simp, by rw [HU.out]; simp⟩, (Below.refl _ w).alloc (Nat.le_refl _) _⟩

def endB (r : Int) : Bool := r == 10 || r == 13 || r == 8232 || r == 8233
theorem rends_any (r : Int) (w : World) :
    Calls Tryd.prog 38 #[.int .i64 r] w fun e w' => e = .returned (.bool (endB r)) ∧ w = w' := by
  by_cases h1 : r = 10
  · subst h1
    go_enter Tryd.func38, Tryd.ntmps38
    go_wp2_with fail
    go_ret
    exact ⟨rfl, rfl⟩
  by_cases h2 : r = 13
  · subst h2
    go_enter Tryd.func38, Tryd.ntmps38
    go_wp2_with fail
    go_ret
    exact ⟨rfl, rfl⟩
  by_cases h3 : r = 8232
  · subst h3
    go_enter Tryd.func38, Tryd.ntmps38
    go_wp2_with fail
    go_ret
    exact ⟨rfl, rfl⟩
  by_cases h4 : r = 8233
  · subst h4
    go_enter Tryd.func38, Tryd.ntmps38
    go_wp2_with fail
    go_ret
    exact ⟨rfl, rfl⟩
  have HE : Hid (endB r = false) := Lib.hid (by simp [endB, h1, h2, h3, h4])
  have g1 : (r == 10) = false := by simpa using h1
  have g2 : (r == 13) = false := by simpa using h2
  have g3 : (r == 8232) = false := by simpa using h3
  have g4 : (r == 8233) = false := by simpa using h4
  clear h1 h2 h3 h4
  go_enter Tryd.func38, Tryd.ntmps38
  go_wp2_with fail
  go_ret
  exact ⟨ret_bool HE.out.symm, rfl⟩
end Go.Proofs.YtcjnlbelgmcpeaaDoor
