/- The walks of the reference's character steps: tail, Length, Rune. -/
import Derived.Test.YtaojlnibkajfbaaDoorRows
import Derived.Test.YtaojlnibkajfbaaDoorKit
import Derived.Test.YtaojlnibkajfbaaDoorUtfPlain
import Derived.Deep.RegionWith
namespace Go.Proofs.YtaojlnibkajfbaaDoor
open Go.RowKit
set_option maxRecDepth 100000
set_option linter.unusedVariables false


theorem tail_any (s : ByteArray) (j : Nat) (w : World) :
    Calls Tryd.prog 62 #[.string s, .int .i64 (j : Int)] w fun e w' => e = .returned (.bool (tailB s j)) ∧ w = w' := by
  by_cases h : j < s.size
  · have hb := byt_eq s j h
    have HT : Hid (tailB s j = (decide (128 ≤ byt s j) && decide (byt s j < 192))) := Lib.hid (by unfold tailB; simp [h])
    rw [← hb] at HT
    clear hb
    by_cases h1 : 128 ≤ (s[j]'h).toNat
    · by_cases h2 : (s[j]'h).toNat < 192
      · go_enter Tryd.func62, Tryd.ntmps62
        go_wp2
        go_ret
        refine ⟨?_, rfl⟩
        rw [HT.out]
        simp [h1, h2]
        omega
      · go_enter Tryd.func62, Tryd.ntmps62
        go_wp2
        go_ret
        refine ⟨?_, rfl⟩
        rw [HT.out]
        simp [h1, h2]
        omega
    · go_enter Tryd.func62, Tryd.ntmps62
      go_wp2
      go_ret
      refine ⟨?_, rfl⟩
      rw [HT.out]
      simp [h1]
  · have HT : Hid (tailB s j = false) := Lib.hid (by unfold tailB; simp [h])
    go_enter Tryd.func62, Tryd.ntmps62
    go_wp2
    go_ret
    exact ⟨ret_bool HT.out.symm, rfl⟩

theorem tail_at (s : ByteArray) (j : Nat) {x : Int} (w : World) (hx : x = (j : Int)) :
    Calls Tryd.prog 62 #[.string s, .int .i64 x] w fun e w' => e = .returned (.bool (tailB s j)) ∧ w = w' := by
  subst hx
  exact tail_any s j w

/-- Length's value, byte by byte, in the walk's own spelling (the bytes as whole numbers). -/
theorem lenB_1 (s : ByteArray) (i : Nat) (h : byt s i < 128) : lenB s i = 1 := by unfold lenB; rw [if_pos h]
theorem lenB_2 (s : ByteArray) (i : Nat) (h : 194 ≤ byt s i) (h' : byt s i < 224) : lenB s i = if tailB s (i + 1) = true then 2 else 0 := by
  unfold lenB
  rw [if_neg (by omega), if_neg (c := 224 ≤ byt s i ∧ _) (by omega), if_neg (c := 240 ≤ byt s i ∧ _) (by omega)]
  simp [h, h']
theorem lenB_3 (s : ByteArray) (i : Nat) (h : 224 ≤ byt s i) (h' : byt s i < 240) : lenB s i = if tailB s (i + 1) = true ∧ tailB s (i + 2) = true then (if (byt s i = 224 ∧ byt s (i + 1) < 160) ∨ (byt s i = 237 ∧ 160 ≤ byt s (i + 1)) then 0 else 3) else 0 := by
  unfold lenB
  rw [if_neg (by omega), if_neg (c := 194 ≤ byt s i ∧ _) (by omega), if_neg (c := 240 ≤ byt s i ∧ _) (by omega)]
  simp only [h, h', true_and]
theorem lenB_4 (s : ByteArray) (i : Nat) (h : 240 ≤ byt s i) (h' : byt s i < 245) : lenB s i = if tailB s (i + 1) = true ∧ tailB s (i + 2) = true ∧ tailB s (i + 3) = true then (if (byt s i = 240 ∧ byt s (i + 1) < 144) ∨ (byt s i = 244 ∧ 144 ≤ byt s (i + 1)) then 0 else 4) else 0 := by
  unfold lenB
  rw [if_neg (by omega), if_neg (c := 194 ≤ byt s i ∧ _) (by omega), if_neg (c := 224 ≤ byt s i ∧ _) (by omega)]
  simp only [h, h', true_and]
theorem lenB_0 (s : ByteArray) (i : Nat) (h : 128 ≤ byt s i) (h' : byt s i < 194 ∨ 245 ≤ byt s i) : lenB s i = 0 := by
  unfold lenB
  rw [if_neg (by omega), if_neg (c := 194 ≤ byt s i ∧ _) (by omega), if_neg (c := 224 ≤ byt s i ∧ _) (by omega), if_neg (c := 240 ≤ byt s i ∧ _) (by omega)]

set_option maxHeartbeats 4000000 in
theorem length_1 (s : ByteArray) (i : Nat) (w : World) (hs : s.size ≤ 4611686018427387904) (hi : i < s.size) (c1 : byt s i < 128) :
    Calls Tryd.prog 57 #[.string s, .int .i64 (i : Int)] w fun e w' => e = .returned (.int .i64 (lenB s i)) ∧ w = w' := by
  have HL := Lib.hid (lenB_1 s i c1)
  have g1 : ((s[i]'hi).toNat : Int) < 128 := by rw [byt_eq]; omega
  clear c1
  go_enter Tryd.func57, Tryd.ntmps57
  go_wp2_with fail
  go_ret
  exact ⟨ret_int (by rw [HL.out]; rfl), rfl⟩

set_option maxHeartbeats 4000000 in
theorem length_0 (s : ByteArray) (i : Nat) (w : World) (hs : s.size ≤ 4611686018427387904) (hi : i < s.size) (c1 : 128 ≤ byt s i) (c2 : byt s i < 194 ∨ 245 ≤ byt s i) :
    Calls Tryd.prog 57 #[.string s, .int .i64 (i : Int)] w fun e w' => e = .returned (.int .i64 (lenB s i)) ∧ w = w' := by
  have HL := Lib.hid (lenB_0 s i c1 c2)
  have g1 : 128 ≤ ((s[i]'hi).toNat : Int) := by rw [byt_eq]; omega
  have g2 : ((s[i]'hi).toNat : Int) < 194 ∨ 245 ≤ ((s[i]'hi).toNat : Int) := by rw [byt_eq]; omega
  clear c1 c2
  rcases g2 with g2 | g2
  all_goals
    go_enter Tryd.func57, Tryd.ntmps57
    go_wp2_with fail
    go_ret
    exact ⟨ret_int (by rw [HL.out]; rfl), rfl⟩

set_option maxHeartbeats 4000000 in
theorem length_2 (s : ByteArray) (i : Nat) (w : World) (hs : s.size ≤ 4611686018427387904) (hi : i < s.size) (c1 : 194 ≤ byt s i) (c2 : byt s i < 224) :
    Calls Tryd.prog 57 #[.string s, .int .i64 (i : Int)] w fun e w' => e = .returned (.int .i64 (lenB s i)) ∧ w = w' := by
  have HL := Lib.hid (lenB_2 s i c1 c2)
  have g1 : 194 ≤ ((s[i]'hi).toNat : Int) := by rw [byt_eq]; omega
  have g2 : ((s[i]'hi).toNat : Int) < 224 := by rw [byt_eq]; omega
  clear c1 c2
  cases ht : tailB s (i + 1)
  all_goals
    go_enter Tryd.func57, Tryd.ntmps57
    go_wp2_with fail
    refine (tail_at s (i + 1) _ (by omega)).mono ?_
    rintro e w1 ⟨rfl, rfl⟩
    go_wp2_with fail
    go_ret
    exact ⟨ret_int (by rw [HL.out, ht]; rfl), rfl⟩

set_option maxHeartbeats 4000000 in
theorem length_3_f1 (s : ByteArray) (i : Nat) (w : World) (hs : s.size ≤ 4611686018427387904) (hi : i < s.size) (c1 : 224 ≤ byt s i) (c2 : byt s i < 240) (ht1 : tailB s (i + 1) = false) :
    Calls Tryd.prog 57 #[.string s, .int .i64 (i : Int)] w fun e w' => e = .returned (.int .i64 (lenB s i)) ∧ w = w' := by
  have HL := Lib.hid (lenB_3 s i c1 c2)
  have g1 : 224 ≤ ((s[i]'hi).toNat : Int) := by rw [byt_eq]; omega
  have g2 : ((s[i]'hi).toNat : Int) < 240 := by rw [byt_eq]; omega
  clear c1 c2
  go_enter Tryd.func57, Tryd.ntmps57
  go_wp2_with fail
  refine (tail_at s (i + 1) _ (by omega)).mono ?_
  rintro e w1 ⟨rfl, rfl⟩
  go_wp2_with fail
  go_ret
  exact ⟨ret_int (by rw [HL.out, if_neg (by simp [ht1])]; rfl), rfl⟩

set_option maxHeartbeats 4000000 in
theorem length_3_f2 (s : ByteArray) (i : Nat) (w : World) (hs : s.size ≤ 4611686018427387904) (hi : i < s.size) (c1 : 224 ≤ byt s i) (c2 : byt s i < 240) (ht1 : tailB s (i + 1) = true) (ht2 : tailB s (i + 2) = false) :
    Calls Tryd.prog 57 #[.string s, .int .i64 (i : Int)] w fun e w' => e = .returned (.int .i64 (lenB s i)) ∧ w = w' := by
  have HL := Lib.hid (lenB_3 s i c1 c2)
  have g1 : 224 ≤ ((s[i]'hi).toNat : Int) := by rw [byt_eq]; omega
  have g2 : ((s[i]'hi).toNat : Int) < 240 := by rw [byt_eq]; omega
  clear c1 c2
  go_enter Tryd.func57, Tryd.ntmps57
  go_wp2_with fail
  refine (tail_at s (i + 1) _ (by omega)).mono ?_
  rintro e w1 ⟨rfl, rfl⟩
  go_wp2_with fail
  refine (tail_at s (i + 2) _ (by omega)).mono ?_
  rintro e w2 ⟨rfl, rfl⟩
  go_wp2_with fail
  go_ret
  exact ⟨ret_int (by rw [HL.out, if_neg (by simp [ht2])]; rfl), rfl⟩

set_option maxHeartbeats 4000000 in
theorem length_3 (s : ByteArray) (i : Nat) (w : World) (hs : s.size ≤ 4611686018427387904) (hi : i < s.size) (c1 : 224 ≤ byt s i) (c2 : byt s i < 240) (ht1 : tailB s (i + 1) = true) (ht2 : tailB s (i + 2) = true) :
    Calls Tryd.prog 57 #[.string s, .int .i64 (i : Int)] w fun e w' => e = .returned (.int .i64 (lenB s i)) ∧ w = w' := by
  have HL := Lib.hid (lenB_3 s i c1 c2)
  have g1 : 224 ≤ ((s[i]'hi).toNat : Int) := by rw [byt_eq]; omega
  have g2 : ((s[i]'hi).toNat : Int) < 240 := by rw [byt_eq]; omega
  have HB0 := Lib.hid (byt_eq s i hi)
  clear c1 c2
  have hk := (tailB_bd ht1).1
  have HB := Lib.hid (byt_eq s (i + 1) hk)
  go_enter Tryd.func57, Tryd.ntmps57
  go_wp2_with fail
  refine (tail_at s (i + 1) _ (by omega)).mono ?_
  rintro e w1 ⟨rfl, rfl⟩
  go_wp2_with fail
  refine (tail_at s (i + 2) _ (by omega)).mono ?_
  rintro e w2 ⟨rfl, rfl⟩
  go_wp2_with fail
  all_goals
    go_ret
    refine ⟨ret_int ?_, rfl⟩
    have hB := HB.out
    have hB0 := HB0.out
    rw [HL.out, if_pos ⟨ht1, ht2⟩]
    first
      | (rw [if_pos (by omega)]; rfl)
      | (rw [if_neg (by omega)]; rfl)

set_option maxHeartbeats 4000000 in
theorem length_4_f1 (s : ByteArray) (i : Nat) (w : World) (hs : s.size ≤ 4611686018427387904) (hi : i < s.size) (c1 : 240 ≤ byt s i) (c2 : byt s i < 245) (ht1 : tailB s (i + 1) = false) :
    Calls Tryd.prog 57 #[.string s, .int .i64 (i : Int)] w fun e w' => e = .returned (.int .i64 (lenB s i)) ∧ w = w' := by
  have HL := Lib.hid (lenB_4 s i c1 c2)
  have g1 : 240 ≤ ((s[i]'hi).toNat : Int) := by rw [byt_eq]; omega
  have g2 : ((s[i]'hi).toNat : Int) < 245 := by rw [byt_eq]; omega
  clear c1 c2
  go_enter Tryd.func57, Tryd.ntmps57
  go_wp2_with fail
  refine (tail_at s (i + 1) _ (by omega)).mono ?_
  rintro e w1 ⟨rfl, rfl⟩
  go_wp2_with fail
  go_ret
  exact ⟨ret_int (by rw [HL.out, if_neg (by simp [ht1])]; rfl), rfl⟩

set_option maxHeartbeats 4000000 in
theorem length_4_f2 (s : ByteArray) (i : Nat) (w : World) (hs : s.size ≤ 4611686018427387904) (hi : i < s.size) (c1 : 240 ≤ byt s i) (c2 : byt s i < 245) (ht1 : tailB s (i + 1) = true) (ht2 : tailB s (i + 2) = false) :
    Calls Tryd.prog 57 #[.string s, .int .i64 (i : Int)] w fun e w' => e = .returned (.int .i64 (lenB s i)) ∧ w = w' := by
  have HL := Lib.hid (lenB_4 s i c1 c2)
  have g1 : 240 ≤ ((s[i]'hi).toNat : Int) := by rw [byt_eq]; omega
  have g2 : ((s[i]'hi).toNat : Int) < 245 := by rw [byt_eq]; omega
  clear c1 c2
  go_enter Tryd.func57, Tryd.ntmps57
  go_wp2_with fail
  refine (tail_at s (i + 1) _ (by omega)).mono ?_
  rintro e w1 ⟨rfl, rfl⟩
  go_wp2_with fail
  refine (tail_at s (i + 2) _ (by omega)).mono ?_
  rintro e w2 ⟨rfl, rfl⟩
  go_wp2_with fail
  go_ret
  exact ⟨ret_int (by rw [HL.out, if_neg (by simp [ht2])]; rfl), rfl⟩

set_option maxHeartbeats 4000000 in
theorem length_4_f3 (s : ByteArray) (i : Nat) (w : World) (hs : s.size ≤ 4611686018427387904) (hi : i < s.size) (c1 : 240 ≤ byt s i) (c2 : byt s i < 245) (ht1 : tailB s (i + 1) = true) (ht2 : tailB s (i + 2) = true) (ht3 : tailB s (i + 3) = false) :
    Calls Tryd.prog 57 #[.string s, .int .i64 (i : Int)] w fun e w' => e = .returned (.int .i64 (lenB s i)) ∧ w = w' := by
  have HL := Lib.hid (lenB_4 s i c1 c2)
  have g1 : 240 ≤ ((s[i]'hi).toNat : Int) := by rw [byt_eq]; omega
  have g2 : ((s[i]'hi).toNat : Int) < 245 := by rw [byt_eq]; omega
  clear c1 c2
  go_enter Tryd.func57, Tryd.ntmps57
  go_wp2_with fail
  refine (tail_at s (i + 1) _ (by omega)).mono ?_
  rintro e w1 ⟨rfl, rfl⟩
  go_wp2_with fail
  refine (tail_at s (i + 2) _ (by omega)).mono ?_
  rintro e w2 ⟨rfl, rfl⟩
  go_wp2_with fail
  refine (tail_at s (i + 3) _ (by omega)).mono ?_
  rintro e w3 ⟨rfl, rfl⟩
  go_wp2_with fail
  go_ret
  exact ⟨ret_int (by rw [HL.out, if_neg (by simp [ht3])]; rfl), rfl⟩

set_option maxHeartbeats 4000000 in
theorem length_4 (s : ByteArray) (i : Nat) (w : World) (hs : s.size ≤ 4611686018427387904) (hi : i < s.size) (c1 : 240 ≤ byt s i) (c2 : byt s i < 245) (ht1 : tailB s (i + 1) = true) (ht2 : tailB s (i + 2) = true) (ht3 : tailB s (i + 3) = true) :
    Calls Tryd.prog 57 #[.string s, .int .i64 (i : Int)] w fun e w' => e = .returned (.int .i64 (lenB s i)) ∧ w = w' := by
  have HL := Lib.hid (lenB_4 s i c1 c2)
  have g1 : 240 ≤ ((s[i]'hi).toNat : Int) := by rw [byt_eq]; omega
  have g2 : ((s[i]'hi).toNat : Int) < 245 := by rw [byt_eq]; omega
  have HB0 := Lib.hid (byt_eq s i hi)
  clear c1 c2
  have hk := (tailB_bd ht1).1
  have HB := Lib.hid (byt_eq s (i + 1) hk)
  go_enter Tryd.func57, Tryd.ntmps57
  go_wp2_with fail
  refine (tail_at s (i + 1) _ (by omega)).mono ?_
  rintro e w1 ⟨rfl, rfl⟩
  go_wp2_with fail
  refine (tail_at s (i + 2) _ (by omega)).mono ?_
  rintro e w2 ⟨rfl, rfl⟩
  go_wp2_with fail
  refine (tail_at s (i + 3) _ (by omega)).mono ?_
  rintro e w3 ⟨rfl, rfl⟩
  go_wp2_with fail
  all_goals
    go_ret
    refine ⟨ret_int ?_, rfl⟩
    have hB := HB.out
    have hB0 := HB0.out
    rw [HL.out, if_pos ⟨ht1, ht2, ht3⟩]
    first
      | (rw [if_pos (by omega)]; rfl)
      | (rw [if_neg (by omega)]; rfl)

theorem length_any (s : ByteArray) (i : Nat) (w : World) (hs : s.size ≤ 4611686018427387904) (hi : i < s.size) :
    Calls Tryd.prog 57 #[.string s, .int .i64 (i : Int)] w fun e w' => e = .returned (.int .i64 (lenB s i)) ∧ w = w' := by
  by_cases c1 : byt s i < 128
  · exact length_1 s i w hs hi c1
  by_cases c2 : byt s i < 194 ∨ 245 ≤ byt s i
  · exact length_0 s i w hs hi (by omega) c2
  by_cases c3 : byt s i < 224
  · exact length_2 s i w hs hi (by omega) c3
  by_cases c4 : byt s i < 240
  · cases ht1 : tailB s (i + 1)
    · exact length_3_f1 s i w hs hi (by omega) c4 ht1
    cases ht2 : tailB s (i + 2)
    · exact length_3_f2 s i w hs hi (by omega) c4 ht1 ht2
    · exact length_3 s i w hs hi (by omega) c4 ht1 ht2
  · cases ht1 : tailB s (i + 1)
    · exact length_4_f1 s i w hs hi (by omega) (by omega) ht1
    cases ht2 : tailB s (i + 2)
    · exact length_4_f2 s i w hs hi (by omega) (by omega) ht1 ht2
    cases ht3 : tailB s (i + 3)
    · exact length_4_f3 s i w hs hi (by omega) (by omega) ht1 ht2 ht3
    · exact length_4 s i w hs hi (by omega) (by omega) ht1 ht2 ht3
end Go.Proofs.YtaojlnibkajfbaaDoor
