/- The walk of the reference's Rune: the character that begins at a place. -/
import Derived.Test.YtcjnlbelgmcpeaaDoorRefUtf
import Derived.Handy
namespace Go.Proofs.YtcjnlbelgmcpeaaDoor
open Go.RowKit
set_option maxRecDepth 100000
set_option linter.unusedVariables false

theorem length_at (s : ByteArray) (i k : Nat) (w : World) (hs : s.size ≤ 4611686018427387904) (hi : i < s.size) (hk : lenB s i = k) :
    Calls Tryd.prog 39 #[.string s, .int .i64 (i : Int)] w fun e w' => e = .returned (.int .i64 (k : Int)) ∧ w = w' := by
  subst hk
  exact length_any s i w hs hi

theorem ret_two {a b : Int} {k : IntKind} {a' b' : Int} (h : a = a') (h' : b = b') : Ending.returned (.tuple #[.int k a, .int k b]) = .returned (.tuple #[.int k a', .int k b']) := by rw [h, h']

set_option maxHeartbeats 4000000 in
theorem rune_any (s : ByteArray) (i : Nat) (w : World) (hs : s.size ≤ 4611686018427387904) (hi : i < s.size) :
    Calls Tryd.prog 31 #[.string s, .int .i64 (i : Int)] w fun e w' => e = .returned (.tuple #[.int .i64 (runeB s i), .int .i64 (Utf8.decode s i).2]) ∧ w = w' := by
  have hb := byt_eq s i hi
  rcases dec_cases s i with ⟨h, e⟩ | ⟨h, hb0, e⟩ | ⟨h, t1, _, e⟩ | ⟨h, t1, t2, _, e⟩ | ⟨h, t1, t2, t3, _, _, e⟩
  · have HR : Hid (runeB s i = -1) := Lib.hid (by unfold runeB; rw [h]; rfl)
    have HE := Lib.hid e
    have HL := Lib.hid h
    clear e h hb
    go_enter Tryd.func31, Tryd.ntmps31
    go_wp2_with fail
    refine (length_at s i 0 _ hs hi HL.out).mono ?_
    rintro e w' ⟨rfl, rfl⟩
    go_wp2_with fail
    go_ret2
    exact ⟨ret_two HR.out.symm (by rw [HE.out]; rfl), rfl⟩
  · have g0 : 0 ≤ ((s[i]'hi).toNat : Int) := by omega
    have g0' : ((s[i]'hi).toNat : Int) < 256 := by omega
    have HR : Hid (runeB s i = ((s[i]'hi).toNat : Int)) := Lib.hid (by unfold runeB; rw [h, e]; simp [hb])
    have HE := Lib.hid e
    have HL := Lib.hid h
    clear e h hb
    go_enter Tryd.func31, Tryd.ntmps31
    go_wp2_with fail
    refine (length_at s i 1 _ hs hi HL.out).mono ?_
    rintro e w' ⟨rfl, rfl⟩
    go_wp2_with fail
    refine wp_loop_rounds 1 ?_
    rw [rounds_succ]
    go_wp2_with fail
    go_ret2
    exact ⟨ret_two HR.out.symm (by rw [HE.out]; rfl), rfl⟩
  · have h1 := (tailB_bd t1).1
    have g0 : 0 ≤ ((s[i]'hi).toNat : Int) := by omega
    have g0' : ((s[i]'hi).toNat : Int) < 256 := by have := byt_lt s i; omega
    have g1 : 0 ≤ ((s[i + 1]'h1).toNat : Int) := by omega
    have g1' : ((s[i + 1]'h1).toNat : Int) < 256 := by have := byt_lt s (i + 1); have := byt_eq s (i + 1) h1; omega
    have HR : Hid (runeB s i = ((s[i]'hi).toNat : Int) % 32 * 64 + ((s[i + 1]'h1).toNat : Int) % 64) := Lib.hid (by unfold runeB; rw [h, e, byt_eq, byt_eq]; simp)
    have HE := Lib.hid e
    have HL := Lib.hid h
    clear e h hb t1
    go_enter Tryd.func31, Tryd.ntmps31
    go_wp2_with fail
    refine (length_at s i 2 _ hs hi HL.out).mono ?_
    rintro e w' ⟨rfl, rfl⟩
    go_wp2_with fail
    refine wp_loop_rounds 2 ?_
    rw [rounds_succ]
    go_wp2_with fail
    rw [rounds_succ]
    go_wp2_with fail
    go_ret2
    refine ⟨ret_two ?_ (by rw [HE.out]; rfl), rfl⟩
    rw [HR.out]
    all_goals omega
  · have h1 := (tailB_bd t1).1
    have h2 := (tailB_bd t2).1
    have g0 : 0 ≤ ((s[i]'hi).toNat : Int) := by omega
    have g0' : ((s[i]'hi).toNat : Int) < 256 := by have := byt_lt s i; omega
    have g1 : 0 ≤ ((s[i + 1]'h1).toNat : Int) := by omega
    have g1' : ((s[i + 1]'h1).toNat : Int) < 256 := by have := byt_lt s (i + 1); have := byt_eq s (i + 1) h1; omega
    have g2 : 0 ≤ ((s[i + 2]'h2).toNat : Int) := by omega
    have g2' : ((s[i + 2]'h2).toNat : Int) < 256 := by have := byt_lt s (i + 2); have := byt_eq s (i + 2) h2; omega
    have HR : Hid (runeB s i = ((s[i]'hi).toNat : Int) % 16 * 4096 + ((s[i + 1]'h1).toNat : Int) % 64 * 64 + ((s[i + 2]'h2).toNat : Int) % 64) := Lib.hid (by unfold runeB; rw [h, e, byt_eq, byt_eq, byt_eq]; simp)
    have HE := Lib.hid e
    have HL := Lib.hid h
    clear e h hb t1 t2
    go_enter Tryd.func31, Tryd.ntmps31
    go_wp2_with fail
    refine (length_at s i 3 _ hs hi HL.out).mono ?_
    rintro e w' ⟨rfl, rfl⟩
    go_wp2_with fail
    refine wp_loop_rounds 3 ?_
    rw [rounds_succ]
    go_wp2_with fail
    rw [rounds_succ]
    go_wp2_with fail
    rw [rounds_succ]
    go_wp2_with fail
    go_ret2
    refine ⟨ret_two ?_ (by rw [HE.out]; rfl), rfl⟩
    rw [HR.out]
    all_goals omega
  · have h1 := (tailB_bd t1).1
    have h2 := (tailB_bd t2).1
    have h3 := (tailB_bd t3).1
    have g0 : 0 ≤ ((s[i]'hi).toNat : Int) := by omega
    have g0' : ((s[i]'hi).toNat : Int) < 256 := by have := byt_lt s i; omega
    have g1 : 0 ≤ ((s[i + 1]'h1).toNat : Int) := by omega
    have g1' : ((s[i + 1]'h1).toNat : Int) < 256 := by have := byt_lt s (i + 1); have := byt_eq s (i + 1) h1; omega
    have g2 : 0 ≤ ((s[i + 2]'h2).toNat : Int) := by omega
    have g2' : ((s[i + 2]'h2).toNat : Int) < 256 := by have := byt_lt s (i + 2); have := byt_eq s (i + 2) h2; omega
    have g3 : 0 ≤ ((s[i + 3]'h3).toNat : Int) := by omega
    have g3' : ((s[i + 3]'h3).toNat : Int) < 256 := by have := byt_lt s (i + 3); have := byt_eq s (i + 3) h3; omega
    have HR : Hid (runeB s i = ((s[i]'hi).toNat : Int) % 8 * 262144 + ((s[i + 1]'h1).toNat : Int) % 64 * 4096 + ((s[i + 2]'h2).toNat : Int) % 64 * 64 + ((s[i + 3]'h3).toNat : Int) % 64) := Lib.hid (by unfold runeB; rw [h, e, byt_eq, byt_eq, byt_eq, byt_eq]; simp)
    have HE := Lib.hid e
    have HL := Lib.hid h
    clear e h hb t1 t2 t3
    go_enter Tryd.func31, Tryd.ntmps31
    go_wp2_with fail
    refine (length_at s i 4 _ hs hi HL.out).mono ?_
    rintro e w' ⟨rfl, rfl⟩
    go_wp2_with fail
    refine wp_loop_rounds 4 ?_
    rw [rounds_succ]
    go_wp2_with fail
    rw [rounds_succ]
    go_wp2_with fail
    rw [rounds_succ]
    go_wp2_with fail
    rw [rounds_succ]
    go_wp2_with fail
    go_ret2
    refine ⟨ret_two ?_ (by rw [HE.out]; rfl), rfl⟩
    rw [HR.out]
    all_goals omega
end Go.Proofs.YtcjnlbelgmcpeaaDoor
