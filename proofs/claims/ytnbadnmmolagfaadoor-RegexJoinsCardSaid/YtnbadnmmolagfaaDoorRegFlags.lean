/- Package regex: flags. -/
import Derived.Test.YtnbadnmmolagfaaDoorRegSettle
import Derived.Laws.ShiftsVar
import Derived.Laws.ShiftsVarLaws
namespace Go.Proofs.YtnbadnmmolagfaaDoor
open Go.RowKit
set_option maxRecDepth 100000
set_option linter.unusedVariables false
set_option linter.unusedSimpArgs false

def flagChars : Ln := [100, 103, 105, 109, 115, 117, 121]
def flagK (c : UInt8) : Int := Lib.indexByte flagChars c
/-- A set of flags as bits; none: they may not be. -/
def flagsN : Ln → Nat → Option Nat
  | [], s => some s
  | c :: r, s => if flagK c < 0 then none else if s / 2 ^ (flagK c).toNat % 2 = 1 then none else flagsN r (s + 2 ^ (flagK c).toNat)
theorem flagK_cases (c : UInt8) : flagK c = -1 ∨ flagK c = 0 ∨ flagK c = 1 ∨ flagK c = 2 ∨ flagK c = 3 ∨ flagK c = 4 ∨ flagK c = 5 ∨ flagK c = 6 := by
  have h : (List.range 256).all (fun n => let k := flagK (UInt8.ofNat n); k == -1 || k == 0 || k == 1 || k == 2 || k == 3 || k == 4 || k == 5 || k == 6) = true := by kernel_rfl
  have := List.all_eq_true.1 h c.toNat (List.mem_range.2 c.toNat_lt)
  rw [UInt8.ofNat_toNat] at this
  simp at this
  omega
theorem and1 (y : Nat) (hy : y < 9223372036854775808) : bits .and .i64 (y : Int) 1 = ((y % 2 : Nat) : Int) := by
  have h1 : (BitVec.ofInt 64 ((y : Nat) : Int)).toNat = y := by
    rw [BitVec.ofInt_natCast, BitVec.toNat_ofNat]; exact Nat.mod_eq_of_lt (by omega)
  show IntKind.i64.wrap ((BitVec.ofInt 64 ((y : Nat) : Int) &&& BitVec.ofInt 64 1).toNat : Int) = _
  rw [BitVec.toNat_and, h1, show (BitVec.ofInt 64 1).toNat = 2 ^ 1 - 1 from rfl, Nat.and_two_pow_sub_one_eq_mod, IntKind.wrap_i64]
  have : y % 2 ^ 1 < 2 := Nat.mod_lt _ (by decide)
  rw [show (2 : Nat) ^ 1 = 2 from rfl] at *
  omega
theorem or_all : ∀ k : Nat, k < 7 → (List.range 128).all (fun s : Nat => s / 2 ^ k % 2 == 1 || bits .or .i64 (s : Int) ((2 ^ k : Nat) : Int) == ((s + 2 ^ k : Nat) : Int)) = true := by
  intro k hk
  have : k = 0 ∨ k = 1 ∨ k = 2 ∨ k = 3 ∨ k = 4 ∨ k = 5 ∨ k = 6 := by omega
  rcases this with rfl | rfl | rfl | rfl | rfl | rfl | rfl <;> decide +kernel
theorem or_bit {s k : Nat} (hs : s < 128) (hk : k < 7) (h : s / 2 ^ k % 2 ≠ 1) : bits .or .i64 (s : Int) ((2 ^ k : Nat) : Int) = ((s + 2 ^ k : Nat) : Int) := by
  have h1 := List.all_eq_true.1 (or_all k hk) s (List.mem_range.2 hs)
  simp at h1
  rcases h1 with h1 | h1
  · exact absurd h1 h
  · simpa using h1
theorem small_all : ∀ k : Nat, k < 7 → (List.range 128).all (fun s : Nat => s / 2 ^ k % 2 == 1 || decide (s + 2 ^ k < 128)) = true := by
  intro k hk
  have : k = 0 ∨ k = 1 ∨ k = 2 ∨ k = 3 ∨ k = 4 ∨ k = 5 ∨ k = 6 := by omega
  rcases this with rfl | rfl | rfl | rfl | rfl | rfl | rfl <;> decide +kernel
theorem small_bit {s k : Nat} (hs : s < 128) (hk : k < 7) (h : s / 2 ^ k % 2 ≠ 1) : s + 2 ^ k < 128 := by
  have h1 := List.all_eq_true.1 (small_all k hk) s (List.mem_range.2 hs)
  simp at h1
  rcases h1 with h1 | h1
  · exact absurd h1 h
  · exact h1
/-- What flags hands back. -/
def flagV (r : Option Nat) : Value := .tuple #[.int .i64 ((r.getD 0 : Nat) : Int), .bool r.isSome]
theorem byte_at {l : Ln} {j : Nat} (h : j < (strOf l).size) (h2 : j < l.length) : ((strOf l)[j]'h).toNat = (l[j]'h2).toNat := by
  simp [strOf]
  rfl

set_option maxHeartbeats 16000000 in
theorem flags_any (fl : Ln) (w : World) (hl : fl.length ≤ 140737488355328) :
    Calls Tryd.prog 14 #[.string (strOf fl)] w fun e w' => e = .returned (flagV (flagsN fl 0)) ∧ w = w' := by
  have hz := strOf_size fl
  go_enter Tryd.func14, Tryd.ntmps14
  go_wp2_with fail
  go_loopw [4, 9] (fun st j wr => ∃ (jj S : Nat), jj ≤ fl.length ∧ j = .int .i64 (jj : Int) ∧ st = .int .i64 (S : Int) ∧ S < 128 ∧ flagsN fl 0 = flagsN (fl.drop jj) S ∧ wr = w) (fun _ j _ => fl.length - (intOf j).toNat)
  case atStart => exact ⟨0, 0, Nat.zero_le _, rfl, rfl, by decide, rfl, rfl⟩
  case round =>
    obtain ⟨j, S, hj, rfl, rfl, hS, hfl, rfl⟩ := hrel
    have HFL := Lib.hid hfl
    clear hfl
    by_cases hlt : j < fl.length
    · have hji : (j : Int) < (fl.length : Int) := by omega
      have hj0 : (0 : Int) ≤ (j : Int) := by omega
      have hsz : j < (strOf fl).size := by rw [hz]; exact hlt
      have hby := byte_at hsz hlt
      have hdr := List.drop_eq_getElem_cons hlt
      obtain ⟨c, hc⟩ : ∃ c, c = fl[j]'hlt := ⟨_, rfl⟩
      rw [← hc] at hby hdr
      have HI : Hid (∀ W, Calls Tryd.prog 16 #[.string (strOf flagChars), .int .u8 (c.toNat : Int)] W fun e w' => e = .returned (.int .i64 (flagK c)) ∧ w' = W) := Lib.hid (fun W => by
        have := Tryd.strings_IndexByte (strOf flagChars) (c.toNat : Int) W
        rw [strOf_list] at this
        simpa [flagK] using this)
      have HST : Hid (flagsN fl 0 = if flagK c < 0 then none else if S / 2 ^ (flagK c).toNat % 2 = 1 then none else flagsN (fl.drop (j + 1)) (S + 2 ^ (flagK c).toNat)) := Lib.hid (by rw [HFL.out, hdr]; rfl)
      have hcs := flagK_cases c
      clear hdr hc
      rcases hcs with hk | hk | hk | hk | hk | hk | hk | hk
      · rw [hk] at HI
        have HR : Hid (flagsN fl 0 = none) := Lib.hid (by rw [HST.out, hk]; rfl)
        clear hk
        go_wp2_with (go_at_call 16; refine (HI.out _).mono ?_; rintro e w1 ⟨rfl, rfl⟩)
        go_ret2
        rw [HR.out]
        exact ⟨rfl, rfl⟩
      · rw [hk] at HI
        have ha := and1 S (by omega)
        by_cases hb : S % 2 = 1
        · have HR : Hid (flagsN fl 0 = none) := Lib.hid (by rw [HST.out, hk]; simp only [show (((0 : Int)).toNat) = 0 from rfl]; rw [if_neg (by decide), if_pos (by simpa using hb)])
          have ht : (((S % 2 : Nat) : Int) == 1) = true := by simp; omega
          have ht2 : (((S : Int) % 2) == 1) = true := by simp; omega
          clear hk hb
          go_wp2_with (go_at_call 16; refine (HI.out _).mono ?_; rintro e w1 ⟨rfl, rfl⟩)
          go_ret2
          rw [HR.out]
          exact ⟨rfl, rfl⟩
        · have HR : Hid (flagsN fl 0 = flagsN (fl.drop (j + 1)) (S + 1)) := Lib.hid (by rw [HST.out, hk]; simp only [show (((0 : Int)).toNat) = 0 from rfl]; rw [if_neg (by decide), if_neg (by simpa using hb)])
          have ho := or_bit (k := 0) hS (by decide) (by simpa using hb)
          have hsm := small_bit (k := 0) hS (by decide) (by simpa using hb)
          simp only [show (2 : Nat) ^ 0 = 1 from rfl] at ho hsm
          rw [show (((1 : Nat)) : Int) = 1 from rfl] at ho
          have ht2 : (((S : Int) % 2) == 1) = false := by simp; omega
          have HSM := Lib.hid hsm
          clear hk hb hsm
          go_wp2_with (go_at_call 16; refine (HI.out _).mono ?_; rintro e w1 ⟨rfl, rfl⟩)
          go_roundw
          case rel => exact ⟨j + 1, S + 1, by omega, by go_num, by go_num, HSM.out, HR.out, by trivial⟩
          case measure => simp [intOf]; omega
      · rw [hk] at HI
        have ha := and1 (S / 2) (by omega)
        have hcast : ((S / 2 : Nat) : Int) = (S : Int) / 2 := by omega
        rw [hcast] at ha
        by_cases hb : S / 2 % 2 = 1
        · have HR : Hid (flagsN fl 0 = none) := Lib.hid (by rw [HST.out, hk]; simp only [show (((1 : Int)).toNat) = 1 from rfl]; rw [if_neg (by decide), if_pos (by simpa using hb)])
          have ht : (((S / 2 % 2 : Nat) : Int) == 1) = true := by simp; omega
          have ht2 : (((S : Int) / 2 % 2) == 1) = true := by simp; omega
          clear hk hb
          go_wp2_with (go_at_call 16; refine (HI.out _).mono ?_; rintro e w1 ⟨rfl, rfl⟩)
          go_ret2
          rw [HR.out]
          exact ⟨rfl, rfl⟩
        · have HR : Hid (flagsN fl 0 = flagsN (fl.drop (j + 1)) (S + 2)) := Lib.hid (by rw [HST.out, hk]; simp only [show (((1 : Int)).toNat) = 1 from rfl]; rw [if_neg (by decide), if_neg (by simpa using hb)])
          have ho := or_bit (k := 1) hS (by decide) (by simpa using hb)
          have hsm := small_bit (k := 1) hS (by decide) (by simpa using hb)
          simp only [show (2 : Nat) ^ 1 = 2 from rfl] at ho hsm
          rw [show (((2 : Nat)) : Int) = 2 from rfl] at ho
          have ht2 : (((S : Int) / 2 % 2) == 1) = false := by simp; omega
          have HSM := Lib.hid hsm
          clear hk hb hsm
          go_wp2_with (go_at_call 16; refine (HI.out _).mono ?_; rintro e w1 ⟨rfl, rfl⟩)
          go_roundw
          case rel => exact ⟨j + 1, S + 2, by omega, by go_num, by go_num, HSM.out, HR.out, by trivial⟩
          case measure => simp [intOf]; omega
      · rw [hk] at HI
        have ha := and1 (S / 4) (by omega)
        have hcast : ((S / 4 : Nat) : Int) = (S : Int) / 4 := by omega
        rw [hcast] at ha
        by_cases hb : S / 4 % 2 = 1
        · have HR : Hid (flagsN fl 0 = none) := Lib.hid (by rw [HST.out, hk]; simp only [show (((2 : Int)).toNat) = 2 from rfl]; rw [if_neg (by decide), if_pos (by simpa using hb)])
          have ht : (((S / 4 % 2 : Nat) : Int) == 1) = true := by simp; omega
          have ht2 : (((S : Int) / 4 % 2) == 1) = true := by simp; omega
          clear hk hb
          go_wp2_with (go_at_call 16; refine (HI.out _).mono ?_; rintro e w1 ⟨rfl, rfl⟩)
          go_ret2
          rw [HR.out]
          exact ⟨rfl, rfl⟩
        · have HR : Hid (flagsN fl 0 = flagsN (fl.drop (j + 1)) (S + 4)) := Lib.hid (by rw [HST.out, hk]; simp only [show (((2 : Int)).toNat) = 2 from rfl]; rw [if_neg (by decide), if_neg (by simpa using hb)])
          have ho := or_bit (k := 2) hS (by decide) (by simpa using hb)
          have hsm := small_bit (k := 2) hS (by decide) (by simpa using hb)
          simp only [show (2 : Nat) ^ 2 = 4 from rfl] at ho hsm
          rw [show (((4 : Nat)) : Int) = 4 from rfl] at ho
          have ht2 : (((S : Int) / 4 % 2) == 1) = false := by simp; omega
          have HSM := Lib.hid hsm
          clear hk hb hsm
          go_wp2_with (go_at_call 16; refine (HI.out _).mono ?_; rintro e w1 ⟨rfl, rfl⟩)
          go_roundw
          case rel => exact ⟨j + 1, S + 4, by omega, by go_num, by go_num, HSM.out, HR.out, by trivial⟩
          case measure => simp [intOf]; omega
      · rw [hk] at HI
        have ha := and1 (S / 8) (by omega)
        have hcast : ((S / 8 : Nat) : Int) = (S : Int) / 8 := by omega
        rw [hcast] at ha
        by_cases hb : S / 8 % 2 = 1
        · have HR : Hid (flagsN fl 0 = none) := Lib.hid (by rw [HST.out, hk]; simp only [show (((3 : Int)).toNat) = 3 from rfl]; rw [if_neg (by decide), if_pos (by simpa using hb)])
          have ht : (((S / 8 % 2 : Nat) : Int) == 1) = true := by simp; omega
          have ht2 : (((S : Int) / 8 % 2) == 1) = true := by simp; omega
          clear hk hb
          go_wp2_with (go_at_call 16; refine (HI.out _).mono ?_; rintro e w1 ⟨rfl, rfl⟩)
          go_ret2
          rw [HR.out]
          exact ⟨rfl, rfl⟩
        · have HR : Hid (flagsN fl 0 = flagsN (fl.drop (j + 1)) (S + 8)) := Lib.hid (by rw [HST.out, hk]; simp only [show (((3 : Int)).toNat) = 3 from rfl]; rw [if_neg (by decide), if_neg (by simpa using hb)])
          have ho := or_bit (k := 3) hS (by decide) (by simpa using hb)
          have hsm := small_bit (k := 3) hS (by decide) (by simpa using hb)
          simp only [show (2 : Nat) ^ 3 = 8 from rfl] at ho hsm
          rw [show (((8 : Nat)) : Int) = 8 from rfl] at ho
          have ht2 : (((S : Int) / 8 % 2) == 1) = false := by simp; omega
          have HSM := Lib.hid hsm
          clear hk hb hsm
          go_wp2_with (go_at_call 16; refine (HI.out _).mono ?_; rintro e w1 ⟨rfl, rfl⟩)
          go_roundw
          case rel => exact ⟨j + 1, S + 8, by omega, by go_num, by go_num, HSM.out, HR.out, by trivial⟩
          case measure => simp [intOf]; omega
      · rw [hk] at HI
        have ha := and1 (S / 16) (by omega)
        have hcast : ((S / 16 : Nat) : Int) = (S : Int) / 16 := by omega
        rw [hcast] at ha
        by_cases hb : S / 16 % 2 = 1
        · have HR : Hid (flagsN fl 0 = none) := Lib.hid (by rw [HST.out, hk]; simp only [show (((4 : Int)).toNat) = 4 from rfl]; rw [if_neg (by decide), if_pos (by simpa using hb)])
          have ht : (((S / 16 % 2 : Nat) : Int) == 1) = true := by simp; omega
          have ht2 : (((S : Int) / 16 % 2) == 1) = true := by simp; omega
          clear hk hb
          go_wp2_with (go_at_call 16; refine (HI.out _).mono ?_; rintro e w1 ⟨rfl, rfl⟩)
          go_ret2
          rw [HR.out]
          exact ⟨rfl, rfl⟩
        · have HR : Hid (flagsN fl 0 = flagsN (fl.drop (j + 1)) (S + 16)) := Lib.hid (by rw [HST.out, hk]; simp only [show (((4 : Int)).toNat) = 4 from rfl]; rw [if_neg (by decide), if_neg (by simpa using hb)])
          have ho := or_bit (k := 4) hS (by decide) (by simpa using hb)
          have hsm := small_bit (k := 4) hS (by decide) (by simpa using hb)
          simp only [show (2 : Nat) ^ 4 = 16 from rfl] at ho hsm
          rw [show (((16 : Nat)) : Int) = 16 from rfl] at ho
          have ht2 : (((S : Int) / 16 % 2) == 1) = false := by simp; omega
          have HSM := Lib.hid hsm
          clear hk hb hsm
          go_wp2_with (go_at_call 16; refine (HI.out _).mono ?_; rintro e w1 ⟨rfl, rfl⟩)
          go_roundw
          case rel => exact ⟨j + 1, S + 16, by omega, by go_num, by go_num, HSM.out, HR.out, by trivial⟩
          case measure => simp [intOf]; omega
      · rw [hk] at HI
        have ha := and1 (S / 32) (by omega)
        have hcast : ((S / 32 : Nat) : Int) = (S : Int) / 32 := by omega
        rw [hcast] at ha
        by_cases hb : S / 32 % 2 = 1
        · have HR : Hid (flagsN fl 0 = none) := Lib.hid (by rw [HST.out, hk]; simp only [show (((5 : Int)).toNat) = 5 from rfl]; rw [if_neg (by decide), if_pos (by simpa using hb)])
          have ht : (((S / 32 % 2 : Nat) : Int) == 1) = true := by simp; omega
          have ht2 : (((S : Int) / 32 % 2) == 1) = true := by simp; omega
          clear hk hb
          go_wp2_with (go_at_call 16; refine (HI.out _).mono ?_; rintro e w1 ⟨rfl, rfl⟩)
          go_ret2
          rw [HR.out]
          exact ⟨rfl, rfl⟩
        · have HR : Hid (flagsN fl 0 = flagsN (fl.drop (j + 1)) (S + 32)) := Lib.hid (by rw [HST.out, hk]; simp only [show (((5 : Int)).toNat) = 5 from rfl]; rw [if_neg (by decide), if_neg (by simpa using hb)])
          have ho := or_bit (k := 5) hS (by decide) (by simpa using hb)
          have hsm := small_bit (k := 5) hS (by decide) (by simpa using hb)
          simp only [show (2 : Nat) ^ 5 = 32 from rfl] at ho hsm
          rw [show (((32 : Nat)) : Int) = 32 from rfl] at ho
          have ht2 : (((S : Int) / 32 % 2) == 1) = false := by simp; omega
          have HSM := Lib.hid hsm
          clear hk hb hsm
          go_wp2_with (go_at_call 16; refine (HI.out _).mono ?_; rintro e w1 ⟨rfl, rfl⟩)
          go_roundw
          case rel => exact ⟨j + 1, S + 32, by omega, by go_num, by go_num, HSM.out, HR.out, by trivial⟩
          case measure => simp [intOf]; omega
      · rw [hk] at HI
        have ha := and1 (S / 64) (by omega)
        have hcast : ((S / 64 : Nat) : Int) = (S : Int) / 64 := by omega
        rw [hcast] at ha
        by_cases hb : S / 64 % 2 = 1
        · have HR : Hid (flagsN fl 0 = none) := Lib.hid (by rw [HST.out, hk]; simp only [show (((6 : Int)).toNat) = 6 from rfl]; rw [if_neg (by decide), if_pos (by simpa using hb)])
          have ht : (((S / 64 % 2 : Nat) : Int) == 1) = true := by simp; omega
          have ht2 : (((S : Int) / 64 % 2) == 1) = true := by simp; omega
          clear hk hb
          go_wp2_with (go_at_call 16; refine (HI.out _).mono ?_; rintro e w1 ⟨rfl, rfl⟩)
          go_ret2
          rw [HR.out]
          exact ⟨rfl, rfl⟩
        · have HR : Hid (flagsN fl 0 = flagsN (fl.drop (j + 1)) (S + 64)) := Lib.hid (by rw [HST.out, hk]; simp only [show (((6 : Int)).toNat) = 6 from rfl]; rw [if_neg (by decide), if_neg (by simpa using hb)])
          have ho := or_bit (k := 6) hS (by decide) (by simpa using hb)
          have hsm := small_bit (k := 6) hS (by decide) (by simpa using hb)
          simp only [show (2 : Nat) ^ 6 = 64 from rfl] at ho hsm
          rw [show (((64 : Nat)) : Int) = 64 from rfl] at ho
          have ht2 : (((S : Int) / 64 % 2) == 1) = false := by simp; omega
          have HSM := Lib.hid hsm
          clear hk hb hsm
          go_wp2_with (go_at_call 16; refine (HI.out _).mono ?_; rintro e w1 ⟨rfl, rfl⟩)
          go_roundw
          case rel => exact ⟨j + 1, S + 64, by omega, by go_num, by go_num, HSM.out, HR.out, by trivial⟩
          case measure => simp [intOf]; omega
    · have hjl : j = fl.length := by omega
      have HR : Hid (flagsN fl 0 = some S) := Lib.hid (by rw [HFL.out, hjl, List.drop_length]; rfl)
      have hji : ¬ ((j : Int) < (fl.length : Int)) := by omega
      clear hlt hjl
      go_wp2_with fail
      go_ret2
      rw [HR.out]
      exact ⟨rfl, rfl⟩
end Go.Proofs.YtnbadnmmolagfaaDoor
