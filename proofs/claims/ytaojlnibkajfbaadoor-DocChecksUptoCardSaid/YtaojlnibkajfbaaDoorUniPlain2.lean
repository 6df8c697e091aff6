/- Which byte is no part of a whole character, how wide a text is: in plain Lean. -/
import Derived.Test.YtaojlnibkajfbaaDoorUniPlain
import Derived.Test.YtaojlnibkajfbaaDoorUtfPlain
namespace Go.Proofs.YtaojlnibkajfbaaDoor

/-- The first place from pos on where no character begins. -/
def badFrom (s : ByteArray) : Nat → Nat → Option Nat
  | 0, _ => Option.none
  | f + 1, pos => if pos < s.size then (if lenB s pos = 0 then some pos else badFrom s f (pos + (Utf8.decode s pos).2)) else Option.none
theorem badFrom_fuel (s : ByteArray) : ∀ (f g pos : Nat), s.size ≤ pos + f → s.size ≤ pos + g → badFrom s f pos = badFrom s g pos
  | 0, 0, _, _, _ => rfl
  | 0, g + 1, pos, h, _ => by
    have : ¬ pos < s.size := by omega
    simp [badFrom, this]
  | f + 1, 0, pos, _, h => by
    have : ¬ pos < s.size := by omega
    simp [badFrom, this]
  | f + 1, g + 1, pos, h, h' => by
    have hp := decode_pos s pos
    simp only [badFrom]
    by_cases hlt : pos < s.size
    · rw [if_pos hlt, if_pos hlt, badFrom_fuel s f g _ (by omega) (by omega)]
    · rw [if_neg hlt, if_neg hlt]
def badRest (s : ByteArray) (pos : Nat) : Option Nat := badFrom s (s.size - pos) pos
theorem badRest_end (s : ByteArray) (pos : Nat) (h : ¬ pos < s.size) : badRest s pos = Option.none := by
  unfold badRest
  have : s.size - pos = 0 := by omega
  rw [this]; rfl
theorem badRest_bad (s : ByteArray) (pos : Nat) (h : pos < s.size) (hb : lenB s pos = 0) : badRest s pos = some pos := by
  unfold badRest
  obtain ⟨f, hf⟩ : ∃ f, s.size - pos = f + 1 := ⟨s.size - pos - 1, by omega⟩
  rw [hf]
  simp only [badFrom]
  rw [if_pos h, if_pos hb]
theorem badRest_step (s : ByteArray) (pos : Nat) (h : pos < s.size) (hb : lenB s pos ≠ 0) : badRest s pos = badRest s (pos + (Utf8.decode s pos).2) := by
  have hp := decode_pos s pos
  have hi := decode_in s pos h
  unfold badRest
  obtain ⟨f, hf⟩ : ∃ f, s.size - pos = f + 1 := ⟨s.size - pos - 1, by omega⟩
  rw [hf]
  simp only [badFrom]
  rw [if_pos h, if_neg hb, badFrom_fuel s f (s.size - (pos + (Utf8.decode s pos).2)) _ (by omega) (by omega)]
/-- What Valid tells: the place and the error's number. -/
def validPos (s : ByteArray) : Int := match badRest s 0 with | some p => (p : Int) | Option.none => 0
def validCode (s : ByteArray) : Int := match badRest s 0 with | some _ => 100 | Option.none => 0
theorem valid_some {s : ByteArray} {p : Nat} (h : badRest s 0 = some p) : validPos s = (p : Int) ∧ validCode s = 100 := by simp [validPos, validCode, h]
theorem valid_none {s : ByteArray} (h : badRest s 0 = Option.none) : validPos s = 0 ∧ validCode s = 0 := by simp [validPos, validCode, h]

/-- One character's columns. -/
def colsB (r : Int) : Nat := if wideB r = true then 2 else 1
def widthFrom (s : ByteArray) : Nat → Nat → Nat
  | 0, _ => 0
  | f + 1, pos => if pos < s.size then colsB (Utf8.decode s pos).1 + widthFrom s f (pos + (Utf8.decode s pos).2) else 0
theorem widthFrom_fuel (s : ByteArray) : ∀ (f g pos : Nat), s.size ≤ pos + f → s.size ≤ pos + g → widthFrom s f pos = widthFrom s g pos
  | 0, 0, _, _, _ => rfl
  | 0, g + 1, pos, h, _ => by
    have : ¬ pos < s.size := by omega
    simp [widthFrom, this]
  | f + 1, 0, pos, _, h => by
    have : ¬ pos < s.size := by omega
    simp [widthFrom, this]
  | f + 1, g + 1, pos, h, h' => by
    have hp := decode_pos s pos
    simp only [widthFrom]
    by_cases hlt : pos < s.size
    · rw [if_pos hlt, if_pos hlt, widthFrom_fuel s f g _ (by omega) (by omega)]
    · rw [if_neg hlt, if_neg hlt]
def widthRest (s : ByteArray) (pos : Nat) : Nat := widthFrom s (s.size - pos) pos
def widthB (s : ByteArray) : Nat := widthRest s 0
theorem widthRest_end (s : ByteArray) (pos : Nat) (h : ¬ pos < s.size) : widthRest s pos = 0 := by
  unfold widthRest
  have : s.size - pos = 0 := by omega
  rw [this]; rfl
theorem widthRest_step (s : ByteArray) (pos : Nat) (h : pos < s.size) : widthRest s pos = colsB (Utf8.decode s pos).1 + widthRest s (pos + (Utf8.decode s pos).2) := by
  have hp := decode_pos s pos
  have hi := decode_in s pos h
  unfold widthRest
  obtain ⟨f, hf⟩ : ∃ f, s.size - pos = f + 1 := ⟨s.size - pos - 1, by omega⟩
  rw [hf]
  simp only [widthFrom]
  rw [if_pos h, widthFrom_fuel s f (s.size - (pos + (Utf8.decode s pos).2)) _ (by omega) (by omega)]
/-- A text is no wider than twice its bytes. -/
theorem widthFrom_le (s : ByteArray) : ∀ (f pos : Nat), pos ≤ s.size → widthFrom s f pos ≤ 2 * (s.size - pos)
  | 0, _, _ => Nat.zero_le _
  | f + 1, pos, hle => by
    simp only [widthFrom]
    by_cases h : pos < s.size
    · have hp := decode_pos s pos
      have hi := decode_in s pos h
      have ih := widthFrom_le s f _ hi
      rw [if_pos h]
      have : colsB (Utf8.decode s pos).1 ≤ 2 := by unfold colsB; split <;> omega
      omega
    · rw [if_neg h]; omega
theorem widthRest_le (s : ByteArray) (pos : Nat) (h : pos ≤ s.size) : widthRest s pos ≤ 2 * (s.size - pos) := widthFrom_le s _ pos h

/-- Every row lies between two numbers. -/
def rowsIn (lo hi : Int) : List Int → Bool
  | a :: b :: t => decide (lo ≤ a) && decide (b ≤ hi) && rowsIn lo hi t
  | _ => true
theorem inB_bounds (lo hi r : Int) : ∀ xs : List Int, rowsIn lo hi xs = true → inB r xs = true → lo ≤ r ∧ r ≤ hi
  | [], _, h => by simp [inB] at h
  | [_], _, h => by simp [inB] at h
  | a :: b :: t, hr, h => by
    simp only [rowsIn, Bool.and_eq_true, decide_eq_true_eq] at hr
    simp only [inB, Bool.or_eq_true, Bool.and_eq_true, decide_eq_true_eq] at h
    rcases h with h | h
    · omega
    · exact inB_bounds lo hi r t hr.2 h
theorem wideB_in (r : Int) : inB r wideRows = wideB r := by
  unfold wideB
  cases h : inB r wideRows
  · simp
  · have := inB_bounds 0x1100 0x3fffd r wideRows (by decide) h
    simp [this.1]
theorem wideB_err : wideB 65533 = false := by decide
theorem wideB_neg : wideB (-1) = false := by decide
/-- The reference's character, -1 where there is none, is as wide as the program's. -/
theorem wideB_rune (s : ByteArray) (pos : Nat) : wideB (runeB s pos) = wideB (Utf8.decode s pos).1 := by
  unfold runeB
  by_cases h : lenB s pos = 0
  · rw [if_pos h, decode_bad s pos h]
    exact wideB_neg.trans wideB_err.symm
  · rw [if_neg h]

def refBlankRows : List Int := [9, 9, 11, 12, 32, 32, 0xa0, 0xa0, 0x1680, 0x1680, 0x2000, 0x200a, 0x202f, 0x202f, 0x205f, 0x205f, 0x3000, 0x3000, 0xfeff, 0xfeff]
theorem refBlank_eq (r : Int) : inB r refBlankRows = blankB r := by
  unfold refBlankRows blankB
  have k3 : ∀ a : Int, (decide (a ≤ r) && decide (r ≤ a)) = (r == a) := fun a => by
    rw [Bool.eq_iff_iff]; simp; omega
  have k4 : (decide (11 ≤ r) && decide (r ≤ 12)) = ((r == 11) || (r == 12)) := by
    rw [Bool.eq_iff_iff]; simp; omega
  simp only [inB, oneB, k3, k4, Bool.or_false]
  ac_rfl
theorem refEnds_eq (r : Int) : (((r == 10 || r == 13) || r == 8232) || r == 8233) = endsB r := by
  unfold endsB
  simp only [oneB, Bool.or_false]
  ac_rfl
end Go.Proofs.YtaojlnibkajfbaaDoor
