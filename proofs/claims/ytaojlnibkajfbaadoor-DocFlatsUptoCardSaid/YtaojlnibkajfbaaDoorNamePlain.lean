/- A name, in plain Lean: every character may stand where it stands. -/
import Derived.Test.YtaojlnibkajfbaaDoorUniPlain
import Derived.Test.YtaojlnibkajfbaaDoorUtfPlain
namespace Go.Proofs.YtaojlnibkajfbaaDoor

/-- May the character that begins at this place stand there in a name? -/
def okAt (s : ByteArray) (pos : Nat) : Bool := partB (Utf8.decode s pos).1 && (decide (pos ≠ 0) || startB (Utf8.decode s pos).1)
/-- From a place on, at most so many characters. -/
def nameFrom (s : ByteArray) : Nat → Nat → Bool
  | 0, _ => true
  | f + 1, pos => if pos < s.size then okAt s pos && nameFrom s f (pos + (Utf8.decode s pos).2) else true
def nameB (s : ByteArray) : Bool := nameFrom s s.size 0 && decide (0 < s.size)

theorem partB_err : partB 65533 = false := by decide
theorem startB_part (r : Int) (h : startB r = true) : partB r = true := by unfold partB; rw [h]; rfl

/-- More fuel than bytes says no more. -/
theorem nameFrom_fuel (s : ByteArray) : ∀ (f g pos : Nat), s.size ≤ pos + f → s.size ≤ pos + g → nameFrom s f pos = nameFrom s g pos
  | 0, 0, _, _, _ => rfl
  | 0, g + 1, pos, h, _ => by
    have : ¬ pos < s.size := by omega
    simp [nameFrom, this]
  | f + 1, 0, pos, _, h => by
    have : ¬ pos < s.size := by omega
    simp [nameFrom, this]
  | f + 1, g + 1, pos, h, h' => by
    have hp := decode_pos s pos
    simp only [nameFrom]
    by_cases hlt : pos < s.size
    · rw [if_pos hlt, if_pos hlt, nameFrom_fuel s f g _ (by omega) (by omega)]
    · rw [if_neg hlt, if_neg hlt]
/-- The rest from a place on, fuel as many as bytes are left. -/
def nameRest (s : ByteArray) (pos : Nat) : Bool := nameFrom s (s.size - pos) pos
theorem nameRest_step (s : ByteArray) (pos : Nat) (h : pos < s.size) : nameRest s pos = (okAt s pos && nameRest s (pos + (Utf8.decode s pos).2)) := by
  have hp := decode_pos s pos
  have hi := decode_in s pos h
  unfold nameRest
  obtain ⟨f, hf⟩ : ∃ f, s.size - pos = f + 1 := ⟨s.size - pos - 1, by omega⟩
  rw [hf]
  show (if pos < s.size then _ else _) = _
  rw [if_pos h, nameFrom_fuel s f (s.size - (pos + (Utf8.decode s pos).2)) _ (by omega) (by omega)]
theorem nameRest_end (s : ByteArray) (pos : Nat) (h : ¬ pos < s.size) : nameRest s pos = true := by
  unfold nameRest
  have : s.size - pos = 0 := by omega
  rw [this]; rfl
theorem okAt_bad (s : ByteArray) (pos : Nat) (h : runeB s pos < 0) : okAt s pos = false := by
  have h0 : lenB s pos = 0 := by
    by_cases h1 : lenB s pos = 0
    · exact h1
    · unfold runeB at h
      rw [if_neg h1] at h
      omega
  unfold okAt
  rw [decode_bad s pos h0]
  show (partB 65533 && _) = false
  rw [partB_err]; rfl
theorem okAt_rune (s : ByteArray) (pos : Nat) (h : ¬ runeB s pos < 0) : okAt s pos = (partB (runeB s pos) && (decide (pos ≠ 0) || startB (runeB s pos))) := by
  unfold runeB at h ⊢
  by_cases h1 : lenB s pos = 0
  · rw [if_pos h1] at h; omega
  · rw [if_neg h1]; rfl
theorem runeB_le (s : ByteArray) (pos : Nat) : runeB s pos ≤ 2147483647 := by
  unfold runeB
  have := decode_le s pos
  split <;> omega
theorem nameB_rest (s : ByteArray) : nameB s = (nameRest s 0 && decide (0 < s.size)) := rfl
end Go.Proofs.YtaojlnibkajfbaaDoor
