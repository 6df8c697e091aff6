/- UTF-8 in plain Lean: the model's own decoder and the reference's steps. No program in sight. -/
import Derived.Laws.RangeAny
namespace Go.Proofs.YtnbadnmmolagfaaDoor

/-- A byte of a text as a number. -/
def byt (s : ByteArray) (j : Nat) : Nat := (s.get! j).toNat
theorem byt_lt (s : ByteArray) (j : Nat) : byt s j < 256 := (s.get! j).toNat_lt
theorem byt_eq (s : ByteArray) (j : Nat) (h : j < s.size) : (s[j]'h).toNat = byt s j := by
  unfold byt
  rw [← get_at s j h]; rfl

/-- A continuation byte? -/
def tailB (s : ByteArray) (j : Nat) : Bool := decide (j < s.size) && decide (128 ≤ byt s j) && decide (byt s j < 192)

/-- How many bytes the character at a place has; 0: it is none. -/
def lenB (s : ByteArray) (i : Nat) : Nat :=
  if byt s i < 128 then 1
  else if 194 ≤ byt s i ∧ byt s i < 224 ∧ tailB s (i + 1) = true then 2
  else if 224 ≤ byt s i ∧ byt s i < 240 ∧ tailB s (i + 1) = true ∧ tailB s (i + 2) = true then
    (if (byt s i = 224 ∧ byt s (i + 1) < 160) ∨ (byt s i = 237 ∧ 160 ≤ byt s (i + 1)) then 0 else 3)
  else if 240 ≤ byt s i ∧ byt s i < 245 ∧ tailB s (i + 1) = true ∧ tailB s (i + 2) = true ∧ tailB s (i + 3) = true then
    (if (byt s i = 240 ∧ byt s (i + 1) < 144) ∨ (byt s i = 244 ∧ 144 ≤ byt s (i + 1)) then 0 else 4)
  else 0

/-- The reference's character: its number, -1 where there is none. -/
def runeB (s : ByteArray) (i : Nat) : Int := if lenB s i = 0 then -1 else (Utf8.decode s i).1

/-- The model's decoder in the words of this page. -/
theorem decode_eq (s : ByteArray) (i : Nat) : Utf8.decode s i =
    (if byt s i < 128 then (byt s i, 1)
     else if byt s i / 32 == 6 && (decide (i + 1 < s.size) && byt s (i + 1) / 64 == 2) then
       (if byt s i % 32 * 64 + byt s (i + 1) % 64 ≥ 128 then (byt s i % 32 * 64 + byt s (i + 1) % 64, 2) else (65533, 1))
     else if byt s i / 16 == 14 && (decide (i + 1 < s.size) && byt s (i + 1) / 64 == 2) && (decide (i + 2 < s.size) && byt s (i + 2) / 64 == 2) then
       (if (byt s i % 16 * 4096 + byt s (i + 1) % 64 * 64 + byt s (i + 2) % 64 ≥ 2048 && Utf8.valid (byt s i % 16 * 4096 + byt s (i + 1) % 64 * 64 + byt s (i + 2) % 64 : Nat)) = true then (byt s i % 16 * 4096 + byt s (i + 1) % 64 * 64 + byt s (i + 2) % 64, 3) else (65533, 1))
     else if byt s i / 8 == 30 && (decide (i + 1 < s.size) && byt s (i + 1) / 64 == 2) && (decide (i + 2 < s.size) && byt s (i + 2) / 64 == 2) && (decide (i + 3 < s.size) && byt s (i + 3) / 64 == 2) then
       (if (byt s i % 8 * 262144 + byt s (i + 1) % 64 * 4096 + byt s (i + 2) % 64 * 64 + byt s (i + 3) % 64 ≥ 65536 && Utf8.valid (byt s i % 8 * 262144 + byt s (i + 1) % 64 * 4096 + byt s (i + 2) % 64 * 64 + byt s (i + 3) % 64 : Nat)) = true then (byt s i % 8 * 262144 + byt s (i + 1) % 64 * 4096 + byt s (i + 2) % 64 * 64 + byt s (i + 3) % 64, 4) else (65533, 1))
     else (65533, 1)) := by
  rfl

theorem tailB_iff (s : ByteArray) (j : Nat) : (decide (j < s.size) && byt s j / 64 == 2) = tailB s j := by
  have h : (byt s j / 64 == 2) = (decide (128 ≤ byt s j) && decide (byt s j < 192)) := by
    rw [Bool.eq_iff_iff]; simp; omega
  rw [h, tailB, Bool.and_assoc]

theorem tailB_bd {s : ByteArray} {j : Nat} (h : tailB s j = true) : j < s.size ∧ 128 ≤ byt s j ∧ byt s j < 192 := by
  unfold tailB at h
  simp at h
  omega

/-- The core of the next two, over plain numbers. -/
theorem dec_core (b0 b1 b2 b3 : Nat) (t1 t2 t3 : Bool) (h0 : b0 < 256) (h1 : t1 = true → 128 ≤ b1 ∧ b1 < 192) (h2 : t2 = true → 128 ≤ b2 ∧ b2 < 192) (h3 : t3 = true → 128 ≤ b3 ∧ b3 < 192) (D : Nat × Nat)
    (hD : D = (if b0 < 128 then (b0, 1)
     else if b0 / 32 == 6 && t1 then (if b0 % 32 * 64 + b1 % 64 ≥ 128 then (b0 % 32 * 64 + b1 % 64, 2) else (65533, 1))
     else if b0 / 16 == 14 && t1 && t2 then
       (if (b0 % 16 * 4096 + b1 % 64 * 64 + b2 % 64 ≥ 2048 && Utf8.valid (b0 % 16 * 4096 + b1 % 64 * 64 + b2 % 64 : Nat)) = true then (b0 % 16 * 4096 + b1 % 64 * 64 + b2 % 64, 3) else (65533, 1))
     else if b0 / 8 == 30 && t1 && t2 && t3 then
       (if (b0 % 8 * 262144 + b1 % 64 * 4096 + b2 % 64 * 64 + b3 % 64 ≥ 65536 && Utf8.valid (b0 % 8 * 262144 + b1 % 64 * 4096 + b2 % 64 * 64 + b3 % 64 : Nat)) = true then (b0 % 8 * 262144 + b1 % 64 * 4096 + b2 % 64 * 64 + b3 % 64, 4) else (65533, 1))
     else (65533, 1))) (L : Nat)
    (hL : L = (if b0 < 128 then 1
      else if 194 ≤ b0 ∧ b0 < 224 ∧ t1 = true then 2
      else if 224 ≤ b0 ∧ b0 < 240 ∧ t1 = true ∧ t2 = true then (if (b0 = 224 ∧ b1 < 160) ∨ (b0 = 237 ∧ 160 ≤ b1) then 0 else 3)
      else if 240 ≤ b0 ∧ b0 < 245 ∧ t1 = true ∧ t2 = true ∧ t3 = true then (if (b0 = 240 ∧ b1 < 144) ∨ (b0 = 244 ∧ 144 ≤ b1) then 0 else 4)
      else 0)) :
    (L = 0 ∧ D = (65533, 1)) ∨ (L = 1 ∧ b0 < 128 ∧ D = (b0, 1)) ∨ (L = 2 ∧ t1 = true ∧ 128 ≤ D.1 ∧ D = (b0 % 32 * 64 + b1 % 64, 2)) ∨ (L = 3 ∧ t1 = true ∧ t2 = true ∧ 2048 ≤ D.1 ∧ D = (b0 % 16 * 4096 + b1 % 64 * 64 + b2 % 64, 3)) ∨
      (L = 4 ∧ t1 = true ∧ t2 = true ∧ t3 = true ∧ 65536 ≤ D.1 ∧ D.1 ≤ 1114111 ∧ D = (b0 % 8 * 262144 + b1 % 64 * 4096 + b2 % 64 * 64 + b3 % 64, 4)) := by
  by_cases c0 : b0 < 128
  · rw [if_pos c0] at hD hL
    exact Or.inr (Or.inl ⟨hL, c0, hD⟩)
  rw [if_neg c0] at hD hL
  cases t1
  · simp at hD hL
    exact Or.inl ⟨hL, hD⟩
  have h1 := h1 rfl
  by_cases c1 : b0 / 32 = 6
  · simp only [c1, beq_self_eq_true, Bool.and_self, if_true] at hD
    have c2 : ¬ (224 ≤ b0 ∧ b0 < 240 ∧ true = true ∧ t2 = true) := by omega
    have c3 : ¬ (240 ≤ b0 ∧ b0 < 245 ∧ true = true ∧ t2 = true ∧ t3 = true) := by omega
    rw [if_neg c2, if_neg c3] at hL
    by_cases c4 : 194 ≤ b0
    · rw [if_pos ⟨by omega, by omega, rfl⟩] at hL
      rw [if_pos (by omega)] at hD
      subst hD
      exact Or.inr (Or.inr (Or.inl ⟨hL, rfl, by simp only; omega, rfl⟩))
    · rw [if_neg (by omega)] at hL
      rw [if_neg (by omega)] at hD
      exact Or.inl ⟨hL, hD⟩
  have c1' : (b0 / 32 == 6) = false := by simpa using c1
  simp only [c1', Bool.false_and, Bool.false_eq_true, if_false] at hD
  rw [if_neg (by omega)] at hL
  cases t2
  · simp at hD hL
    exact Or.inl ⟨hL, hD⟩
  have h2 := h2 rfl
  by_cases c2 : b0 / 16 = 14
  · simp only [c2, beq_self_eq_true, Bool.and_self, if_true] at hD
    rw [if_pos ⟨by omega, by omega, rfl, rfl⟩] at hL
    by_cases c3 : b0 = 224 ∧ b1 < 160 ∨ b0 = 237 ∧ 160 ≤ b1
    · rw [if_pos c3] at hL
      rw [if_neg (by simp [Utf8.valid]; omega)] at hD
      exact Or.inl ⟨hL, hD⟩
    · rw [if_neg c3] at hL
      rw [if_pos (by simp [Utf8.valid]; omega)] at hD
      subst hD
      exact Or.inr (Or.inr (Or.inr (Or.inl ⟨hL, rfl, rfl, by simp only; omega, rfl⟩)))
  have c2' : (b0 / 16 == 14) = false := by simpa using c2
  simp only [c2', Bool.false_and, Bool.false_eq_true, if_false] at hD
  rw [if_neg (by omega)] at hL
  cases t3
  · simp at hD hL
    exact Or.inl ⟨hL, hD⟩
  have h3 := h3 rfl
  by_cases c3 : b0 / 8 = 30
  · simp only [c3, beq_self_eq_true, Bool.and_self, if_true] at hD
    by_cases c5 : b0 < 245
    · rw [if_pos ⟨by omega, by omega, rfl, rfl, rfl⟩] at hL
      by_cases c4 : b0 = 240 ∧ b1 < 144 ∨ b0 = 244 ∧ 144 ≤ b1
      · rw [if_pos c4] at hL
        rw [if_neg (by simp [Utf8.valid]; omega)] at hD
        exact Or.inl ⟨hL, hD⟩
      · rw [if_neg c4] at hL
        rw [if_pos (by simp [Utf8.valid]; omega)] at hD
        subst hD
        exact Or.inr (Or.inr (Or.inr (Or.inr ⟨hL, rfl, rfl, rfl, by simp only; omega, by simp only; omega, rfl⟩)))
    · rw [if_neg (by omega)] at hL
      rw [if_neg (by simp [Utf8.valid]; omega)] at hD
      exact Or.inl ⟨hL, hD⟩
  · have c3' : (b0 / 8 == 30) = false := by simpa using c3
    simp only [c3', Bool.false_and, Bool.false_eq_true, if_false] at hD
    rw [if_neg (by omega)] at hL
    exact Or.inl ⟨hL, hD⟩

/-- THE DECODER AND THE REFERENCE's LENGTH, case by case. -/
theorem dec_cases (s : ByteArray) (i : Nat) :
    (lenB s i = 0 ∧ Utf8.decode s i = (65533, 1)) ∨ (lenB s i = 1 ∧ byt s i < 128 ∧ Utf8.decode s i = (byt s i, 1)) ∨
      (lenB s i = 2 ∧ tailB s (i + 1) = true ∧ 128 ≤ (Utf8.decode s i).1 ∧ Utf8.decode s i = (byt s i % 32 * 64 + byt s (i + 1) % 64, 2)) ∨
      (lenB s i = 3 ∧ tailB s (i + 1) = true ∧ tailB s (i + 2) = true ∧ 2048 ≤ (Utf8.decode s i).1 ∧ Utf8.decode s i = (byt s i % 16 * 4096 + byt s (i + 1) % 64 * 64 + byt s (i + 2) % 64, 3)) ∨
      (lenB s i = 4 ∧ tailB s (i + 1) = true ∧ tailB s (i + 2) = true ∧ tailB s (i + 3) = true ∧ 65536 ≤ (Utf8.decode s i).1 ∧ (Utf8.decode s i).1 ≤ 1114111 ∧
        Utf8.decode s i = (byt s i % 8 * 262144 + byt s (i + 1) % 64 * 4096 + byt s (i + 2) % 64 * 64 + byt s (i + 3) % 64, 4)) := by
  refine dec_core (byt s i) (byt s (i + 1)) (byt s (i + 2)) (byt s (i + 3)) (tailB s (i + 1)) (tailB s (i + 2)) (tailB s (i + 3)) (byt_lt s i)
    (fun h => (tailB_bd h).2) (fun h => (tailB_bd h).2) (fun h => (tailB_bd h).2) _ ?_ _ rfl
  rw [decode_eq]
  simp only [tailB_iff]

theorem lenB_le (s : ByteArray) (i : Nat) : lenB s i ≤ 4 := by
  rcases dec_cases s i with h | h | h | h | h <;> omega
/-- Where a character begins: as wide as its length; where none: one byte. -/
theorem decode_two (s : ByteArray) (i : Nat) : (Utf8.decode s i).2 = if lenB s i = 0 then 1 else lenB s i := by
  rcases dec_cases s i with ⟨h, e⟩ | ⟨h, _, e⟩ | ⟨h, _, _, e⟩ | ⟨h, _, _, _, e⟩ | ⟨h, _, _, _, _, _, e⟩ <;> rw [e, h] <;> rfl
theorem decode_pos (s : ByteArray) (i : Nat) : 1 ≤ (Utf8.decode s i).2 := by
  rw [decode_two]; split <;> omega
theorem decode_bad (s : ByteArray) (i : Nat) (h : lenB s i = 0) : Utf8.decode s i = (65533, 1) := by
  rcases dec_cases s i with ⟨_, e⟩ | ⟨h', _⟩ | ⟨h', _⟩ | ⟨h', _⟩ | ⟨h', _⟩
  · exact e
  all_goals omega
/-- The one character that is told like a fault, U+FFFD, has three bytes. -/
theorem bad_iff (s : ByteArray) (i : Nat) : lenB s i = 0 ↔ (Utf8.decode s i).1 = 65533 ∧ (Utf8.decode s i).2 = 1 := by
  constructor
  · intro h
    rw [decode_bad s i h]
    exact ⟨rfl, rfl⟩
  · rintro ⟨h1, h2⟩
    rcases dec_cases s i with ⟨h, e⟩ | ⟨h, hb, e⟩ | ⟨h, _, _, e⟩ | ⟨h, _, _, _, e⟩ | ⟨h, _, _, _, _, _, e⟩
    · exact h
    all_goals rw [e] at h1 h2
    · simp at h1; omega
    all_goals simp at h2
/-- A character lies within its text. -/
theorem decode_in (s : ByteArray) (i : Nat) (hi : i < s.size) : i + (Utf8.decode s i).2 ≤ s.size := by
  rcases dec_cases s i with ⟨h, e⟩ | ⟨h, hb, e⟩ | ⟨h, t1, _, e⟩ | ⟨h, t1, t2, _, e⟩ | ⟨h, t1, t2, t3, _, _, e⟩ <;> rw [e]
  · show i + 1 ≤ _; omega
  · show i + 1 ≤ _; omega
  · have := tailB_bd t1; show i + 2 ≤ _; omega
  · have := tailB_bd t2; show i + 3 ≤ _; omega
  · have := tailB_bd t3; show i + 4 ≤ _; omega

end Go.Proofs.YtnbadnmmolagfaaDoor
