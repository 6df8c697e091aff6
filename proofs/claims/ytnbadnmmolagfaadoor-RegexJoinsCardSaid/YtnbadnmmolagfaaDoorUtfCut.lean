/- Texts cut and joined, and their characters. Plain Lean. -/
import Derived.Test.YtnbadnmmolagfaaDoorUtfPlain
import Derived.Lib.IndexBytes
namespace Go.Proofs.YtnbadnmmolagfaaDoor

theorem byt_list (s : ByteArray) (j : Nat) : byt s j = (s.data.toList[j]?.getD 0).toNat := by
  by_cases h : j < s.size
  · rw [← byt_eq s j h, List.getElem?_eq_getElem (by simpa using h)]
    rfl
  · have h' : ¬ j < s.data.size := h
    rw [List.getElem?_eq_none (by simpa using Nat.le_of_not_lt h')]
    have e : s.get! j = default := by
      show s.data[j]! = default
      exact getElem!_neg s.data j h'
    unfold byt
    rw [e]; rfl
theorem size_list (s : ByteArray) : s.size = s.data.toList.length := by simp

/-- The decoder's form over plain values. -/
def decF (b0 b1 b2 b3 : Nat) (t1 t2 t3 : Bool) : Nat × Nat :=
  if b0 < 128 then (b0, 1)
  else if b0 / 32 == 6 && t1 then (if b0 % 32 * 64 + b1 % 64 ≥ 128 then (b0 % 32 * 64 + b1 % 64, 2) else (65533, 1))
  else if b0 / 16 == 14 && t1 && t2 then
    (if (b0 % 16 * 4096 + b1 % 64 * 64 + b2 % 64 ≥ 2048 && Utf8.valid (b0 % 16 * 4096 + b1 % 64 * 64 + b2 % 64 : Nat)) = true then (b0 % 16 * 4096 + b1 % 64 * 64 + b2 % 64, 3) else (65533, 1))
  else if b0 / 8 == 30 && t1 && t2 && t3 then
    (if (b0 % 8 * 262144 + b1 % 64 * 4096 + b2 % 64 * 64 + b3 % 64 ≥ 65536 && Utf8.valid (b0 % 8 * 262144 + b1 % 64 * 4096 + b2 % 64 * 64 + b3 % 64 : Nat)) = true then (b0 % 8 * 262144 + b1 % 64 * 4096 + b2 % 64 * 64 + b3 % 64, 4) else (65533, 1))
  else (65533, 1)
theorem decode_F (s : ByteArray) (i : Nat) : Utf8.decode s i = decF (byt s i) (byt s (i + 1)) (byt s (i + 2)) (byt s (i + 3)) (tailB s (i + 1)) (tailB s (i + 2)) (tailB s (i + 3)) := by
  rw [decode_eq]
  simp only [tailB_iff]
  rfl
theorem decF_congr {b0 b1 b2 b3 c1 c2 c3 : Nat} {t1 t2 t3 : Bool} (h1 : t1 = true → b1 = c1) (h2 : t2 = true → b2 = c2) (h3 : t3 = true → b3 = c3) : decF b0 b1 b2 b3 t1 t2 t3 = decF b0 c1 c2 c3 t1 t2 t3 := by
  unfold decF
  cases t1
  · simp
  · obtain rfl := h1 rfl
    cases t2
    · simp
    · obtain rfl := h2 rfl
      cases t3
      · simp
      · obtain rfl := h3 rfl
        rfl
def lenF (b0 b1 : Nat) (t1 t2 t3 : Bool) : Nat :=
  if b0 < 128 then 1
  else if 194 ≤ b0 ∧ b0 < 224 ∧ t1 = true then 2
  else if 224 ≤ b0 ∧ b0 < 240 ∧ t1 = true ∧ t2 = true then (if (b0 = 224 ∧ b1 < 160) ∨ (b0 = 237 ∧ 160 ≤ b1) then 0 else 3)
  else if 240 ≤ b0 ∧ b0 < 245 ∧ t1 = true ∧ t2 = true ∧ t3 = true then (if (b0 = 240 ∧ b1 < 144) ∨ (b0 = 244 ∧ 144 ≤ b1) then 0 else 4)
  else 0
theorem lenB_F (s : ByteArray) (i : Nat) : lenB s i = lenF (byt s i) (byt s (i + 1)) (tailB s (i + 1)) (tailB s (i + 2)) (tailB s (i + 3)) := rfl
theorem lenF_congr {b0 b1 c1 : Nat} {t1 t2 t3 : Bool} (h1 : t1 = true → b1 = c1) : lenF b0 b1 t1 t2 t3 = lenF b0 c1 t1 t2 t3 := by
  unfold lenF
  cases t1
  · simp
  · obtain rfl := h1 rfl
    rfl

/-- Two texts that agree from a place of each on for four bytes, as far as the characters there go. -/
theorem char_congr {s t : ByteArray} {i j : Nat} (h0 : byt s i = byt t j) (ht : ∀ k, 1 ≤ k → k ≤ 3 → tailB s (i + k) = tailB t (j + k)) (hb : ∀ k, 1 ≤ k → k ≤ 3 → tailB t (j + k) = true → byt s (i + k) = byt t (j + k)) :
    Utf8.decode s i = Utf8.decode t j ∧ lenB s i = lenB t j := by
  rw [decode_F, decode_F, lenB_F, lenB_F, h0, ht 1 (by omega) (by omega), ht 2 (by omega) (by omega), ht 3 (by omega) (by omega)]
  exact ⟨decF_congr (hb 1 (by omega) (by omega)) (hb 2 (by omega) (by omega)) (hb 3 (by omega) (by omega)), lenF_congr (hb 1 (by omega) (by omega))⟩

/-- The rest of a text from a place on. -/
theorem byt_rest (s : ByteArray) (p k : Nat) : byt (s.extract p s.size) k = byt s (p + k) := by
  rw [byt_list, byt_list, Lib.extract_to_end, List.getElem?_drop]
theorem size_rest (s : ByteArray) (p : Nat) : (s.extract p s.size).size = s.size - p := by
  rw [size_list, Lib.extract_to_end, List.length_drop, ← size_list]
theorem tail_rest (s : ByteArray) (p k : Nat) : tailB (s.extract p s.size) k = tailB s (p + k) := by
  unfold tailB
  rw [byt_rest, size_rest]
  have : (k < s.size - p) ↔ (p + k < s.size) := by omega
  simp [this]
theorem char_rest (s : ByteArray) (p k : Nat) : Utf8.decode (s.extract p s.size) k = Utf8.decode s (p + k) ∧ lenB (s.extract p s.size) k = lenB s (p + k) :=
  char_congr (byt_rest s p k) (fun j _ _ => by rw [tail_rest, Nat.add_assoc]) (fun j _ _ _ => by rw [byt_rest, Nat.add_assoc])
end Go.Proofs.YtnbadnmmolagfaaDoor
