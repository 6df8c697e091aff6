/- The walk of package str's escape. -/
import Derived.Test.YtcjnlbelgmcpeaaDoorStrSimple
namespace Go.Proofs.YtcjnlbelgmcpeaaDoor
open Go.RowKit
set_option maxRecDepth 100000
set_option linter.unusedVariables false
set_option linter.unusedSectionVars false

theorem decode_valid (s : ByteArray) (i : Nat) : Utf8.valid ((Utf8.decode s i).1 : Int) = true := by
  rw [decode_eq]
  have hb := byt_lt s i
  have h65 : Utf8.valid (((65533 : Nat)) : Int) = true := by decide
  by_cases c0 : byt s i < 128
  · rw [if_pos c0]
    simp [Utf8.valid]
    omega
  rw [if_neg c0]
  split
  · split
    · simp [Utf8.valid]
      omega
    · exact h65
  · split
    · split
      · rename_i h
        simp only [Bool.and_eq_true] at h
        exact h.2
      · exact h65
    · split
      · split
        · rename_i h
          simp only [Bool.and_eq_true] at h
          exact h.2
        · exact h65
      · exact h65
theorem decode_small (s : ByteArray) (i : Nat) (h : (Utf8.decode s i).1 < 128) : (Utf8.decode s i).2 = 1 ∧ byt s i = (Utf8.decode s i).1 := by
  rw [decode_eq] at h ⊢
  by_cases c0 : byt s i < 128
  · simp [c0]
  · exfalso
    rw [if_neg c0] at h
    split at h
    · split at h
      · simp at h; omega
      · simp at h
    · split at h
      · split at h
        · rename_i h2
          simp at h h2
          omega
        · simp at h
      · split at h
        · split at h
          · rename_i h2
            simp at h h2
            omega
          · simp at h
        · simp at h

/-- The decoder's call at an end of the text. -/
theorem decodeRune_end (s : ByteArray) (p : Nat) (h : s.size ≤ p) (w : World) (hT : Tabs w) :
    Calls Tryd.prog 23 #[.string (s.extract p s.size)] w fun e w' => e = .returned (.tuple #[.int .i32 65533, .int .i64 0]) ∧ Below w.heap.size w w' := by
  have h1 := Tryd.utf8_DecodeRuneInString (s.extract p s.size) w hT.1
  have e : Lib.decodeGo (s.extract p s.size) = (65533, 0) := by
    unfold Lib.decodeGo
    rw [size_rest, if_pos (by omega)]
  rw [e] at h1
  exact h1

/-- The cascade behind the decoder. -/
def escR (s : ByteArray) (i r n : Nat) : Got :=
  if 49 ≤ r ∧ r ≤ 57 then ⟨0, i, false⟩
  else if r = 48 then (if isDig s (i + 1) = true then ⟨0, i + 1, false⟩ else ⟨0, i + 1, true⟩)
  else if r = 120 then gotOf (digF s 2 (i + 1) 0)
  else if r = 117 ∧ isByte s (i + 1) 123 = true then gotOf (braRest s (i + 2) (i + 2) 0)
  else if r = 117 then gotOf (digF s 4 (i + 1) 0)
  else if r = 13 ∧ isByte s (i + 1) 10 = true then ⟨-1, i + 2, true⟩
  else if r = 10 ∨ r = 13 ∨ r = 8232 ∨ r = 8233 then ⟨-1, i + n, true⟩
  else if 0 ≤ simN r then ⟨simN r, i + n, true⟩
  else ⟨r, i + n, true⟩
theorem escB_out (s : ByteArray) (i0 : Nat) (h : ¬ i0 + 1 < s.size ∨ lenB s (i0 + 1) = 0) : escB s i0 = ⟨0, i0 + 1, false⟩ := by
  unfold escB
  simp only
  rw [if_pos h]
theorem escB_in (s : ByteArray) (i0 : Nat) (h : i0 + 1 < s.size) (hl : lenB s (i0 + 1) ≠ 0) : escB s i0 = escR s (i0 + 1) (Utf8.decode s (i0 + 1)).1 (Utf8.decode s (i0 + 1)).2 := by
  have : ¬ (¬ i0 + 1 < s.size ∨ lenB s (i0 + 1) = 0) := by omega
  unfold escB
  simp only
  rw [if_neg this]
  rfl
theorem isByte_at {s : ByteArray} {i c : Nat} (h : i < s.size) (hc : (s[i]'h).toNat = c) : isByte s i c = true := by
  simp [isByte, h, ← byt_eq s i h, hc]
theorem isByte_not {s : ByteArray} {i c : Nat} (h : i < s.size) (hc : (s[i]'h).toNat ≠ c) : isByte s i c = false := by
  simp [isByte, h, ← byt_eq s i h, hc]
theorem isByte_out {s : ByteArray} {i c : Nat} (h : ¬ i < s.size) : isByte s i c = false := by simp [isByte, h]
theorem isDig_at {s : ByteArray} {i : Nat} (h : i < s.size) : isDig s i = (decide (48 ≤ (s[i]'h).toNat) && decide ((s[i]'h).toNat ≤ 57)) := by
  simp [isDig, h, ← byt_eq s i h]
theorem isDig_out {s : ByteArray} {i : Nat} (h : ¬ i < s.size) : isDig s i = false := by simp [isDig, h]

/-- A character's number (kept closed: a walk must not look into it). -/
def OkRune (r : Nat) : Prop := Utf8.valid (r : Int) = true
end Go.Proofs.YtcjnlbelgmcpeaaDoor
