/- A literal in other quotes, in plain Lean. -/
import Derived.Test.YtcjnlbelgmcpeaaDoorStrPlain2
namespace Go.Proofs.YtcjnlbelgmcpeaaDoor
open Go
set_option linter.unusedSimpArgs false
set_option linter.unusedVariables false

/-- A part's last byte; is it a quote, escaped or not? -/
def chQ (s : ByteArray) (p : Pt) : Nat := byt s (p.to - 1)
def isQ (s : ByteArray) (p : Pt) : Bool := (chQ s p == 39 || chQ s p == 34) && decide (p.to ≤ p.fr + 2) && (p.esc || p.to == p.fr + 1)
def cntQ (s : ByteArray) (c : Nat) (ps : List Pt) : Nat := (ps.filter fun p => isQ s p && chQ s p == c).length
def pickQ (s : ByteArray) (ps : List Pt) (single : Bool) : Nat :=
  if single then (if cntQ s 34 ps < cntQ s 39 ps then 34 else 39) else (if cntQ s 39 ps < cntQ s 34 ps then 39 else 34)
/-- Bytes of a text from a place to a place. -/
def cutB (s : ByteArray) (a b : Nat) : List UInt8 := (s.data.toList.drop a).take (b - a)
def pieceQ (s : ByteArray) (Q : Nat) (p : Pt) : List UInt8 :=
  if isQ s p = true then (if chQ s p = Q then [92, Q.toUInt8] else [(chQ s p).toUInt8]) else cutB s p.fr p.to
def bodyQ (s : ByteArray) (Q : Nat) (ps : List Pt) : List UInt8 := ps.flatMap (pieceQ s Q)
def quoteB (s : ByteArray) (ps : List Pt) (single : Bool) : List UInt8 := Nat.toUInt8 (pickQ s ps single) :: (bodyQ s (pickQ s ps single) ps ++ [Nat.toUInt8 (pickQ s ps single)])

theorem cntQ_snoc (s : ByteArray) (c : Nat) (ps : List Pt) (p : Pt) : cntQ s c (ps ++ [p]) = cntQ s c ps + if isQ s p && chQ s p == c then 1 else 0 := by
  unfold cntQ
  rw [List.filter_append, List.length_append]
  congr 1
  by_cases h : (isQ s p && chQ s p == c) = true
  · simp [List.filter_cons, h]
  · simp only [Bool.not_eq_true] at h
    simp [List.filter_cons, h]
theorem cntQ_len (s : ByteArray) (c : Nat) (ps : List Pt) : cntQ s c ps ≤ ps.length := List.length_filter_le _ _
theorem bodyQ_snoc (s : ByteArray) (Q : Nat) (ps : List Pt) (p : Pt) : bodyQ s Q (ps ++ [p]) = bodyQ s Q ps ++ pieceQ s Q p := by simp [bodyQ]
theorem pieceQ_len (s : ByteArray) (Q : Nat) (p : Pt) (h : p.to ≤ s.size) : (pieceQ s Q p).length ≤ s.size + 2 := by
  unfold pieceQ cutB
  repeat' split
  · simp
  · simp
  · simp; omega
theorem bodyQ_len (s : ByteArray) (Q : Nat) (b : Nat) (hb : s.size + 2 ≤ b) (ps : List Pt) (h : ∀ p ∈ ps, PtOk s p) : (bodyQ s Q ps).length ≤ ps.length * b := by
  induction ps with
  | nil => simp [bodyQ]
  | cons p ps ih =>
    have h1 := pieceQ_len s Q p (h p (by simp)).hi
    have h2 := ih (fun q hq => h q (by simp [hq]))
    simp only [bodyQ, List.flatMap_cons, List.length_append, List.length_cons] at h2 ⊢
    rw [Nat.succ_mul]
    omega
theorem pickQ_two (s : ByteArray) (ps : List Pt) (single : Bool) : pickQ s ps single = 39 ∨ pickQ s ps single = 34 := by
  unfold pickQ
  repeat' split
  all_goals simp
theorem cutB_eq (s : ByteArray) (a b : Nat) (hb : b ≤ s.size) : (s.extract a b).data.toList = cutB s a b := by
  unfold cutB
  rw [ByteArray.data_extract, Array.toList_extract, List.extract_eq_take_drop]
theorem cutB_len (s : ByteArray) (a b : Nat) (hb : b ≤ s.size) : (cutB s a b).length = b - a := by
  unfold cutB
  have := size_list s
  simp
  omega
end Go.Proofs.YtcjnlbelgmcpeaaDoor
