/- Package str in plain Lean: hex digits, escapes, a literal's parts: what the program's and the reference's functions are shown to compute. -/
import Derived.Test.YtcjnlbelgmcpeaaDoorUtfPlain
import Derived.Test.YtcjnlbelgmcpeaaDoorUniPlain
namespace Go.Proofs.YtcjnlbelgmcpeaaDoor
open Go

/-- A hex digit's value; -1: it is none. -/
def hexN (c : Nat) : Int := if 48 ≤ c ∧ c ≤ 57 then (c : Int) - 48 else if 97 ≤ c ∧ c ≤ 102 then (c : Int) - 87 else if 65 ≤ c ∧ c ≤ 70 then (c : Int) - 55 else -1
theorem hexN_bd (c : Nat) : -1 ≤ hexN c ∧ hexN c ≤ 15 := by
  unfold hexN
  split
  · omega
  · split
    · omega
    · split <;> omega
/-- The digit at a place. -/
def hexAt (s : ByteArray) (i : Nat) : Int := if i < s.size then hexN (byt s i) else -1
theorem hexAt_bd (s : ByteArray) (i : Nat) : -1 ≤ hexAt s i ∧ hexAt s i ≤ 15 := by
  unfold hexAt
  split
  · exact hexN_bd _
  · omega
theorem hexAt_in {s : ByteArray} {i : Nat} (h : 0 ≤ hexAt s i) : i < s.size := by
  unfold hexAt at h
  split at h
  · assumption
  · omega

/-- So many digits at a place: the number (none: there are fewer) and the place behind, or of the first that is none. -/
def digF (s : ByteArray) : Nat → Nat → Nat → Option Nat × Nat
  | 0, at', x => (some x, at')
  | m + 1, at', x => if 0 ≤ hexAt s at' then digF s m (at' + 1) (16 * x + (hexAt s at').toNat) else (Option.none, at')
theorem digF_step (s : ByteArray) (f a x : Nat) (h : 0 ≤ hexAt s a) : digF s (f + 1) a x = digF s f (a + 1) (16 * x + (hexAt s a).toNat) := by
  show (if 0 ≤ hexAt s a then _ else _) = _
  rw [if_pos h]
theorem digF_stop (s : ByteArray) (f a x : Nat) (h : ¬ 0 ≤ hexAt s a) : digF s (f + 1) a x = (Option.none, a) := by
  show (if 0 ≤ hexAt s a then _ else _) = _
  rw [if_neg h]
/-- Digits up to a closing brace; the number is held at 1114112. -/
def braF (s : ByteArray) (start : Nat) : Nat → Nat → Nat → Option Nat × Nat
  | 0, at', _ => (Option.none, at')
  | f + 1, at', x => if 0 ≤ hexAt s at' then braF s start f (at' + 1) (min (16 * x + (hexAt s at').toNat) 1114112)
      else if at' < s.size ∧ byt s at' = 125 ∧ at' ≠ start ∧ x ≤ 1114111 then (some x, at' + 1) else (Option.none, at')
def braRest (s : ByteArray) (start at' x : Nat) : Option Nat × Nat := braF s start (s.size - at' + 1) at' x
theorem braRest_step (s : ByteArray) (start at' x : Nat) (h : 0 ≤ hexAt s at') : braRest s start at' x = braRest s start (at' + 1) (min (16 * x + (hexAt s at').toNat) 1114112) := by
  have hi := hexAt_in h
  unfold braRest
  obtain ⟨f, hf⟩ : ∃ f, s.size - at' = f + 1 := ⟨s.size - at' - 1, by omega⟩
  have e : s.size - (at' + 1) + 1 = f + 1 := by omega
  rw [e, hf]
  conv => lhs; unfold braF
  rw [if_pos h]
theorem braRest_end (s : ByteArray) (start at' x : Nat) (h : ¬ 0 ≤ hexAt s at') : braRest s start at' x = if at' < s.size ∧ byt s at' = 125 ∧ at' ≠ start ∧ x ≤ 1114111 then (some x, at' + 1) else (Option.none, at') := by
  unfold braRest
  conv => lhs; unfold braF
  rw [if_neg h]

/-- What a letter behind a backslash stands for; -1: itself. -/
def simN (r : Int) : Int := if r = 98 then 8 else if r = 102 then 12 else if r = 110 then 10 else if r = 114 then 13 else if r = 116 then 9 else if r = 118 then 11 else -1

/-- What was read: the number (-1: none), the place behind; fine: false: the place of the fault. -/
structure Got where
  val : Int
  to : Nat
  fine : Bool
def gotOf (r : Option Nat × Nat) : Got := match r.1 with | some x => ⟨x, r.2, true⟩ | Option.none => ⟨0, r.2, false⟩
def isDig (s : ByteArray) (i : Nat) : Bool := decide (i < s.size) && decide (48 ≤ byt s i) && decide (byt s i ≤ 57)
def isByte (s : ByteArray) (i c : Nat) : Bool := decide (i < s.size) && byt s i == c

/-- The escape whose backslash stands at a place. -/
def escB (s : ByteArray) (at0 : Nat) : Got :=
  let i := at0 + 1
  let d := Utf8.decode s i
  if ¬ i < s.size ∨ lenB s i = 0 then ⟨0, i, false⟩
  else if 49 ≤ d.1 ∧ d.1 ≤ 57 then ⟨0, i, false⟩
  else if d.1 = 48 then (if isDig s (i + 1) = true then ⟨0, i + 1, false⟩ else ⟨0, i + 1, true⟩)
  else if d.1 = 120 then gotOf (digF s 2 (i + 1) 0)
  else if d.1 = 117 ∧ isByte s (i + 1) 123 = true then gotOf (braRest s (i + 2) (i + 2) 0)
  else if d.1 = 117 then gotOf (digF s 4 (i + 1) 0)
  else if d.1 = 13 ∧ isByte s (i + 1) 10 = true then ⟨-1, i + 2, true⟩
  else if d.1 = 10 ∨ d.1 = 13 ∨ d.1 = 8232 ∨ d.1 = 8233 then ⟨-1, i + d.2, true⟩
  else if 0 ≤ simN d.1 then ⟨simN d.1, i + d.2, true⟩
  else ⟨d.1, i + d.2, true⟩

/-- A part of a literal. -/
structure Pt where
  fr : Nat
  to : Nat
  esc : Bool
  val : Int
deriving DecidableEq
/-- The part at a place that is no closing quote. -/
def pieceB (s : ByteArray) (i : Nat) : Got :=
  let d := Utf8.decode s i
  if lenB s i = 0 ∨ d.1 = 10 ∨ d.1 = 13 then ⟨0, i, false⟩
  else if d.1 = 92 then escB s i
  else ⟨d.1, i + d.2, true⟩
/-- Parts from a place to the closing quote; error: the fault's place. -/
def parF (s : ByteArray) : Nat → Nat → Except Nat (List Pt)
  | 0, _ => .error s.size
  | f + 1, i => if i < s.size then
      if byt s i = byt s 0 then (if i + 1 = s.size then .ok [] else .error (i + 1))
      else if (pieceB s i).fine = true then (parF s f (pieceB s i).to).map (⟨i, (pieceB s i).to, byt s i == 92, (pieceB s i).val⟩ :: ·)
      else .error (pieceB s i).to
    else .error s.size

theorem digF_to (s : ByteArray) : ∀ (m at' x : Nat), at' ≤ (digF s m at' x).2 ∧ (digF s m at' x).2 ≤ at' + m ∧ ((digF s m at' x).1.isSome → (digF s m at' x).2 = at' + m) ∧ (at' ≤ s.size → (digF s m at' x).2 ≤ s.size)
  | 0, at', x => by simp [digF]
  | m + 1, at', x => by
    unfold digF
    split
    · rename_i h
      have hi := hexAt_in h
      have ih := digF_to s m (at' + 1) (16 * x + (hexAt s at').toNat)
      refine ⟨by omega, by omega, fun h => ?_, fun _ => ih.2.2.2 (by omega)⟩
      have := ih.2.2.1 h
      omega
    · simp
theorem braF_to (s : ByteArray) (start : Nat) : ∀ (f at' x : Nat), at' ≤ (braF s start f at' x).2 ∧ ((braF s start f at' x).1.isSome → at' < (braF s start f at' x).2) ∧ (at' ≤ s.size → (braF s start f at' x).2 ≤ s.size)
  | 0, at', x => by simp [braF]
  | f + 1, at', x => by
    unfold braF
    split
    · rename_i h
      have hi := hexAt_in h
      have ih := braF_to s start f (at' + 1) (min (16 * x + (hexAt s at').toNat) 1114112)
      refine ⟨by omega, fun h => ?_, fun _ => ih.2.2 (by omega)⟩
      have := ih.2.1 h
      omega
    · split
      · rename_i h
        refine ⟨by simp, fun _ => by simp, fun _ => by simp; omega⟩
      · simp
theorem got_to (r : Option Nat × Nat) : (gotOf r).to = r.2 ∧ ((gotOf r).fine = true → r.1.isSome = true) := by
  unfold gotOf
  split
  · rename_i h; simp [h]
  · simp

/-- An escape that is fine ends behind two bytes at least, within the text. -/
theorem escB_to (s : ByteArray) (i : Nat) (hi : i < s.size) : i < (escB s i).to ∧ (escB s i).to ≤ s.size := by
  have hp := decode_pos s (i + 1)
  unfold escB
  simp only
  split
  · simp; omega
  · rename_i h0
    have hlt : i + 1 < s.size := by
      by_cases h : i + 1 < s.size
      · exact h
      · exact absurd (Or.inl h) h0
    have hin := decode_in s (i + 1) hlt
    split
    · simp; omega
    · split
      · split <;> (simp; omega)
      · split
        · rw [(got_to _).1]
          have := digF_to s 2 (i + 1 + 1) 0
          refine ⟨by omega, this.2.2.2 (by omega)⟩
        · split
          · rename_i hb
            rw [(got_to _).1]
            have hb2 : i + 1 + 1 < s.size := by
              have := hb.2
              simp [isByte] at this
              exact this.1
            have := braF_to s (i + 1 + 2) (s.size - (i + 1 + 2) + 1) (i + 1 + 2) 0
            unfold braRest
            refine ⟨by omega, this.2.2 (by omega)⟩
          · split
            · rw [(got_to _).1]
              have := digF_to s 4 (i + 1 + 1) 0
              refine ⟨by omega, this.2.2.2 (by omega)⟩
            · split
              · rename_i hb
                have hb2 : i + 1 + 1 < s.size := by
                  have := hb.2
                  simp [isByte] at this
                  exact this.1
                simp; omega
              · split
                · simp; omega
                · split <;> (simp; omega)
theorem pieceB_to (s : ByteArray) (i : Nat) (hi : i < s.size) : i ≤ (pieceB s i).to ∧ (pieceB s i).to ≤ s.size ∧ ((pieceB s i).fine = true → i < (pieceB s i).to) := by
  have hp := decode_pos s i
  have hin := decode_in s i hi
  unfold pieceB
  simp only
  split
  · simp; omega
  · split
    · have := escB_to s i hi
      refine ⟨by omega, by omega, fun _ => by omega⟩
    · simp; omega
theorem parF_fuel (s : ByteArray) : ∀ (f g i : Nat), s.size ≤ i + f → s.size ≤ i + g → 0 < f → 0 < g → parF s f i = parF s g i
  | 0, _, _, _, _, h, _ => by omega
  | _, 0, _, _, _, _, h => by omega
  | f + 1, g + 1, i, hf, hg, _, _ => by
    unfold parF
    by_cases hi : i < s.size
    · rw [if_pos hi, if_pos hi]
      by_cases hq : byt s i = byt s 0
      · rw [if_pos hq, if_pos hq]
      · rw [if_neg hq, if_neg hq]
        by_cases hp : (pieceB s i).fine = true
        · rw [if_pos hp, if_pos hp]
          have ht := (pieceB_to s i hi).2.2 hp
          by_cases hend : (pieceB s i).to < s.size
          · rw [parF_fuel s f g _ (by omega) (by omega) (by omega) (by omega)]
          · have e : ∀ k, parF s k (pieceB s i).to = .error s.size := by
              intro k
              cases k with
              | zero => rfl
              | succ k => unfold parF; rw [if_neg hend]
            rw [e, e]
        · rw [if_neg hp, if_neg hp]
    · rw [if_neg hi, if_neg hi]
def parRest (s : ByteArray) (i : Nat) : Except Nat (List Pt) := parF s (s.size - i + 1) i
/-- The parts of a whole literal. -/
def partsB (s : ByteArray) : Except Nat (List Pt) := if s.size = 0 ∨ (byt s 0 ≠ 39 ∧ byt s 0 ≠ 34) then .error 0 else parRest s 1
theorem parRest_out (s : ByteArray) (i : Nat) (h : ¬ i < s.size) : parRest s i = .error s.size := by
  unfold parRest
  unfold parF
  rw [if_neg h]
theorem parRest_quote (s : ByteArray) (i : Nat) (h : i < s.size) (hq : byt s i = byt s 0) : parRest s i = if i + 1 = s.size then .ok [] else .error (i + 1) := by
  unfold parRest
  unfold parF
  rw [if_pos h, if_pos hq]
theorem parRest_bad (s : ByteArray) (i : Nat) (h : i < s.size) (hq : byt s i ≠ byt s 0) (hf : (pieceB s i).fine = false) : parRest s i = .error (pieceB s i).to := by
  unfold parRest
  unfold parF
  rw [if_pos h, if_neg hq, if_neg (by simp [hf])]
theorem parRest_step (s : ByteArray) (i : Nat) (h : i < s.size) (hq : byt s i ≠ byt s 0) (hf : (pieceB s i).fine = true) :
    parRest s i = (parRest s (pieceB s i).to).map (⟨i, (pieceB s i).to, byt s i == 92, (pieceB s i).val⟩ :: ·) := by
  have ht := (pieceB_to s i h).2.2 hf
  unfold parRest
  conv => lhs; unfold parF
  rw [if_pos h, if_neg hq, if_pos hf]
  congr 1
  by_cases hend : (pieceB s i).to < s.size
  · exact parF_fuel s _ _ _ (by omega) (by omega) (by omega) (by omega)
  · have e : ∀ k, parF s k (pieceB s i).to = .error s.size := by
      intro k
      cases k with
      | zero => rfl
      | succ k => unfold parF; rw [if_neg hend]
    rw [e, e]

/-- What the calls answer. -/
def checkPos (s : ByteArray) : Int := match partsB s with | .ok _ => 0 | .error p => (p : Int)
def checkCode (s : ByteArray) : Int := match partsB s with | .ok _ => 0 | .error _ => 300
def unitsOf (v : Int) : List Int := if v < 0 then [] else if 65535 < v then [55296 + (v - 65536) / 1024, 56320 + (v - 65536) % 1024] else [v]
end Go.Proofs.YtcjnlbelgmcpeaaDoor
