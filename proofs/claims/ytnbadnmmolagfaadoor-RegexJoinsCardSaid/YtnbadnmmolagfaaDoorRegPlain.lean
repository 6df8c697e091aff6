/- Package regex in plain Lean: what its readers make of the bytes that are left. A fault is a number and how many bytes were left. -/
import Derived.Test.YtnbadnmmolagfaaDoorUniPlain
import Derived.Lib.TrimU
import Derived.Lib.IndexMore
import Derived.Lib.TrimByte
import Derived.Lib.Strings
import Derived.Lib.Bytealg
namespace Go.Proofs.YtnbadnmmolagfaaDoor

abbrev Ln := List UInt8
abbrev Flt := Nat × Nat
/-- a fault of form where so much is left. -/
def form (r : Ln) : Flt := (400, r.length)

/-- The character that stands there, and how many bytes it takes; (0, 0): none may. -/
def nextL (r : Ln) : Nat × Nat :=
  if r = [] then (0, 0)
  else if ((Lib.decodeL r).1 == 65533 && (Lib.decodeL r).2 == 1) || endsB (Lib.decodeL r).1 then (0, 0) else Lib.decodeL r
def takeL (r : Ln) : Except Flt (Nat × Ln) := if (nextL r).2 = 0 then .error (form r) else .ok ((nextL r).1, r.drop (nextL r).2)
def hasP (w r : Ln) : Bool := Lib.hasPrefix r w
def wantL (w r : Ln) : Except Flt Ln := if hasP w r then .ok (r.drop w.length) else .error (form r)
def peekL (r : Ln) : Nat := (r.getD 0 0).toNat
def digitB (c : Nat) : Bool := decide (48 ≤ c) && decide (c ≤ 57)
def dig8 (c : UInt8) : Bool := digitB c.toNat
def digitsL (r : Ln) : Except Flt (Ln × Ln) := if r.takeWhile dig8 = [] then .error (form r) else .ok (Lib.trimLeftB (r.takeWhile dig8) 48, r.dropWhile dig8)
def lssL : Ln → Ln → Bool
  | _, [] => false
  | [], _ :: _ => true
  | a :: x, b :: y => decide (a < b) || (a == b && lssL x y)
def belowL (a b : Ln) : Bool := decide (a.length < b.length) || (a.length == b.length && lssL a b)

/-- An optional text. -/
def skipL (w r : Ln) : Ln := if hasP w r then r.drop w.length else r
def bracesL (r r1 : Ln) : Except Flt Ln := do
  let (least, r2) ← digitsL r1
  if hasP [44] r2 then
    if digitB (peekL (r2.drop 1)) then
      let (most, r4) ← digitsL (r2.drop 1)
      let r5 ← wantL [125] r4
      if belowL most least then .error (403, r.length) else .ok (skipL [63] r5)
    else
      let r5 ← wantL [125] (r2.drop 1)
      .ok (skipL [63] r5)
  else
    let r5 ← wantL [125] r2
    .ok (skipL [63] r5)
def quantL (r : Ln) : Except Flt Ln :=
  if hasP [42] r || hasP [43] r || hasP [63] r then .ok (skipL [63] (r.drop 1))
  else if hasP [123] r then bracesL r (r.drop 1)
  else .ok r

/-- What is left behind the letters of a name. -/
def nameR : Nat → Bool → Ln → Ln
  | 0, _, r => r
  | f + 1, first, r => if (nextL r).2 = 0 || !partB (nextL r).1 || (first && !startB (nextL r).1) then r else nameR f false (r.drop (nextL r).2)
def nameL (r : Ln) : Except Flt (Ln × Ln) :=
  let r1 := nameR r.length true r
  if r1.length = r.length then .error (form r) else do
    let r2 ← wantL [62] r1
    .ok (r.take (r.length - r1.length), r2)

/-- among: is a text one of a row's words? -/
def amongL (w of : Ln) : Bool := !w.isEmpty && !Lib.contains w [32] && Lib.contains of ([32] ++ w ++ [32])
def catsL : Ln := [32, 76, 32, 76, 117, 32, 76, 108, 32, 76, 116, 32, 76, 109, 32, 76, 111, 32, 77, 32, 77, 110, 32, 78, 32, 78, 100, 32, 80, 32, 83, 32, 90, 32]
def loneL : Ln := [65, 83, 67, 73, 73, 32, 65, 110, 121, 32, 65, 108, 112, 104, 97, 98, 101, 116, 105, 99, 32, 73, 68, 95, 83, 116, 97, 114, 116, 32, 73, 68, 95, 67, 111, 110, 116, 105, 110, 117, 101, 32, 87, 104, 105, 116, 101, 95, 83, 112, 97, 99, 101, 32, 85, 112, 112, 101, 114, 99, 97, 115, 101, 32, 76, 111, 119, 101, 114, 99, 97, 115, 101, 32, 69, 109, 111, 106, 105, 32]
def gcL : Ln := [32, 71, 101, 110, 101, 114, 97, 108, 95, 67, 97, 116, 101, 103, 111, 114, 121, 32, 103, 99, 32]
def scL : Ln := [32, 83, 99, 114, 105, 112, 116, 32, 115, 99, 32, 83, 99, 114, 105, 112, 116, 95, 69, 120, 116, 101, 110, 115, 105, 111, 110, 115, 32, 115, 99, 120, 32]
def scriptsL : Ln := [32, 76, 97, 116, 105, 110, 32, 71, 114, 101, 101, 107, 32, 67, 121, 114, 105, 108, 108, 105, 99, 32, 72, 97, 110, 32, 72, 105, 114, 97, 103, 97, 110, 97, 32, 75, 97, 116, 97, 107, 97, 110, 97, 32, 65, 114, 97, 98, 105, 99, 32, 72, 101, 98, 114, 101, 119, 32]
def propertyL (s : Ln) : Bool :=
  let c := Lib.cut s [61]
  if c.2.2 = false then amongL s (catsL ++ loneL)
  else if amongL c.1 gcL then amongL c.2.1 catsL
  else amongL c.1 scL && amongL c.2.1 scriptsL

/-- What is left from the brace that ends a property on. -/
def propR : Nat → Ln → Except Flt Ln
  | 0, r => .error (form r)
  | f + 1, r => if peekL r = 125 then .ok r else
    match takeL r with
    | .error e => .error e
    | .ok (_, r1) => propR f r1
def setChars : Ln := [100, 68, 115, 83, 119, 87]
/-- A set, behind the backslash; none: there is none. -/
def setL (u : Bool) (r : Ln) : Except Flt (Option Ln) :=
  if peekL r ≠ 0 && setChars.contains (r.getD 0 0) then .ok (some (r.drop 1))
  else if u && (peekL r = 112 || peekL r = 80) then do
    let r2 ← wantL [123] (r.drop 1)
    let r3 ← propR (r2.length + 1) r2
    if propertyL (r2.take (r2.length - r3.length)) then .ok (some (r3.drop 1)) else .error (404, r2.length)
  else .ok none

def hexL (c : Nat) : Option Nat :=
  if digitB c then some (c - 48)
  else if 65 ≤ c ∧ c ≤ 70 then some (c - 55)
  else if 97 ≤ c ∧ c ≤ 102 then some (c - 87)
  else none
def hexesL : Nat → Nat → Ln → Except Flt (Nat × Ln)
  | 0, x, r => .ok (x, r)
  | k + 1, x, r =>
    match hexL (peekL r) with
    | none => .error (form r)
    | some h => hexesL k (16 * x + h) (r.drop 1)
def bracedR : Nat → Nat → Ln → Nat × Ln
  | 0, x, r => (x, r)
  | f + 1, x, r =>
    match hexL (peekL r) with
    | none => (x, r)
    | some h => bracedR f (min (16 * x + h) 1114112) (r.drop 1)
def bracedL (r : Ln) : Except Flt (Nat × Ln) := do
  let (x, r1) ← hexesL 1 0 r
  let y := bracedR r1.length x r1
  if peekL y.2 ≠ 125 || decide (1114111 < y.1) then .error (form y.2) else .ok (y.1, y.2.drop 1)

def letterB (c : Nat) : Bool := decide (65 ≤ c) && decide (c ≤ 90) || decide (97 ≤ c) && decide (c ≤ 122)
def syntaxChars : List Nat := [94, 36, 92, 46, 42, 43, 63, 40, 41, 91, 93, 123, 125, 124, 47]
def simpleL (c : Nat) : Option Nat :=
  if c = 102 then some 12 else if c = 110 then some 10 else if c = 114 then some 13 else if c = 116 then some 9 else if c = 118 then some 11 else none
def idleL (u : Bool) (r : Ln) (c : Nat) (r1 : Ln) : Except Flt (Nat × Ln) :=
  if u && (decide (128 ≤ c) || !syntaxChars.contains c) || !u && partB c then .error (form r) else .ok (c, r1)
/-- An escape, behind the backslash: the character that it is. -/
def escapeL (u : Bool) (r : Ln) : Except Flt (Nat × Ln) := do
  let (c, r1) ← takeL r
  if c = 99 then
    if letterB (peekL r1) then .ok (peekL r1 % 32, r1.drop 1) else .error (form r1)
  else if c = 48 then
    if digitB (peekL r1) then .error (form r1) else .ok (0, r1)
  else if c = 120 then hexesL 2 0 r1
  else if c = 117 then
    if u && hasP [123] r1 then bracedL (r1.drop 1) else hexesL 4 0 r1
  else
    match simpleL c with
    | some x => .ok (x, r1)
    | none => idleL u r c r1

/-- A point of a class: how much was left there, its number, is it a character? -/
structure Pt where
  rem : Nat
  val : Nat
  single : Bool
  deriving DecidableEq
def pointL (u : Bool) (r : Ln) : Except Flt (Pt × Ln) :=
  if hasP [92] r then
    if hasP [98] (r.drop 1) then .ok (⟨r.length, 8, true⟩, r.drop 2)
    else if u && hasP [45] (r.drop 1) then .ok (⟨r.length, 45, true⟩, r.drop 2)
    else do
      match ← setL u (r.drop 1) with
      | some r1 => .ok (⟨r.length, 0, false⟩, r1)
      | none =>
        let (c, r1) ← escapeL u (r.drop 1)
        .ok (⟨r.length, c, true⟩, r1)
  else do
    let (c, r1) ← takeL r
    .ok (⟨r.length, c, true⟩, r1)
/-- The next point, with what is kept of a half. -/
def ptNext (u : Bool) (h : Option Pt) (r : Ln) : Except Flt (Pt × Option Pt × Ln) :=
  match h with
  | some p => .ok (p, none, r)
  | none => do
    let (p, r1) ← pointL u r
    if p.single && decide (65535 < p.val) && !u then .ok (⟨p.rem, 55296 + (p.val - 65536) / 1024, true⟩, some ⟨p.rem, 56320 + (p.val - 65536) % 1024, true⟩, r1)
    else .ok (p, none, r1)
def classR (u : Bool) : Nat → Option Pt → Ln → Except Flt Ln
  | 0, _, r => .error (form r)
  | f + 1, h, r =>
    if h.isNone && peekL r = 93 then .ok (r.drop 1)
    else
      match ptNext u h r with
      | .error e => .error e
      | .ok (a, h1, r1) =>
        if h1.isSome || peekL r1 ≠ 45 || hasP [45, 93] r1 then classR u f h1 r1
        else
          match ptNext u none (r1.drop 1) with
          | .error e => .error e
          | .ok (b, h2, r2) => if !a.single || !b.single || decide (b.val < a.val) then .error (403, a.rem) else classR u f h2 r2
def classL (u : Bool) (r : Ln) : Except Flt Ln := classR u (2 * r.length + 2) none (skipL [94] r)

/-- What a reader has come to. Names: with their numbers; numbers, named: with how much was left where they were asked. -/
structure St where
  r : Ln
  g : Nat
  nm : List (Ln × Nat)
  nu : List (Nat × Ln)
  nd : List (Nat × Ln)
def groupS (pat : St → Except Flt St) (s : St) : Except Flt St := do
  let s1 ← pat s
  let r ← wantL [41] s1.r
  .ok { s1 with r := r }
def escapedS (u : Bool) (s : St) : Except Flt St :=
  let r1 := s.r.drop 1
  if 49 ≤ peekL r1 ∧ peekL r1 ≤ 57 then do
    let (t, r2) ← digitsL r1
    .ok { s with r := r2, nu := s.nu ++ [(s.r.length, t)] }
  else if hasP [107] r1 then do
    let r2 ← wantL [60] (r1.drop 1)
    let (t, r3) ← nameL r2
    .ok { s with r := r3, nd := s.nd ++ [(s.r.length, t)] }
  else do
    match ← setL u r1 with
    | some r2 => .ok { s with r := r2 }
    | none =>
      let (_, r2) ← escapeL u r1
      .ok { s with r := r2 }
def stopChars : Ln := [42, 43, 63, 41, 93, 123, 125, 124]
def atomS (u : Bool) (pat : St → Except Flt St) (s : St) : Except Flt St :=
  if hasP [40, 63, 58] s.r then groupS pat { s with r := s.r.drop 3 }
  else if hasP [40, 63, 60] s.r then do
    let (t, r1) ← nameL (s.r.drop 3)
    if (s.nm.find? (fun x => x.1 == t)).isSome then .error (404, (s.r.drop 3).length)
    else groupS pat { s with r := r1, g := s.g + 1, nm := s.nm ++ [(t, s.g + 1)] }
  else if hasP [40] s.r then groupS pat { s with r := s.r.drop 1, g := s.g + 1 }
  else if hasP [91] s.r then do
    let r1 ← classL u (s.r.drop 1)
    .ok { s with r := r1 }
  else if peekL s.r = 92 then escapedS u s
  else if peekL s.r ≠ 0 && stopChars.contains (s.r.getD 0 0) then .error (form s.r)
  else do
    let (_, r1) ← takeL s.r
    .ok { s with r := r1 }
def termS (u : Bool) (pat : St → Except Flt St) (s : St) : Except Flt St :=
  if hasP [94] s.r then .ok { s with r := s.r.drop 1 }
  else if hasP [36] s.r then .ok { s with r := s.r.drop 1 }
  else if hasP [92, 98] s.r then .ok { s with r := s.r.drop 2 }
  else if hasP [92, 66] s.r then .ok { s with r := s.r.drop 2 }
  else if hasP [40, 63, 61] s.r then groupS pat { s with r := s.r.drop 3 }
  else if hasP [40, 63, 33] s.r then groupS pat { s with r := s.r.drop 3 }
  else if hasP [40, 63, 60, 61] s.r then groupS pat { s with r := s.r.drop 4 }
  else if hasP [40, 63, 60, 33] s.r then groupS pat { s with r := s.r.drop 4 }
  else do
    let s1 ← atomS u pat s
    let r ← quantL s1.r
    .ok { s1 with r := r }
/-- Alternatives, up to a ) or the end. -/
def patF (u : Bool) : Nat → St → Except Flt St
  | 0, s => .error (form s.r)
  | f + 1, s =>
    if s.r = [] then .ok s
    else if peekL s.r = 124 then patF u f { s with r := s.r.drop 1 }
    else if peekL s.r = 41 then .ok s
    else
      match termS u (patF u f) s with
      | .error e => .error e
      | .ok s1 => patF u f s1
def digitsOf : Nat → Nat → Ln → Ln
  | 0, _, acc => acc
  | f + 1, n, acc => if n = 0 then acc else digitsOf f (n / 10) (UInt8.ofNat (48 + n % 10) :: acc)
/-- What is asked of groups, in the order of the places. -/
def settleF (g : Ln) (nm : List (Ln × Nat)) : Nat → List (Nat × Ln) → List (Nat × Ln) → Except Flt Unit
  | 0, _, _ => .ok ()
  | _ + 1, [], [] => .ok ()
  | f + 1, nu, nd =>
    if nd = [] ∨ nu ≠ [] ∧ (nd.headD (0, [])).1 < (nu.headD (0, [])).1 then
      if belowL g (nu.headD (0, [])).2 then .error (402, (nu.headD (0, [])).1) else settleF g nm f nu.tail nd
    else if (nm.find? (fun x => x.1 == (nd.headD (0, [])).2)).isNone then .error (404, (nd.headD (0, [])).1)
    else settleF g nm f nu nd.tail
/-- A body's fault, if it has one. -/
def bodyL (u : Bool) (l : Ln) : Except Flt Unit := do
  let s ← patF u (l.length + 1) ⟨l, 0, [], [], []⟩
  if s.r ≠ [] then .error (form s.r)
  else settleF (digitsOf 20 s.g []) s.nm (s.nu.length + s.nd.length) s.nu s.nd
def flagOf (c : UInt8) : Option Nat := ([100, 103, 105, 109, 115, 117, 121] : Ln).findIdx? (· == c)
def flagsL : Ln → List UInt8 → Option (List UInt8)
  | [], seen => some seen
  | c :: rest, seen => if (flagOf c).isNone || seen.contains c then none else flagsL rest (c :: seen)
/-- What Check tells: the place, the error. -/
def checkL (l fl : Ln) : Nat × Nat :=
  match flagsL fl [] with
  | none => (0, 401)
  | some set =>
    if 4096 < l.length then (0, 405)
    else if l = [] then (0, 400)
    else
      match bodyL (set.contains 117) l with
      | .error (c, m) => (l.length - m, c)
      | .ok _ => (0, 0)
end Go.Proofs.YtnbadnmmolagfaaDoor
