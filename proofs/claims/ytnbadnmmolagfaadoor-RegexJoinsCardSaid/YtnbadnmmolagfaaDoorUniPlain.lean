/- Plain functions on numbers: which rows of numbers hold a number. No program in sight. -/
namespace Go.Proofs.YtnbadnmmolagfaaDoor

/-- Does r lie in one of the ranges, two numbers each? -/
def inB (r : Int) : List Int → Bool
  | a :: b :: t => (decide (a ≤ r) && decide (r ≤ b)) || inB r t
  | _ => false
/-- Is r one of these? -/
def oneB (r : Int) : List Int → Bool
  | a :: t => (r == a) || oneB r t
  | _ => false

theorem inB_drop (r : Int) : ∀ (k : Nat) (xs : List Int), 2 * k + 1 < xs.length →
    inB r (xs.drop (2 * k)) = ((decide (xs.getD (2 * k) 0 ≤ r) && decide (r ≤ xs.getD (2 * k + 1) 0)) || inB r (xs.drop (2 * (k + 1))))
  | 0, a :: b :: t, _ => by simp [inB]
  | 0, [], h => by simp at h
  | 0, [_], h => by simp at h
  | k + 1, [], h => by simp at h
  | k + 1, [_], h => by simp at h
  | k + 1, a :: b :: t, h => by
    have h' : 2 * k + 1 < t.length := by simp at h; omega
    have ih := inB_drop r k t h'
    have e : 2 * (k + 1) = 2 * k + 1 + 1 := by omega
    have e2 : 2 * (k + 1 + 1) = 2 * (k + 1) + 1 + 1 := by omega
    have e3 : 2 * (k + 1) + 1 = 2 * k + 1 + 1 + 1 := by omega
    rw [e3, e2, e]
    have e4 : 2 * (k + 1) = 2 * k + 2 := by omega
    rw [e4] at ih
    simpa using ih
theorem inB_short (r : Int) : ∀ (xs : List Int), xs.length < 2 → inB r xs = false
  | [], _ => rfl
  | [_], _ => rfl
  | _ :: _ :: _, h => by simp at h; omega
theorem oneB_drop (r : Int) : ∀ (k : Nat) (xs : List Int), k < xs.length → oneB r (xs.drop k) = ((r == xs.getD k 0) || oneB r (xs.drop (k + 1)))
  | 0, a :: t, _ => by simp [oneB]
  | _, [], h => by simp at h
  | k + 1, a :: t, h => by simpa using oneB_drop r k t (by simpa using h)

def startRows : List Int := [0xc0, 0xd6, 0xd8, 0xf6, 0xf8, 0x2c1, 0x370, 0x373, 0x388, 0x3ff, 0x400, 0x481, 0x48a, 0x52f, 0x531, 0x556, 0x5d0, 0x5ea, 0x620, 0x64a, 0x904, 0x939, 0xe01, 0xe30, 0x1e00, 0x1fff, 0x3041, 0x3096, 0x30a1, 0x30fa, 0x3400, 0x4dbf, 0x4e00, 0x9fff, 0xac00, 0xd7a3, 0x20000, 0x2a6df]
/-- May a name begin with r: as the program reckons it. -/
def startB (r : Int) : Bool :=
  if r < 128 then oneB r [36, 95] || inB r [65, 90, 97, 122]
  else oneB r [0xaa, 0xb5, 0xba, 0x386] || inB r startRows
def partRows : List Int := [48, 57, 0x300, 0x36f, 0x483, 0x487, 0x660, 0x669, 0x966, 0x96f, 0x200c, 0x200d, 0xff10, 0xff19]
def partB (r : Int) : Bool := startB r || inB r partRows
def endsB (r : Int) : Bool := oneB r [0xa, 0xd, 0x2028, 0x2029]
def blankB (r : Int) : Bool := oneB r [0x9, 0xb, 0xc, 0x20, 0xa0, 0x1680, 0x202f, 0x205f, 0x3000, 0xfeff] || inB r [0x2000, 0x200a]
def wideRows : List Int := [0x1100, 0x115f, 0x2e80, 0x303e, 0x3041, 0x33ff, 0x3400, 0x4dbf, 0x4e00, 0x9fff, 0xa000, 0xa4cf, 0xac00, 0xd7a3, 0xf900, 0xfaff, 0xfe30, 0xfe6f, 0xff00, 0xff60, 0xffe0, 0xffe6, 0x1f300, 0x1f64f, 0x1f900, 0x1f9ff, 0x20000, 0x3fffd]
def wideB (r : Int) : Bool := decide (0x1100 ≤ r) && inB r wideRows

end Go.Proofs.YtnbadnmmolagfaaDoor
