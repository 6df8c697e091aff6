/- Package layout in memory: the machine, its rows, its indentations, the documents it is to do; what stays. -/
import Derived.Test.YthljgiimdcbfpaaDoorMDoc
import Derived.WideMake
import Derived.Deep.AppendLies
import Derived.Deep.RegionLaw
import Derived.Deep.RegionHeld3
import Derived.Deep.CutBlock
import Derived.Laws.MakeOwn
import Derived.Laws.OwnMore
import Derived.OrdersHeld
import Derived.Deep.RegionHeld
import Derived.Test.YthljgiimdcbfpaaDoorShelf
import Derived.WalkKit
import Derived.Shelf.Bytes.SlTrim
namespace Go.Proofs.YthljgiimdcbfpaaDoor
section
open Go.RowKit
set_option maxRecDepth 100000
set_option linter.unusedVariables false
set_option linter.unusedSimpArgs false

def strOf (l : Ln) : ByteArray := ⟨l.toArray⟩
theorem strOf_size (l : Ln) : (strOf l).size = l.length := by simp [strOf, ByteArray.size]
theorem strOf_list (l : Ln) : (strOf l).data.toList = l := by simp [strOf]

/-! ### What stays -/
/-- All that lay in memory stays, but for these blocks. -/
structure Frame (X : Nat → Prop) (w w' : World) : Prop where
  os : w'.os = w.os
  tape : w'.tape = w.tape
  output : w'.output = w.output
  size : w.heap.size ≤ w'.heap.size
  block : ∀ k, k < w.heap.size → ¬ X k → w'.heap[k]? = w.heap[k]?
theorem Frame.refl (X : Nat → Prop) (w : World) : Frame X w w := ⟨rfl, rfl, rfl, Nat.le_refl _, fun _ _ _ => rfl⟩
theorem Frame.trans {X Y : Nat → Prop} {a b c : World} (h : Frame X a b) (k : Frame Y b c) (hY : ∀ q, q < a.heap.size → Y q → X q) : Frame X a c :=
  ⟨k.os.trans h.os, k.tape.trans h.tape, k.output.trans h.output, Nat.le_trans h.size k.size, fun i hi hn => (k.block i (Nat.lt_of_lt_of_le hi h.size) (fun hy => hn (hY i hi hy))).trans (h.block i hi hn)⟩
theorem Frame.mono {X Y : Nat → Prop} {a b : World} (h : Frame X a b) (hY : ∀ q, q < a.heap.size → X q → Y q) : Frame Y a b :=
  ⟨h.os, h.tape, h.output, h.size, fun i hi hn => h.block i hi (fun hx => hn (hY i hi hx))⟩
theorem Frame.of_below {X : Nat → Prop} {a b : World} (h : Below a.heap.size a b) : Frame X a b := ⟨h.os, h.tape, h.output, h.size, fun k hk _ => h.block k hk⟩
theorem Frame.below {X : Nat → Prop} {a b : World} (h : Frame X a b) {B : Nat} (hB : ∀ q, q < B → q < a.heap.size ∧ ¬ X q) : Below B a b := ⟨h.os, h.tape, h.output, h.size, fun k hk => h.block k (hB k hk).1 (hB k hk).2⟩
theorem Frame.drewn {X : Nat → Prop} {a b : World} (h : Frame X a b) (n : Nat) : Frame X a (b.drewN n) := ⟨h.os, h.tape, h.output, h.size, h.block⟩

/-! ### Commands -/
/-- A command with the addresses of its indentation and of its document. -/
structure Cm where
  ind : Ind
  flat : Bool
  d : Doc
  p : Option Addr
  a : Addr
def Cm.cmd (c : Cm) : Cmd := ⟨c.ind, c.flat, c.d⟩
def Cm.cells (c : Cm) : List Value := [.pointer c.p, .bool c.flat, .pointer (some c.a)]
def cmCells (l : List Cm) : List Value := l.flatMap Cm.cells
theorem cmCells_len (l : List Cm) : (cmCells l).length = l.length * 3 := by
  induction l with
  | nil => rfl
  | cons a l ih => simp only [cmCells, List.flatMap_cons, List.length_append] at *; simp [Cm.cells, ih]; omega
theorem cmCells_snoc (l : List Cm) (c : Cm) : cmCells (l ++ [c]) = cmCells l ++ c.cells := by simp [cmCells]
def indCells (q : Option Addr) (x : Bool × Int) (r : Ind) : List Value := [.pointer q, .bool x.1, .int .i64 x.2, .int .i64 (Ind.wide (x :: r))]
/-- An indentation lies here, in blocks that stay. -/
def IndAt (w : World) (F : Nat → Prop) : Ind → Option Addr → Prop
  | [], p => p = none
  | x :: r, p => ∃ g q, p = some ⟨g, 0, none⟩ ∧ F g ∧ Blk w g (indCells q x r) 92 ∧ IndAt w F r q
/-- A document lies here: its six cells in a block that stays, its kids below block number B0. -/
def DocAt (w : World) (B0 : Nat) (F : Nat → Prop) (d : Doc) (a : Addr) : Prop := ∃ g off kv, a = ⟨g, off, none⟩ ∧ F g ∧ Six w g off d kv ∧ KV w 0 B0 d kv
theorem IndAt.of {w w' : World} {F F' : Nat → Prop} (h : ∀ g, F g → F' g ∧ w'.heap[g]? = w.heap[g]?) : ∀ {i : Ind} {p : Option Addr}, IndAt w F i p → IndAt w' F' i p
  | [], p, hi => hi
  | x :: r, p, ⟨g, q, hp, hF, hb, hr⟩ => ⟨g, q, hp, (h g hF).1, (h g hF).2.trans hb, IndAt.of h hr⟩
theorem DocAt.of {w w' : World} {B0 : Nat} {F F' : Nat → Prop} {d : Doc} {a : Addr} (h : ∀ g, F g → F' g ∧ w'.heap[g]? = w.heap[g]?) (hB : ∀ k, k < B0 → w'.heap[k]? = w.heap[k]?) (hd : DocAt w B0 F d a) : DocAt w' B0 F' d a := by
  obtain ⟨g, off, kv, ha, hF, h6, hk⟩ := hd
  exact ⟨g, off, kv, ha, (h g hF).1, h6.of (h g hF).2, hk.of (Nat.le_refl _) (Nat.le_refl _) fun b _ hb => hB b hb⟩

/-- How heavy a document weighs in the machine's work. -/
def Doc.wt (d : Doc) : Nat := 2 * d.nodes - 1
def wtL (l : List Doc) : Nat := (l.map Doc.wt).sum
/-- An indentation that may be. -/
def IndOk (i : Ind) : Prop := ∀ x ∈ i, 0 ≤ x.2 ∧ x.2 ≤ 10000
/-- What holds of each command: its document is formed and not too large, its indentation is narrow. -/
structure CmOk (i : Ind) (d : Doc) : Prop where
  shape : d.shape = true
  bulk : d.bulk ≤ 4194304
  ind : IndOk i
  wide : Ind.wide i + 10000 * (d.depth : Int) ≤ 1000000000000
theorem wide_pos : ∀ (i : Ind), IndOk i → 0 ≤ Ind.wide i
  | [], _ => by simp [Ind.wide]
  | x :: r, h => by
    have h1 := wide_pos r (fun y hy => h y (by simp [hy]))
    have h2 := (h x (by simp)).1
    simp only [Ind.wide]
    omega

/-! ### The machine -/
structure OptV where
  o : Opt
  semi : Bool
  single : Bool
  trailing : Bool
  spacing : Bool
  module : Bool
def OptV.cells (v : OptV) : List Value := [.int .i64 v.o.width, .int .i64 v.o.tab, .bool v.o.tabs, .bool v.semi, .bool v.single, .bool v.trailing, .bool v.spacing, .bool v.o.crlf, .bool v.module]
/-- What the machine has come to, with its rows' slices (the stack as it lies: the next command last) and its map. -/
structure MS where
  out : Ln
  col : Int
  stk : List Cm
  put : List Cm
  brk : Int → Bool
  vo : Value
  vs : Value
  vp : Value
  es : Array MapEntry
  clock : Nat
def MS.mach (s : MS) : Mach := ⟨s.out, s.col, (s.stk.map Cm.cmd).reverse, s.put.map Cm.cmd, s.brk⟩
def mCells (ov : OptV) (mb : Nat) (vo : Value) (col : Int) (vs vp : Value) : List Value :=
  ov.cells ++ [vo, .int .i64 col, vs, vp, .map (some mb), .string (strOf ov.o.nl)]
/-- The machine's own blocks. -/
def MS.X (b mb : Nat) (s : MS) (k : Nat) : Prop := k = b ∨ k = mb ∨ s.vo.ownBlock = some k ∨ s.vs.ownBlock = some k ∨ s.vp.ownBlock = some k
/-- The blocks that stay. -/
def MS.F (b mb : Nat) (s : MS) (w : World) (k : Nat) : Prop := k < w.heap.size ∧ ¬ s.X b mb k
def brkEntry (p : Int × Bool) : Value × Value := (.int .i64 p.1, .bool p.2)
def BrkAt (es : Array MapEntry) (brk : Int → Bool) : Prop := ∃ l : List (Int × Bool), es.toList.map (fun e => (e.key, e.val)) = l.map brkEntry ∧ ∀ i, brk i = ((l.find? (fun x => x.1 == i)).map Prod.snd).getD false
structure Good (w : World) (B0 : Nat) (F : Nat → Prop) (c : Cm) : Prop where
  ok : CmOk c.ind c.d
  ind : IndAt w F c.ind c.p
  doc : DocAt w B0 F c.d c.a
def MS.weight (s : MS) : Nat := (s.stk.map fun c => c.d.wt).sum + (s.put.map fun c => c.d.wt).sum
structure MAt (B0 b mb : Nat) (ov : OptV) (s : MS) (w : World) : Prop where
  blk : Blk w b (mCells ov mb s.vo s.col s.vs s.vp) 64
  out : w.ownsRow B0 5 1 s.vo s.out.length (Lib.byteCells s.out)
  stk : w.ownsRow B0 69 3 s.vs s.stk.length (cmCells s.stk)
  put : w.ownsRow B0 69 3 s.vp s.put.length (cmCells s.put)
  map : w.heap[mb]? = some (.map s.es s.clock)
  brk : BrkAt s.es s.brk
  apart : ∀ k, s.vs.ownBlock = some k → s.vp.ownBlock ≠ some k
  lowb : B0 ≤ b
  lowm : B0 ≤ mb
  low : B0 ≤ w.heap.size
  good : ∀ c ∈ s.stk ++ s.put, Good w B0 (s.F b mb w) c
  weight : s.weight ≤ 16777216
  len : s.out.length ≤ 67108864
  col0 : 0 ≤ s.col
  col1 : s.col ≤ 2000000000000
  opt : optOk ov.o = true

section
variable {B0 b mb : Nat} {ov : OptV} {s : MS} {w w' : World}
theorem MAt.X_low (h : MAt B0 b mb ov s w) {k : Nat} (hk : s.X b mb k) : B0 ≤ k := by
  rcases hk with rfl | rfl | hk | hk | hk
  · exact h.lowb
  · exact h.lowm
  · exact (h.out.lt k hk).1
  · exact (h.stk.lt k hk).1
  · exact (h.put.lt k hk).1
theorem MAt.X_lt (h : MAt B0 b mb ov s w) {k : Nat} (hk : s.X b mb k) : k < w.heap.size := by
  rcases hk with rfl | rfl | hk | hk | hk
  · exact h.blk.lt
  · exact (Array.getElem?_eq_some_iff.1 h.map).1
  · exact (h.out.lt k hk).2
  · exact (h.stk.lt k hk).2
  · exact (h.put.lt k hk).2
theorem own_is {W : World} {base e size n : Nat} {v : Value} {xs : List Value} (h : W.ownsRow base e size v n xs) {k : Nat} (hk : v.ownBlock = some k) : ∃ cur, W.heap[k]? = some (.cells cur e (0, 0)) := by
  rcases h.2 with ⟨h2, _⟩ | ⟨g, cap, cur, h1, h2, h3, h4⟩
  · rw [h2] at hk; cases hk
  · rw [h1] at hk
    have : g = k := by simpa [Value.ownBlock] using hk
    subst this
    exact ⟨cur, h3⟩
/-- The machine's blocks are five. -/
theorem MAt.ne (h : MAt B0 b mb ov s w) : b ≠ mb ∧ (∀ k, s.vo.ownBlock = some k → k ≠ b ∧ k ≠ mb ∧ s.vs.ownBlock ≠ some k ∧ s.vp.ownBlock ≠ some k) ∧ (∀ k, s.vs.ownBlock = some k → k ≠ b ∧ k ≠ mb) ∧ (∀ k, s.vp.ownBlock = some k → k ≠ b ∧ k ≠ mb) := by
  have hb : w.heap[b]? = some (.cells (mCells ov mb s.vo s.col s.vs s.vp).toArray 64 (0, 0)) := h.blk
  have two : ∀ {k : Nat} {cur : Array Value} {e : TypeId}, w.heap[k]? = some (.cells cur e (0, 0)) → e ≠ 64 → k ≠ b ∧ k ≠ mb := by
    intro k cur e hc he
    constructor
    · rintro rfl
      rw [hb] at hc
      injection hc with hc
      injection hc with h1 h2
      exact he h2.symm
    · rintro rfl
      rw [h.map] at hc
      cases hc
  refine ⟨?_, ?_, ?_, ?_⟩
  · rintro rfl
    have := h.map
    rw [hb] at this
    cases this
  · intro k hk
    obtain ⟨cur, hc⟩ := own_is h.out hk
    refine ⟨(two hc (by decide)).1, (two hc (by decide)).2, fun hs => ?_, fun hp => ?_⟩
    · obtain ⟨cur2, hc2⟩ := own_is h.stk hs
      rw [hc] at hc2
      injection hc2 with hc2
      injection hc2 with h1 h2
      cases h2
    · obtain ⟨cur2, hc2⟩ := own_is h.put hp
      rw [hc] at hc2
      injection hc2 with hc2
      injection hc2 with h1 h2
      cases h2
  · intro k hk
    obtain ⟨cur, hc⟩ := own_is h.stk hk
    exact two hc (by decide)
  · intro k hk
    obtain ⟨cur, hc⟩ := own_is h.put hk
    exact two hc (by decide)
/-- What a step of the machine leaves of what stays. -/
theorem MAt.fix (h : MAt B0 b mb ov s w) (hf : Frame (s.X b mb) w w') : ∀ k, k < B0 → w'.heap[k]? = w.heap[k]? := fun k hk => hf.block k (Nat.lt_of_lt_of_le hk h.low) (fun hx => by have := h.X_low hx; omega)
theorem MAt.below_of (h : MAt B0 b mb ov s w) (hf : Frame (s.X b mb) w w') : Below B0 w w' := hf.below fun q hq => ⟨Nat.lt_of_lt_of_le hq h.low, fun hx => by have := h.X_low hx; omega⟩
/-- The blocks that stay stay, and go on staying. -/
def Goes (b mb : Nat) (s s' : MS) (w w' : World) : Prop := Frame (s.X b mb) w w' ∧ ∀ k, s'.X b mb k → s.X b mb k ∨ w.heap.size ≤ k
theorem Goes.refl (b mb : Nat) (s : MS) (w : World) : Goes b mb s s w w := ⟨Frame.refl _ _, fun _ h => .inl h⟩
theorem Goes.trans {s' s'' : MS} {w'' : World} (h : Goes b mb s s' w w') (k : Goes b mb s' s'' w' w'') : Goes b mb s s'' w w'' :=
  ⟨h.1.trans k.1 fun q hq hx => (h.2 q hx).resolve_right (by omega), fun q hq => by
    rcases k.2 q hq with hx | hx
    · exact h.2 q hx
    · exact .inr (Nat.le_trans h.1.size hx)⟩
theorem Goes.F {s' : MS} (h : Goes b mb s s' w w') {k : Nat} (hk : s.F b mb w k) : s'.F b mb w' k ∧ w'.heap[k]? = w.heap[k]? :=
  ⟨⟨Nat.lt_of_lt_of_le hk.1 h.1.size, fun hx => (h.2 k hx).elim hk.2 (fun hge => by have := hk.1; omega)⟩, h.1.block k hk.1 hk.2⟩
theorem Goes.of_below (h : Below w.heap.size w w') : Goes b mb s s w w' := ⟨Frame.of_below h, fun _ h => .inl h⟩
theorem Goes.ind {s' : MS} (h : Goes b mb s s' w w') {i : Ind} {p : Option Addr} (hi : IndAt w (s.F b mb w) i p) : IndAt w' (s'.F b mb w') i p := hi.of fun _ hg => h.F hg
theorem MAt.doc_goes {s' : MS} (hm : MAt B0 b mb ov s w) (h : Goes b mb s s' w w') {d : Doc} {a : Addr} (hd : DocAt w B0 (s.F b mb w) d a) : DocAt w' B0 (s'.F b mb w') d a := hd.of (fun _ hg => h.F hg) (hm.fix h.1)
theorem MAt.good_goes {s' : MS} (hm : MAt B0 b mb ov s w) (h : Goes b mb s s' w w') {c : Cm} (hc : Good w B0 (s.F b mb w) c) : Good w' B0 (s'.F b mb w') c := ⟨hc.ok, h.ind hc.ind, hm.doc_goes h hc.doc⟩
/-- New blocks alone: the machine is as it was. -/
theorem MAt.below (h : MAt B0 b mb ov s w) (hb : Below w.heap.size w w') : MAt B0 b mb ov s w' :=
  { blk := h.blk.below hb, out := own_below h.out hb, stk := own_below h.stk hb, put := own_below h.put hb, map := (hb.block mb (Array.getElem?_eq_some_iff.1 h.map).1).trans h.map, brk := h.brk, apart := h.apart, lowb := h.lowb, lowm := h.lowm, low := Nat.le_trans h.low hb.size,
    good := fun c hc => h.good_goes (Goes.of_below hb) (h.good c hc), weight := h.weight, len := h.len, col0 := h.col0, col1 := h.col1, opt := h.opt }
theorem MAt.drewn (h : MAt B0 b mb ov s w) (n : Nat) : MAt B0 b mb ov s (w.drewN n) := h.below ⟨rfl, rfl, rfl, Nat.le_refl _, fun _ _ => rfl⟩
end

/-- How a call that works the machine ends: too much is written, or the machine is as the plain one. -/
def tooLong : Ending := .panicked [{ v := .iface 58 (.agg #[]), recovered := false }]
def Ends (B0 b mb : Nat) (ov : OptV) (s : MS) (w : World) (R : Option Mach) (e : Ending) (w' : World) : Prop :=
  match R with
  | none => e = tooLong ∧ Frame (s.X b mb) w w'
  | some m => e = .returned (.tuple #[]) ∧ ∃ s', s'.mach = m ∧ MAt B0 b mb ov s' w' ∧ Goes b mb s s' w w'
end

section
open Go.RowKit
set_option maxRecDepth 100000
set_option linter.unusedVariables false
set_option linter.unusedSimpArgs false

theorem mapT : Tryd.prog.underlying 61 = some (.map 3 4) := Tryd.underlying61
theorem keyT : Tryd.prog.underlying 3 = some (.int .i64) := Tryd.underlying3
theorem same_key (i j : Int) : Instr.sameNow (.int .i64) (.int .i64 i) (.int .i64 j) = some (i == j) := by simp [Instr.sameNow]
/-- An update of an entry that is there: what is looked up behind it. -/
theorem find_brk (i : Int) : ∀ (es : List MapEntry) (l : List (Int × Bool)) (n : Nat), es.map (fun e => (e.key, e.val)) = l.map brkEntry →
    (l.find? (fun x => x.1 == i) = none ∧ Instr.findNow (.int .i64) (.int .i64 i) es n = some none) ∨
    (∃ j v, j < es.length ∧ (l.find? (fun x => x.1 == i)).map Prod.snd = some v ∧ Instr.findNow (.int .i64) (.int .i64 i) es n = some (some (n + j, .bool v)) ∧ (es[j]?).map (·.key) = some (.int .i64 i) ∧
      ∀ u : Bool, ∃ l2 : List (Int × Bool), (es.modify j fun e => { e with key := .int .i64 i, val := .bool u }).map (fun e => (e.key, e.val)) = l2.map brkEntry ∧ ∀ k, ((l2.find? (fun x => x.1 == k)).map Prod.snd).getD false = if k = i then u else ((l.find? (fun x => x.1 == k)).map Prod.snd).getD false)
  | [], l, n, h => by
    have : l = [] := by cases l with
      | nil => rfl
      | cons a l => simp at h
    subst this
    exact .inl ⟨rfl, rfl⟩
  | e :: es, l, n, h => by
    cases l with
    | nil => simp at h
    | cons p l =>
      simp only [List.map_cons, List.cons.injEq] at h
      obtain ⟨h1, h2⟩ := h
      have hk : e.key = .int .i64 p.1 := congrArg Prod.fst h1
      have hv : e.val = .bool p.2 := congrArg Prod.snd h1
      rw [List.find?_cons]
      unfold Instr.findNow
      rw [hk, same_key]
      by_cases hp : p.1 = i
      · have e1 : (p.1 == i) = true := by simpa using hp
        have e2 : (i == p.1) = true := by simpa using hp.symm
        rw [e1, e2]
        refine .inr ⟨0, p.2, by simp, by rfl, by rw [hv]; rfl, by simp [hk, hp], fun u => ⟨(i, u) :: l, ?_, fun k => ?_⟩⟩
        · simp [List.modify, h2, brkEntry]
        · rw [List.find?_cons, List.find?_cons]
          by_cases hki : k = i
          · subst hki; simp
          · have e3 : (i == k) = false := by simpa using fun x => hki x.symm
            have e4 : (p.1 == k) = false := by rw [hp]; exact e3
            simp only [e3, e4]
            rw [if_neg hki]
      · have e1 : (p.1 == i) = false := by simpa using hp
        have e2 : (i == p.1) = false := by simpa using fun x => hp x.symm
        rw [e1, e2]
        rcases find_brk i es l (n + 1) h2 with ⟨f1, f2⟩ | ⟨j, v, j1, j2, j3, j4, j5⟩
        · exact .inl ⟨f1, f2⟩
        · refine .inr ⟨j + 1, v, by simp; omega, j2, by simp only []; rw [j3]; congr 3; omega, by simpa using j4, fun u => ?_⟩
          obtain ⟨l2, k1, k2⟩ := j5 u
          refine ⟨p :: l2, ?_, fun k => ?_⟩
          · simp only [List.modify_succ_cons, List.map_cons, k1]
            rw [show (e.key, e.val) = brkEntry p from h1]
          · rw [List.find?_cons, List.find?_cons]
            by_cases hpk : p.1 = k
            · have e3 : (p.1 == k) = true := by simpa using hpk
              simp only [e3]
              rw [if_neg (fun x => hp (hpk.trans x))]
            · have e3 : (p.1 == k) = false := by simpa using hpk
              simp only [e3]
              exact k2 k
theorem look_brk {w : World} {M : Nat} {es : Array MapEntry} {clock : Nat} {brk : Int → Bool} (hb : w.heap[M]? = some (.map es clock)) (hn : BrkAt es brk) (i : Int) :
    (Instr.lookup 61 (.map (some M)) (.int .i64 i) false).run Tryd.prog w = .ok (.bool (brk i)) w := by
  obtain ⟨l, hl, hbk⟩ := hn
  have hc : ∀ b, (Instr.checkKey b 10000 3 (.int .i64 i)).run Tryd.prog w = .ok () w := fun b => MapKept.run_checkKey (k := .int .i64 i) keyT (by simp [MapKept.IsKey]) b 9999
  have hz : (zeroValue 4).run Tryd.prog w = .ok (.bool false) w := Tryd.zeroValue4 w
  rcases find_brk i es.toList l 0 hl with ⟨f1, f2⟩ | ⟨j, v, j1, j2, j3, j4, j5⟩
  · rw [hbk i, f1]
    simp [Instr.lookup, run_underlying mapT, MapKept.run_getObj_map hb, hc, MapKept.run_findKey keyT f2, hz, Result.andThen]
  · rw [hbk i, j2]
    simp [Instr.lookup, run_underlying mapT, MapKept.run_getObj_map hb, hc, MapKept.run_findKey keyT j3, Result.andThen]
/-- An update: a map with what was put, in the same block. -/
theorem update_brk {w : World} {M : Nat} {es : Array MapEntry} {clock : Nat} {brk : Int → Bool} (hb : w.heap[M]? = some (.map es clock)) (hn : BrkAt es brk) (i : Int) (u : Bool) :
    ∃ es2 clock2, (Instr.mapUpdate 61 (.map (some M)) (.int .i64 i) (.bool u)).run Tryd.prog w = .ok () { w with heap := w.heap.setIfInBounds M (.map es2 clock2) } ∧ BrkAt es2 (fun j => if j = i then u else brk j) := by
  obtain ⟨l, hl, hbk⟩ := hn
  have hc : (Instr.checkKey false 10000 3 (.int .i64 i)).run Tryd.prog w = .ok () w := MapKept.run_checkKey (k := .int .i64 i) keyT (by simp [MapKept.IsKey]) false 9999
  rcases find_brk i es.toList l 0 hl with ⟨f1, f2⟩ | ⟨j, v, j1, j2, j3, j4, j5⟩
  · refine ⟨es.push { key := .int .i64 i, val := .bool u, born := clock }, clock + 1, ?_, l ++ [(i, u)], ?_, fun k => ?_⟩
    · simp [Instr.mapUpdate, run_underlying mapT, MapKept.run_getObj_map hb, hc, MapKept.run_findKey keyT f2, MapKept.run_setObj_map _ hb, Result.andThen]
    · rw [Array.toList_push, List.map_append, List.map_append, hl]
      rfl
    · show (if k = i then u else brk k) = _
      rw [List.find?_append, hbk k]
      by_cases hk : k = i
      · subst hk
        rw [f1]
        simp
      · have e3 : (i == k) = false := by simpa using fun x => hk x.symm
        cases h : l.find? (fun x => x.1 == k) with
        | none => simp [List.find?_cons, e3, hk]
        | some p => simp [hk]
  · obtain ⟨l2, k1, k2⟩ := j5 u
    refine ⟨es.modify j fun e => { e with key := .int .i64 i, val := .bool u }, clock, ?_, l2, ?_, fun k => ?_⟩
    · have hk4 : ((es[j]?).map (·.key)).getD (.int .i64 i) = .int .i64 i := by
        have : (es[j]?).map (·.key) = some (.int .i64 i) := by simpa using j4
        rw [this]; rfl
      have hstay : (Instr.keyThatStays (.int .i64 i) (.int .i64 i)).run Tryd.prog w = .ok (.int .i64 i) w := by
        simp [Instr.keyThatStays, Instr.sameBits]
      rw [Nat.zero_add] at j3
      simp [Instr.mapUpdate, run_underlying mapT, MapKept.run_getObj_map hb, hc, MapKept.run_findKey keyT j3, MapKept.run_setObj_map _ hb, Result.andThen, hk4, hstay]
    · rw [Array.toList_modify]
      exact k1
    · show (if k = i then u else brk k) = _
      rw [hbk k]
      exact (k2 k).symm
end

section
open Go.RowKit
set_option maxRecDepth 100000
set_option linter.unusedVariables false
set_option linter.unusedSimpArgs false

theorem wide_is (i : Ind) (p : Option Addr) (w : World) (F : Nat → Prop) (h : IndAt w F i p) :
    Calls Tryd.prog 49 #[.pointer p] w fun e w' => e = .returned (.int .i64 (Ind.wide i)) ∧ w = w' := by
  cases i with
  | nil =>
    obtain rfl : p = none := h
    go_enter Tryd.func49, Tryd.ntmps49
    go_wp2
    go_ret
    exact ⟨rfl, rfl⟩
  | cons x r =>
    obtain ⟨g, q, rfl, hF, hb, hr⟩ := h
    have c3 : w.cell? ⟨g, 3, none⟩ = some (.int .i64 (Ind.wide (x :: r))) := hb.cell 3
    generalize Ind.wide (x :: r) = y at c3 ⊢
    clear hb hr hF
    go_enter Tryd.func49, Tryd.ntmps49
    go_wp2
    go_ret
    exact ⟨rfl, rfl⟩
theorem MAt.cells {B0 b mb : Nat} {ov : OptV} {s : MS} {w : World} (h : MAt B0 b mb ov s w) :
    w.cell? ⟨b, 0, none⟩ = some (.int .i64 ov.o.width) ∧ w.cell? ⟨b, 1, none⟩ = some (.int .i64 ov.o.tab) ∧ w.cell? ⟨b, 2, none⟩ = some (.bool ov.o.tabs) ∧ w.cell? ⟨b, 9, none⟩ = some s.vo ∧ w.cell? ⟨b, 10, none⟩ = some (.int .i64 s.col) ∧ w.cell? ⟨b, 11, none⟩ = some s.vs ∧ w.cell? ⟨b, 12, none⟩ = some s.vp ∧ w.cell? ⟨b, 13, none⟩ = some (.map (some mb)) ∧ w.cell? ⟨b, 14, none⟩ = some (.string (strOf ov.o.nl)) :=
  ⟨h.blk.cell 0, h.blk.cell 1, h.blk.cell 2, h.blk.cell 9, h.blk.cell 10, h.blk.cell 11, h.blk.cell 12, h.blk.cell 13, h.blk.cell 14⟩

theorem tab_bd {o : Opt} (h : optOk o = true) : 1 ≤ o.width ∧ o.width ≤ 10000 ∧ 0 ≤ o.tab ∧ o.tab ≤ 16 := by
  unfold optOk at h
  simp at h
  omega
/-- A new indentation. -/
theorem ind_new {B0 b mb : Nat} {ov : OptV} {s : MS} {w w1 : World} (h : MAt B0 b mb ov s w) (x : Bool × Int) {i : Ind} {p : Option Addr} (hi : IndAt w (s.F b mb w) i p) (hb : Below w.heap.size w w1) :
    IndAt (w1.alloc (.cells (indCells p x i).toArray 92)) (s.F b mb (w1.alloc (.cells (indCells p x i).toArray 92))) (x :: i) (some ⟨w1.heap.size, 0, none⟩) := by
  have hb2 := hb.alloc hb.size (.cells (indCells p x i).toArray 92)
  refine ⟨w1.heap.size, p, rfl, ⟨by simp, fun hx => ?_⟩, Blk.new w1 _ _, (Goes.of_below hb2).ind hi⟩
  have h1 := h.X_lt hx
  have h2 := hb.size
  omega
set_option maxHeartbeats 4000000 in
theorem step_is {B0 b mb : Nat} {ov : OptV} {s : MS} {w : World} (h : MAt B0 b mb ov s w) {i : Ind} {p : Option Addr} (hi : IndAt w (s.F b mb w) i p) (hw : 0 ≤ Ind.wide i ∧ Ind.wide i ≤ 1000000000000) :
    Calls Tryd.prog 48 #[.pointer (some ⟨b, 0, none⟩), .pointer p] w fun e w' => ∃ g, e = .returned (.pointer (some ⟨g, 0, none⟩)) ∧ Below w.heap.size w w' ∧ IndAt w' (s.F b mb w') ((true, ov.o.tab) :: i) (some ⟨g, 0, none⟩) := by
  obtain ⟨c0, c1, c2, c9, c10, c11, c12, c13, c14⟩ := h.cells
  clear c0 c2 c9 c10 c11 c12 c13 c14
  obtain ⟨t1, t2, t3, t4⟩ := tab_bd h.opt
  have HW := Lib.hid (fun (wq : World) (hq : w.heap = wq.heap) => wide_is i p wq (s.F b mb w) (hi.of fun g hg => ⟨hg, by rw [hq]⟩))
  have HN := Lib.hid (fun (w1 : World) (hb : Below w.heap.size w w1) => ind_new h (true, ov.o.tab) hi hb)
  have hw1 : IntKind.i64.wrap (Ind.wide i + ov.o.tab) = Ind.wide i + ov.o.tab := by rw [IntKind.wrap_i64]; omega
  clear h hi
  unfold indCells at HN
  simp only [Ind.wide] at HN
  generalize Ind.wide i = y at *
  generalize ov.o.tab = tab at *
  go_enter Tryd.func48, Tryd.ntmps48
  go_wp2_with fail
  go_region_law (go_simp; go_at_call 49; refine (HW.out _ (by rfl)).mono ?_; rintro e wt ⟨rfl, rfl⟩)
  all_goals
    go_wp2_with fail
    go_ret
    exact ⟨_, rfl, (Below.refl _ w).drew.alloc (Nat.le_refl _) _, HN.out w.drew (Below.refl _ w).drew⟩
theorem mode_is {B0 b mb : Nat} {ov : OptV} {s : MS} {w : World} (h : MAt B0 b mb ov s w) (id : Int) (around : Bool) :
    Calls Tryd.prog 53 #[.pointer (some ⟨b, 0, none⟩), .int .i64 id, .bool around] w fun e w' => e = .returned (.bool (modeB s.brk id around)) ∧ w = w' := by
  obtain ⟨c0, c1, c2, c9, c10, c11, c12, c13, c14⟩ := h.cells
  clear c0 c1 c2 c9 c10 c11 c12 c14
  have hlk := look_brk h.map h.brk id
  generalize hy : s.brk id = y at *
  have HM : Hid (modeB s.brk id around = if id = 0 then around else !y) := Lib.hid (by unfold modeB; rw [hy])
  clear h hy
  by_cases h0 : id = 0
  · subst h0
    go_enter Tryd.func53, Tryd.ntmps53
    go_wp2_with fail
    go_ret
    exact ⟨by rw [HM.out]; rfl, rfl⟩
  · have h1 : (id == 0) = false := by simpa using h0
    go_enter Tryd.func53, Tryd.ntmps53
    go_wp2_with fail
    go_ret
    exact ⟨by rw [HM.out, if_neg h0]; rfl, rfl⟩
end

section
open Go.RowKit
set_option maxRecDepth 100000
set_option linter.unusedVariables false
set_option linter.unusedSimpArgs false

def ptrs (l : List Addr) : List Value := l.map fun a => .pointer (some a)
/-- The addresses of so many documents, one behind the other. -/
def kidAddrs (g off n : Nat) : List Addr := (List.range n).map fun j => ⟨g, off + j * 6, none⟩
theorem infoParts {P : Program} {t : TypeId} {x : Option Value × Nat × Nat} (h : (P.info? t).map (fun i => (i.zero, i.size, i.bytes)) = some x) : ∃ i, P.info? t = some i ∧ i.zero = x.1 ∧ i.size = x.2.1 ∧ i.bytes = x.2.2 := by
  cases hi : P.info? t with
  | none => rw [hi] at h; cases h
  | some i =>
    rw [hi] at h
    injection h with h
    exact ⟨i, rfl, by rw [← h], by rw [← h], by rw [← h]⟩
theorem info_ptr : ∃ i, Tryd.prog.info? 66 = some i ∧ i.zero = some (.pointer none) ∧ i.size = 1 ∧ i.bytes = 8 := infoParts (P := Tryd.prog) (t := 66) (x := (some (.pointer none), 1, 8)) (by kernel_rfl)
theorem kid_next (g off j n : Nat) (h : j < n) : (ptrs (kidAddrs g off j) ++ List.replicate (n - j) (Value.pointer none)).set j (.pointer (some ⟨g, off + j * 6, none⟩)) = ptrs (kidAddrs g off (j + 1)) ++ List.replicate (n - (j + 1)) (Value.pointer none) := by
  have hl : (ptrs (kidAddrs g off j)).length = j := by simp [ptrs, kidAddrs]
  have e : n - j = (n - (j + 1)) + 1 := by omega
  rw [List.set_append_right _ _ (by omega), hl, Nat.sub_self, e, List.replicate_succ, List.set_cons_zero]
  unfold ptrs kidAddrs
  rw [List.range_succ]
  simp
theorem make_ptrs (n : Nat) (hn : n ≤ 4194304) (w : World) : (Instr.makeSlice 87 (.int .i64 (n : Int)) (.int .i64 (n : Int))).run Tryd.prog w = .ok (.slice (some ⟨w.heap.size, 0, none⟩) n n) (w.alloc (.cells (List.replicate n (Value.pointer none)).toArray 66)) := by
  obtain ⟨i, hi, hz, hs, hb⟩ := info_ptr
  have h := run_makeSlice (P := Tryd.prog) w 87 66 i (.pointer none) Tryd.underlying87 hi hz .i64 .i64 (n : Int) (n : Int) (by omega) (by omega) (by rw [hs]; simp; omega) (by rw [hb]; omega) (by omega)
  rw [h, hs]
  have e : madeCells (Value.pointer none).cells ((n : Int).toNat * 1) = (List.replicate n (Value.pointer none)).toArray := by
    apply Array.toList_inj.1
    rw [show (Value.pointer none).cells = #[Value.pointer none] from rfl, toList_madeCells_one]
    simp
  rw [e]
  simp
set_option maxHeartbeats 4000000 in
theorem kids_is (a : Option Addr) (g off n cap : Nat) (w : World) (hn : n ≤ 4194304) (hc : n ≤ cap) (ha : 0 < n → a = some ⟨g, off, none⟩) :
    Calls Tryd.prog 47 #[.slice a n cap] w fun e w' => e = .returned (.slice (some ⟨w.heap.size, 0, none⟩) n n) ∧ Below w.heap.size w w' ∧ Blk w' w.heap.size (ptrs (kidAddrs g off n)) 66 := by
  have HMK := Lib.hid (make_ptrs n hn w)
  obtain ⟨B, hB⟩ : ∃ B, B = w.heap.size := ⟨_, rfl⟩
  have hb0 := (Below.refl w.heap.size w).alloc (Nat.le_refl _) (.cells (List.replicate n (Value.pointer none)).toArray 66)
  have hblk := Blk.new' (W := w) (g := B) (List.replicate n (Value.pointer none)) 66 hB
  rw [← hB] at HMK hb0 ⊢
  have HB := Lib.hid hB
  clear hB
  go_enter Tryd.func47, Tryd.ntmps47
  go_wp2_with fail
  rw [HMK.out]
  go_wp2_with fail
  go_loopw [10] (fun i wr => ∃ j : Nat, j ≤ n ∧ i = .int .i64 (j : Int) ∧ Below B w wr ∧ Blk wr B (ptrs (kidAddrs g off j) ++ List.replicate (n - j) (Value.pointer none)) 66) (fun i _ => n - (intOf i).toNat)
  case atStart => exact ⟨0, by omega, rfl, by rw [HB.out] at hb0 ⊢; exact hb0, hblk⟩
  case round =>
    obtain ⟨j, hj, rfl, hbw, hbk⟩ := hrel
    by_cases hlt : j < n
    · have hlt' : (j : Int) < (n : Int) := by omega
      obtain rfl := ha (by omega)
      have cj : wr.cell? ⟨B, j, none⟩ = some (.pointer none) := by
        have hl : (ptrs (kidAddrs g off j)).length = j := by simp [ptrs, kidAddrs]
        rw [hbk.cell j, List.getElem?_append_right (by omega), hl, Nat.sub_self, List.getElem?_replicate, if_pos (by omega)]
      have fj := hbk.frozen j
      have HBW := Lib.hid hbw
      have HBK := Lib.hid hbk
      clear hbw hbk hb0 hblk ha
      go_wp2_with fail
      go_roundw
      case rel => exact ⟨j + 1, by omega, by go_num, HBW.out.setCell (p := ⟨B, j, none⟩) (Nat.le_refl _) _, by rw [← kid_next g off j n hlt]; exact HBK.out.set j _⟩
      case measure => simp [intOf]; omega
    · obtain rfl : j = n := by omega
      have HBW := Lib.hid hbw
      have HBK := Lib.hid hbk
      clear hbw hbk hb0 hblk ha
      go_wp2_with fail
      go_ret
      refine ⟨rfl, HBW.out, ?_⟩
      have := HBK.out
      rw [Nat.sub_self, List.replicate_zero, List.append_nil] at this
      exact this
end

section
open Go.RowKit
set_option maxRecDepth 100000
set_option linter.unusedVariables false
set_option linter.unusedSimpArgs false

section
variable {P : Program} (w : World)
/-- A string appended onto a row of one's own, and where the row lies behind it. -/
theorem run_append_str_at (base : Nat) (t u ty e : TypeId) (i : TypeInfo) (ht : P.underlying t = some (.slice e)) (hu : P.underlying u = some .string) (hi : P.info? e = some i) (hz : i.zero = some (.int .u8 0))
    (hsize : i.size = 1) (hby : i.bytes = 1)
    (v : Value) (n : Nat) (xs : List Value) (hown : w.ownsRow base e 1 v n xs) (s : ByteArray)
    (h63 : n + s.size ≤ maxLen) (hbytes : n + s.size ≤ 140737488355328) (hbase : base ≤ w.heap.size) :
    ∃ v' w', (Builtin.append_ #[t, u] ty #[v, .string s]).run P w = .ok v' w' ∧ w'.ownsRow base e 1 v' (n + s.size) (xs ++ Lib.strCells s) ∧ w.grownBy w' v.ownBlock ∧ (v'.ownBlock = v.ownBlock ∨ v'.ownBlock = some w.heap.size) := by
  obtain ⟨v', w', hr, h2, h3, h4⟩ := Lib.run_append_own_string (P := P) w base t u ty e i ht hu hi hz hsize hby v n xs hown s h63 hbytes hbase
  refine ⟨v', w', hr, h2, h3, ?_⟩
  have hsmall : n + s.size ≤ 9223372036854775807 := by simp only [maxLen] at h63; omega
  have hxl : xs.length = n := by simpa using hown.1
  have put : ∀ {x : Value} {W : World}, (Builtin.append_ #[t, u] ty #[v, .string s]).run P w = .ok x W → v' = x := by
    intro x W hx
    rw [hr] at hx
    injection hx
  rcases hown.2 with ⟨rfl, rfl⟩ | ⟨g, cap, cur, rfl, hbg, hg, hnc, hcm, hcs, htake⟩
  · by_cases hm : s.size = 0
    · exact .inl (by rw [h4.2 ⟨rfl, hm⟩])
    · have hr2 := run_append_nil_string (P := P) w t u ty e i (.int .u8 0) ht hu hi hz s (by omega) (by omega) (by rw [hby]; omega)
      rw [put hr2]
      exact .inr rfl
  · by_cases hroom : n + s.size ≤ cap
    · have hcs' : cur.size = cap := by simpa using hcs
      have hr2 := Lib.run_append_room_string (P := P) w t u ty e i ht hu hi hsize g n cap cur hg s hroom (by omega)
      rw [put hr2]
      exact .inl rfl
    · have holds : ∀ j u, xs[j]? = some u → w.cell? ((⟨g, 0, none⟩ : Addr).add j) = some u := hown.cells (g := g) rfl
      have hr2 := Lib.run_append_grow_string (P := P) w t u ty e i (.int .u8 0) ht hu hi hz ⟨g, 0, none⟩ n cap xs (by rw [hsize]; simpa using hxl) holds s (by omega) (by omega) (by rw [hby]; exact growslice_fits (by omega) (by omega))
      rw [put hr2]
      exact .inr rfl
theorem wpList_append_str_at {ops : Array Oper} {rest : List Oper} {o : Oper} {a : Act} {Q : Exit → Act → World → Prop} (hgd : o.guard = none) (sl x : Operand) (t u e : TypeId)
    (ho : o.op = .call { callee := .builtin .append, args := #[sl, x], argTypes := #[t, u] }) (hE : ByteElem P t e) (hu : P.underlying u = some .string)
    (B : Nat) (v : Value) (n : Nat) (xs : List Value) (hs : a.eval sl = v) (hown : w.ownsRow B e 1 v n xs) (s : ByteArray) (hx : a.eval x = .string s)
    (h63 : n + s.size ≤ maxLen) (hbytes : n + s.size ≤ 140737488355328) (hbase : B ≤ w.heap.size)
    (h : ∀ v' W', W'.ownsRow B e 1 v' (n + s.size) (xs ++ Lib.strCells s) → w.grownBy W' v.ownBlock → (v'.ownBlock = v.ownBlock ∨ v'.ownBlock = some w.heap.size) → wpList P ops Q rest (a.put o.dst v') W') : wpList P ops Q (o :: rest) a w := by
  obtain ⟨i, h1, h2, h3, h4, h5⟩ := hE
  refine wpList_plain hgd fun K hK => ?_
  obtain ⟨v', w', hr, k2, k3, k4⟩ := run_append_str_at (P := P) w B t u o.type e i h1 hu h2 h3 h4 h5 v n xs hown s h63 hbytes hbase
  unfold Oper.wp execOp
  simp only [ho, resolve, invoke, builtin, Sem.run_bind, Sem.run_pure, Result.andThen_ok, List.map_toArray, List.map_cons, List.map_nil, hs, hx, hr]
  exact hK _ _ (h v' w' k2 k3 k4)
end
theorem byteE : ByteElem Tryd.prog 35 5 := by
  obtain ⟨i, hi, hz, hs, hb⟩ := infoParts (P := Tryd.prog) (t := 5) (x := (some (.int .u8 0), 1, 1)) (by kernel_rfl)
  exact ⟨i, Tryd.underlying35, hi, hz, hs, hb⟩
theorem own_turned {w w' : World} {base e size n : Nat} {v : Value} {xs : List Value} {o : Option Nat} (h : w.ownsRow base e size v n xs) (hg : w.grownBy w' o) (hne : ∀ k, v.ownBlock = some k → some k ≠ o) : w'.ownsRow base e size v n xs := by
  refine ⟨h.1, ?_⟩
  rcases h.2 with h2 | ⟨g, cap, cur, h1, h2, h3, h4⟩
  · exact .inl h2
  · exact .inr ⟨g, cap, cur, h1, h2, (hg.block g (Array.getElem?_eq_some_iff.1 h3).1 (hne g (by rw [h1]; rfl))).trans h3, h4⟩
theorem own_setCell {w : World} {base e size n : Nat} {v : Value} {xs : List Value} (h : w.ownsRow base e size v n xs) (a : Addr) (u : Value) (hne : ∀ k, v.ownBlock = some k → k ≠ a.block) : (w.setCell a u).ownsRow base e size v n xs := by
  refine ⟨h.1, ?_⟩
  rcases h.2 with h2 | ⟨g, cap, cur, h1, h2, h3, h4⟩
  · exact .inl h2
  · exact .inr ⟨g, cap, cur, h1, h2, (Below.heap_setCell w a u g (hne g (by rw [h1]; rfl))).trans h3, h4⟩

section
variable {B0 b mb : Nat} {ov : OptV} {s : MS} {w w' : World}
/-- Bytes more, the row's slice stored. -/
theorem MAt.putOut (h : MAt B0 b mb ov s w) {v' : Value} {l : Ln} {W' : World} (hown : W'.ownsRow B0 5 1 v' (s.out ++ l).length (Lib.byteCells (s.out ++ l))) (hg : w.grownBy W' s.vo.ownBlock) (hv : v'.ownBlock = s.vo.ownBlock ∨ v'.ownBlock = some w.heap.size) (hl : s.out.length + l.length ≤ 67108864) :
    MAt B0 b mb ov { s with out := s.out ++ l, vo := v' } (W'.setCell ⟨b, 9, none⟩ v') ∧ Goes b mb s { s with out := s.out ++ l, vo := v' } w (W'.setCell ⟨b, 9, none⟩ v') := by
  obtain ⟨n1, n2, n3, n4⟩ := h.ne
  have hfr : ∀ k, k < w.heap.size → ¬ s.X b mb k → (W'.setCell ⟨b, 9, none⟩ v').heap[k]? = w.heap[k]? := by
    intro k hk hx
    have hkb : k ≠ b := fun e => hx (.inl e)
    have hko : some k ≠ s.vo.ownBlock := fun e => hx (.inr (.inr (.inl e.symm)))
    exact (Below.heap_setCell W' ⟨b, 9, none⟩ v' k hkb).trans (hg.block k hk hko)
  have hF : Goes b mb s { s with out := s.out ++ l, vo := v' } w (W'.setCell ⟨b, 9, none⟩ v') := by
    refine ⟨⟨hg.os, hg.tape, hg.output, by simpa [World.setCell] using hg.size, hfr⟩, fun k hk => ?_⟩
    rcases hk with hk | hk | hk | hk | hk
    · exact .inl (.inl hk)
    · exact .inl (.inr (.inl hk))
    · rcases hv with hv | hv
      · exact .inl (.inr (.inr (.inl (hv ▸ hk))))
      · right
        have : v'.ownBlock = some k := hk
        rw [hv] at this
        injection this with this
        omega
    · exact .inl (.inr (.inr (.inr (.inl hk))))
    · exact .inl (.inr (.inr (.inr (.inr hk))))
  have hvb : ∀ k, v'.ownBlock = some k → k ≠ b ∧ k ≠ mb := by
    intro k hk
    rcases hv with hv | hv
    · have := n2 k (hv ▸ hk)
      exact ⟨this.1, this.2.1⟩
    · rw [hv] at hk
      injection hk with hk
      have h1 := h.X_lt (k := b) (.inl rfl)
      have h2 := h.X_lt (k := mb) (.inr (.inl rfl))
      omega
  have hblk : Blk W' b (mCells ov mb s.vo s.col s.vs s.vp) 64 := h.blk.grown hg (fun e => (n2 b e.symm).1 rfl)
  refine ⟨{ blk := ?_, out := own_setCell hown _ _ (fun k hk => (hvb k hk).1), stk := own_setCell (own_turned h.stk hg (fun k hk e => (n2 k e.symm).2.2.1 hk)) _ _ (fun k hk => (n3 k hk).1), put := own_setCell (own_turned h.put hg (fun k hk e => (n2 k e.symm).2.2.2 hk)) _ _ (fun k hk => (n4 k hk).1), map := ?_, brk := h.brk, apart := h.apart, lowb := h.lowb, lowm := h.lowm, low := Nat.le_trans h.low (by simpa [World.setCell] using hg.size), good := fun c hc => h.good_goes hF (h.good c hc), weight := h.weight, len := ?_, col0 := h.col0, col1 := h.col1, opt := h.opt }, hF⟩
  · exact hblk.set 9 v'
  · exact (Below.heap_setCell W' ⟨b, 9, none⟩ v' mb n1.symm).trans ((hg.block mb (h.X_lt (.inr (.inl rfl))) (fun e => (n2 mb e.symm).2.1 rfl)).trans h.map)
  · show (s.out ++ l).length ≤ _
    rw [List.length_append]; exact hl
theorem own_take {W : World} {base e size n k : Nat} {A : Option Addr} {c : Nat} {xs : List Value} (h : W.ownsRow base e size (.slice A n c) n xs) (hk : k ≤ n) : W.ownsRow base e size (.slice A k c) k (xs.take (k * size)) := by
  have hx := h.1
  refine ⟨?_, ?_⟩
  · rw [List.length_take, hx]
    exact Nat.min_eq_left (Nat.mul_le_mul_right _ hk)
  · rcases h.2 with ⟨h1, h2⟩ | ⟨g, cap, cur, h1, h2, h3, h4, h5, h6, h7⟩
    · injection h1 with a1 a2 a3
      obtain rfl : k = 0 := by omega
      exact .inl ⟨by rw [a1, a3], rfl⟩
    · injection h1 with a1 a2 a3
      refine .inr ⟨g, cap, cur, by rw [a1, a3], h2, h3, by omega, h5, h6, ?_⟩
      rw [← h7, List.take_take]
      congr 1
      exact (Nat.min_eq_left (Nat.mul_le_mul_right _ hk)).symm
/-- The bytes cut at their end, the row's slice stored. -/
theorem MAt.cutOut (h : MAt B0 b mb ov s w) {A : Option Addr} {c k : Nat} (hvo : s.vo = .slice A s.out.length c) (hk : k ≤ s.out.length) (s' : MS) (hs : s' = { s with out := s.out.take k, vo := .slice A k c }) :
    MAt B0 b mb ov s' (w.setCell ⟨b, 9, none⟩ (.slice A k c)) ∧ Goes b mb s s' w (w.setCell ⟨b, 9, none⟩ (.slice A k c)) := by
  subst hs
  obtain ⟨n1, n2, n3, n4⟩ := h.ne
  have hob : (Value.slice A k c).ownBlock = s.vo.ownBlock := by rw [hvo]; cases A <;> rfl
  have hF : Goes b mb s { s with out := s.out.take k, vo := .slice A k c } w (w.setCell ⟨b, 9, none⟩ (.slice A k c)) := by
    refine ⟨⟨rfl, rfl, rfl, by simp [World.setCell], fun q hq hx => Below.heap_setCell w ⟨b, 9, none⟩ _ q (fun e => hx (.inl e))⟩, fun q hq => ?_⟩
    rcases hq with hq | hq | hq | hq | hq
    · exact .inl (.inl hq)
    · exact .inl (.inr (.inl hq))
    · exact .inl (.inr (.inr (.inl (hob ▸ hq))))
    · exact .inl (.inr (.inr (.inr (.inl hq))))
    · exact .inl (.inr (.inr (.inr (.inr hq))))
  have hown := h.out
  rw [hvo] at hown
  have ht := own_take hown hk
  have e1 : (Lib.byteCells s.out).take (k * 1) = Lib.byteCells (s.out.take k) := by unfold Lib.byteCells; rw [Nat.mul_one, List.map_take]
  rw [e1] at ht
  have hl : (s.out.take k).length = k := by rw [List.length_take]; omega
  exact ⟨{ blk := h.blk.set 9 (.slice A k c), out := own_setCell (by rw [hl]; exact ht) _ _ (fun q hq => (n2 q (hob ▸ hq)).1), stk := own_setCell h.stk _ _ (fun q hq => (n3 q hq).1), put := own_setCell h.put _ _ (fun q hq => (n4 q hq).1), map := (Below.heap_setCell w ⟨b, 9, none⟩ _ mb n1.symm).trans h.map, brk := h.brk, apart := h.apart, lowb := h.lowb, lowm := h.lowm, low := by simpa [World.setCell] using h.low, good := fun c' hc => h.good_goes hF (h.good c' hc), weight := h.weight, len := (by show (s.out.take k).length ≤ _; have := h.len; omega), col0 := h.col0, col1 := h.col1, opt := h.opt }, hF⟩
/-- The column stored. -/
theorem MAt.setCol (h : MAt B0 b mb ov s w) (c : Int) (h0 : 0 ≤ c) (h1 : c ≤ 2000000000000) :
    MAt B0 b mb ov { s with col := c } (w.setCell ⟨b, 10, none⟩ (.int .i64 c)) ∧ Goes b mb s { s with col := c } w (w.setCell ⟨b, 10, none⟩ (.int .i64 c)) := by
  obtain ⟨n1, n2, n3, n4⟩ := h.ne
  have hF : Goes b mb s { s with col := c } w (w.setCell ⟨b, 10, none⟩ (.int .i64 c)) :=
    ⟨⟨rfl, rfl, rfl, by simp [World.setCell], fun k hk hx => Below.heap_setCell w ⟨b, 10, none⟩ _ k (fun e => hx (.inl e))⟩, fun k hk => .inl hk⟩
  exact ⟨{ blk := h.blk.set 10 (.int .i64 c), out := own_setCell h.out _ _ (fun k hk => (n2 k hk).1), stk := own_setCell h.stk _ _ (fun k hk => (n3 k hk).1), put := own_setCell h.put _ _ (fun k hk => (n4 k hk).1), map := (Below.heap_setCell w ⟨b, 10, none⟩ _ mb n1.symm).trans h.map, brk := h.brk, apart := h.apart, lowb := h.lowb, lowm := h.lowm, low := by simpa [World.setCell] using h.low, good := fun c' hc => h.good_goes hF (h.good c' hc), weight := h.weight, len := h.len, col0 := h0, col1 := h1, opt := h.opt }, hF⟩
/-- Commands more on the stack, the row's slice stored. -/
theorem MAt.putStk (h : MAt B0 b mb ov s w) {v' : Value} {l : List Cm} {W' : World} (hown : W'.ownsRow B0 69 3 v' (s.stk ++ l).length (cmCells (s.stk ++ l))) (hg : w.grownBy W' s.vs.ownBlock) (hv : v'.ownBlock = s.vs.ownBlock ∨ ∃ g, v'.ownBlock = some g ∧ w.heap.size ≤ g)
    (hgood : ∀ c ∈ l, Good w B0 (s.F b mb w) c) (hw : { s with stk := s.stk ++ l, vs := v' }.weight ≤ 16777216) :
    MAt B0 b mb ov { s with stk := s.stk ++ l, vs := v' } (W'.setCell ⟨b, 11, none⟩ v') ∧ Goes b mb s { s with stk := s.stk ++ l, vs := v' } w (W'.setCell ⟨b, 11, none⟩ v') := by
  obtain ⟨n1, n2, n3, n4⟩ := h.ne
  have hfr : ∀ k, k < w.heap.size → ¬ s.X b mb k → (W'.setCell ⟨b, 11, none⟩ v').heap[k]? = w.heap[k]? := by
    intro k hk hx
    have hkb : k ≠ b := fun e => hx (.inl e)
    have hko : some k ≠ s.vs.ownBlock := fun e => hx (.inr (.inr (.inr (.inl e.symm))))
    exact (Below.heap_setCell W' ⟨b, 11, none⟩ v' k hkb).trans (hg.block k hk hko)
  have hF : Goes b mb s { s with stk := s.stk ++ l, vs := v' } w (W'.setCell ⟨b, 11, none⟩ v') := by
    refine ⟨⟨hg.os, hg.tape, hg.output, by simpa [World.setCell] using hg.size, hfr⟩, fun k hk => ?_⟩
    rcases hk with hk | hk | hk | hk | hk
    · exact .inl (.inl hk)
    · exact .inl (.inr (.inl hk))
    · exact .inl (.inr (.inr (.inl hk)))
    · rcases hv with hv | ⟨g, hv, hge⟩
      · exact .inl (.inr (.inr (.inr (.inl (hv ▸ hk)))))
      · right
        have : v'.ownBlock = some k := hk
        rw [hv] at this
        injection this with this
        omega
    · exact .inl (.inr (.inr (.inr (.inr hk))))
  have hlt := fun k (hk : s.X b mb k) => h.X_lt hk
  have hvb : ∀ k, v'.ownBlock = some k → k ≠ b ∧ k ≠ mb ∧ s.vo.ownBlock ≠ some k ∧ s.vp.ownBlock ≠ some k := by
    intro k hk
    rcases hv with hv | ⟨g, hv, hge⟩
    · have hk' := hv ▸ hk
      have := n3 k hk'
      exact ⟨this.1, this.2, fun e => (n2 k e).2.2.1 hk', h.apart k hk'⟩
    · rw [hv] at hk
      injection hk with hk
      refine ⟨fun e => ?_, fun e => ?_, fun e => ?_, fun e => ?_⟩
      · have := hlt b (.inl rfl); omega
      · have := hlt mb (.inr (.inl rfl)); omega
      · have := hlt k (.inr (.inr (.inl e))); omega
      · have := hlt k (.inr (.inr (.inr (.inr e)))); omega
  have hblk : Blk W' b (mCells ov mb s.vo s.col s.vs s.vp) 64 := h.blk.grown hg (fun e => (n3 b e.symm).1 rfl)
  refine ⟨{ blk := hblk.set 11 v', out := own_setCell (own_turned h.out hg (fun k hk e => (n2 k hk).2.2.1 e.symm)) _ _ (fun k hk => (n2 k hk).1), stk := own_setCell hown _ _ (fun k hk => (hvb k hk).1), put := own_setCell (own_turned h.put hg (fun k hk e => h.apart k e.symm hk)) _ _ (fun k hk => (n4 k hk).1), map := (Below.heap_setCell W' ⟨b, 11, none⟩ v' mb n1.symm).trans ((hg.block mb (hlt mb (.inr (.inl rfl))) (fun e => (n3 mb e.symm).2 rfl)).trans h.map), brk := h.brk, apart := fun k hk => (hvb k hk).2.2.2, lowb := h.lowb, lowm := h.lowm, low := Nat.le_trans h.low (by simpa [World.setCell] using hg.size), good := fun c hc => ?_, weight := hw, len := h.len, col0 := h.col0, col1 := h.col1, opt := h.opt }, hF⟩
  simp only [List.mem_append] at hc
  rcases hc with (hc | hc) | hc
  · exact h.good_goes hF (h.good c (List.mem_append_left _ hc))
  · exact h.good_goes hF (hgood c hc)
  · exact h.good_goes hF (h.good c (List.mem_append_right _ hc))
/-- One suffix more, the row's slice stored. -/
theorem MAt.putPut (h : MAt B0 b mb ov s w) {v' : Value} {l : List Cm} {W' : World} (hown : W'.ownsRow B0 69 3 v' (s.put ++ l).length (cmCells (s.put ++ l))) (hg : w.grownBy W' s.vp.ownBlock) (hv : v'.ownBlock = s.vp.ownBlock ∨ ∃ g, v'.ownBlock = some g ∧ w.heap.size ≤ g)
    (hgood : ∀ c ∈ l, Good w B0 (s.F b mb w) c) (hw : { s with put := s.put ++ l, vp := v' }.weight ≤ 16777216) :
    MAt B0 b mb ov { s with put := s.put ++ l, vp := v' } (W'.setCell ⟨b, 12, none⟩ v') ∧ Goes b mb s { s with put := s.put ++ l, vp := v' } w (W'.setCell ⟨b, 12, none⟩ v') := by
  obtain ⟨n1, n2, n3, n4⟩ := h.ne
  have hfr : ∀ k, k < w.heap.size → ¬ s.X b mb k → (W'.setCell ⟨b, 12, none⟩ v').heap[k]? = w.heap[k]? := by
    intro k hk hx
    have hkb : k ≠ b := fun e => hx (.inl e)
    have hko : some k ≠ s.vp.ownBlock := fun e => hx (.inr (.inr (.inr (.inr e.symm))))
    exact (Below.heap_setCell W' ⟨b, 12, none⟩ v' k hkb).trans (hg.block k hk hko)
  have hF : Goes b mb s { s with put := s.put ++ l, vp := v' } w (W'.setCell ⟨b, 12, none⟩ v') := by
    refine ⟨⟨hg.os, hg.tape, hg.output, by simpa [World.setCell] using hg.size, hfr⟩, fun k hk => ?_⟩
    rcases hk with hk | hk | hk | hk | hk
    · exact .inl (.inl hk)
    · exact .inl (.inr (.inl hk))
    · exact .inl (.inr (.inr (.inl hk)))
    · exact .inl (.inr (.inr (.inr (.inl hk))))
    · rcases hv with hv | ⟨g, hv, hge⟩
      · exact .inl (.inr (.inr (.inr (.inr (hv ▸ hk)))))
      · right
        have : v'.ownBlock = some k := hk
        rw [hv] at this
        injection this with this
        omega
  have hlt := fun k (hk : s.X b mb k) => h.X_lt hk
  have hvb : ∀ k, v'.ownBlock = some k → k ≠ b ∧ k ≠ mb ∧ s.vo.ownBlock ≠ some k ∧ s.vs.ownBlock ≠ some k := by
    intro k hk
    rcases hv with hv | ⟨g, hv, hge⟩
    · have hk' := hv ▸ hk
      have := n4 k hk'
      exact ⟨this.1, this.2, fun e => (n2 k e).2.2.2 hk', fun e => h.apart k e hk'⟩
    · rw [hv] at hk
      injection hk with hk
      refine ⟨fun e => ?_, fun e => ?_, fun e => ?_, fun e => ?_⟩
      · have := hlt b (.inl rfl); omega
      · have := hlt mb (.inr (.inl rfl)); omega
      · have := hlt k (.inr (.inr (.inl e))); omega
      · have := hlt k (.inr (.inr (.inr (.inl e)))); omega
  have hblk : Blk W' b (mCells ov mb s.vo s.col s.vs s.vp) 64 := h.blk.grown hg (fun e => (n4 b e.symm).1 rfl)
  refine ⟨{ blk := hblk.set 12 v', out := own_setCell (own_turned h.out hg (fun k hk e => (n2 k hk).2.2.2 e.symm)) _ _ (fun k hk => (n2 k hk).1), stk := own_setCell (own_turned h.stk hg (fun k hk e => h.apart k hk e.symm)) _ _ (fun k hk => (n3 k hk).1), put := own_setCell hown _ _ (fun k hk => (hvb k hk).1), map := (Below.heap_setCell W' ⟨b, 12, none⟩ v' mb n1.symm).trans ((hg.block mb (hlt mb (.inr (.inl rfl))) (fun e => (n4 mb e.symm).2 rfl)).trans h.map), brk := h.brk, apart := fun k hk e => (hvb k e).2.2.2 hk, lowb := h.lowb, lowm := h.lowm, low := Nat.le_trans h.low (by simpa [World.setCell] using hg.size), good := fun c hc => ?_, weight := hw, len := h.len, col0 := h.col0, col1 := h.col1, opt := h.opt }, hF⟩
  simp only [List.mem_append] at hc
  rcases hc with hc | hc | hc
  · exact h.good_goes hF (h.good c (List.mem_append_left _ hc))
  · exact h.good_goes hF (h.good c (List.mem_append_right _ hc))
  · exact h.good_goes hF (hgood c hc)
/-- No suffix any more. -/
theorem MAt.noPut (h : MAt B0 b mb ov s w) (s' : MS) (hs : s' = { s with put := [], vp := .slice none 0 0 }) :
    MAt B0 b mb ov s' (w.setCell ⟨b, 12, none⟩ (.slice none 0 0)) ∧ Goes b mb s s' w (w.setCell ⟨b, 12, none⟩ (.slice none 0 0)) := by
  subst hs
  obtain ⟨n1, n2, n3, n4⟩ := h.ne
  have hF : Goes b mb s { s with put := [], vp := .slice none 0 0 } w (w.setCell ⟨b, 12, none⟩ (.slice none 0 0)) := by
    refine ⟨⟨rfl, rfl, rfl, by simp [World.setCell], fun k hk hx => Below.heap_setCell w ⟨b, 12, none⟩ _ k (fun e => hx (.inl e))⟩, fun k hk => ?_⟩
    rcases hk with hk | hk | hk | hk | hk
    · exact .inl (.inl hk)
    · exact .inl (.inr (.inl hk))
    · exact .inl (.inr (.inr (.inl hk)))
    · exact .inl (.inr (.inr (.inr (.inl hk))))
    · cases hk
  refine ⟨{ blk := h.blk.set 12 (.slice none 0 0), out := own_setCell h.out _ _ (fun k hk => (n2 k hk).1), stk := own_setCell h.stk _ _ (fun k hk => (n3 k hk).1), put := World.ownsRow_nil _ _ _ _, map := (Below.heap_setCell w ⟨b, 12, none⟩ _ mb n1.symm).trans h.map, brk := h.brk, apart := fun k hk e => (by cases e), lowb := h.lowb, lowm := h.lowm, low := by simpa [World.setCell] using h.low, good := fun c hc => h.good_goes hF (h.good c (List.mem_append_left _ (by simpa using hc))), weight := ?_, len := h.len, col0 := h.col0, col1 := h.col1, opt := h.opt }, hF⟩
  have := h.weight
  unfold MS.weight at *
  simp only [List.map_nil, List.sum_nil]
  omega
end
end

section
open Go.RowKit
set_option maxRecDepth 100000
set_option linter.unusedVariables false
set_option linter.unusedSimpArgs false

theorem own_slice {w : World} {base e size n : Nat} {v : Value} {xs : List Value} (h : w.ownsRow base e size v n xs) : ∃ A c, v = .slice A n c := by
  rcases h.2 with ⟨rfl, rfl⟩ | ⟨g, cap, cur, rfl, _⟩
  · exact ⟨_, _, rfl⟩
  · exact ⟨_, _, rfl⟩
theorem strCells_bytes (s : ByteArray) : Lib.strCells s = Lib.byteCells s.data.toList := rfl
theorem bc_app (l m : Ln) : Lib.byteCells (l ++ m) = Lib.byteCells l ++ Lib.byteCells m := by simp [Lib.byteCells]

set_option maxHeartbeats 4000000 in
theorem write_is {B0 b mb : Nat} {ov : OptV} {s : MS} {w : World} (h : MAt B0 b mb ov s w) (t : ByteArray) (ht : t.size ≤ 1099511627776) :
    Calls Tryd.prog 46 #[.pointer (some ⟨b, 0, none⟩), .string t] w fun e w' => Ends B0 b mb ov s w (putM s.mach t.data.toList) e w' := by
  obtain ⟨c0, c1, c2, c9, c10, c11, c12, c13, c14⟩ := h.cells
  clear c0 c1 c2 c10 c11 c12 c13 c14
  have f9 := h.blk.frozen 9
  have hlen := h.len
  have hlow := h.low
  have hsz : t.data.toList.length = t.size := by simp
  obtain ⟨A, c, hvo⟩ := own_slice h.out
  have hne : s.vo.ownBlock ≠ some b := fun e => (h.ne.2.1 b e).1 rfl
  have HNE := Lib.hid hne
  have hlt := h.blk.lt
  have H := Lib.hid h
  have HP : Hid (∀ v' W', W'.ownsRow B0 5 1 v' (s.out.length + t.size) (Lib.byteCells s.out ++ Lib.strCells t) → w.grownBy W' s.vo.ownBlock → (v'.ownBlock = s.vo.ownBlock ∨ v'.ownBlock = some w.heap.size) → s.out.length + t.size ≤ 67108864 →
      Ends B0 b mb ov s w (putM s.mach t.data.toList) (.returned (.tuple #[])) (W'.setCell ⟨b, 9, none⟩ v')) := Lib.hid (by
    intro v' W' ho hg hv hl
    have e1 : putM s.mach t.data.toList = some { s.mach with out := s.out ++ t.data.toList } := by
      unfold putM
      rw [if_neg (by rw [hsz]; show ¬ (67108864 < s.out.length + t.size); omega)]
      rfl
    rw [e1]
    have := h.putOut (v' := v') (l := t.data.toList) (W' := W') (by rw [List.length_append, hsz, bc_app, ← strCells_bytes]; exact ho) hg hv (by rw [hsz]; exact hl)
    exact ⟨rfl, _, rfl, this.1, this.2⟩)
  have hown := Lib.hid h.out
  rw [hvo] at c9 hown HP HNE
  clear h hne
  by_cases hbig : 67108864 < s.out.length + t.size
  · have hbig' : (67108864 : Int) < (s.out.length : Int) + (t.size : Int) := by omega
    have HE : Hid (putM s.mach t.data.toList = none) := Lib.hid (by unfold putM; rw [if_pos (by rw [hsz]; exact hbig)])
    clear hbig
    go_enter Tryd.func46, Tryd.ntmps46
    go_wp2_with fail
    refine ⟨rfl, ?_⟩
    rw [HE.out]
    exact ⟨rfl, Frame.refl _ _⟩
  · have hbig' : ¬ (67108864 : Int) < (s.out.length : Int) + (t.size : Int) := by omega
    clear hbig
    go_enter Tryd.func46, Tryd.ntmps46
    go_wp2_with (at_builtin; refine wpList_append_str_at _ rfl (.tmp 19) (.tmp 20) 35 9 5 rfl byteE Tryd.underlying9 B0 (.slice A s.out.length c) s.out.length (Lib.byteCells s.out) rfl hown.out t rfl (by unfold maxLen; omega) (by omega) hlow ?_; intro v' W' ho' hg' hv'; obtain ⟨A', c', rfl⟩ := own_slice ho'; have HO := Lib.hid ho'; have HG := Lib.hid hg'; have HV := Lib.hid hv'; have cw := (hg'.cell_far ⟨b, 9, none⟩ hlt (Ne.symm HNE.out)).trans c9; have fw := (hg'.frozen_far ⟨b, 9, none⟩ hlt (Ne.symm HNE.out)).trans f9; clear ho' hg' hv')
    go_end0
    exact HP.out _ _ HO.out HG.out HV.out (by omega)
end

section
set_option linter.unusedVariables false

section
variable {P : Program} {md : Region.Mode}
/-- What is asked where all but the last operation have come up. -/
def sinkQ (P : Program) (o : Oper) (Q : Exit → Act → World → Prop) : Exit → Act → World → Prop
  | .normal, a, w => o.wp P a w (Q .normal) Q
  | .ret, a, w => Q .ret a w
  | .exit c, a, w => Q (.exit c) a w
  | .goto t, a, w => Q (.goto t) a w
  | .panic c, a, w => Q (.panic c) a w
  | .outgrown, a, w => Q .outgrown a w
theorem letsOut_sink {o : Oper} {Q : Exit → Act → World → Prop} : LetsOut (sinkQ P o Q) = LetsOut Q := rfl
theorem Oper.wp_sink {o oi : Oper} {Q : Exit → Act → World → Prop} {K : Act → World → Prop} {a : Act} {w : World} : oi.wp P a w K (sinkQ P o Q) = oi.wp P a w K Q := by
  unfold Oper.wp
  generalize (execOp a.eval oi).run P w = r
  cases r with
  | ok n w' =>
    cases n <;> rfl
  | halt x w' => cases x <;> rfl

theorem push_get {init : Array Oper} {o : Oper} {j : Nat} (hj : j < init.size) : (init.push o)[j]? = init[j]? := by
  rw [Array.getElem?_push, if_neg (by omega)]
theorem push_last {init : Array Oper} {o : Oper} : (init.push o)[init.size]? = some o := by simp
theorem yielded_push {init : Array Oper} {o : Oper} (hd : o.dst = none) (t : Array Value) : yielded (init.push o) t = yielded init t := by
  funext j
  unfold yielded
  rcases Nat.lt_trichotomy j init.size with h | h | h
  · rw [push_get h]
  · subst h
    rw [push_last]
    simp [hd]
  · rw [Array.getElem?_eq_none (by simp; omega), Array.getElem?_eq_none (by omega)]

theorem getD_push_lt {l : Array Bool} {j : Nat} {d : Bool} (h : j < l.size) (b : Bool) : (l.push b).getD j d = l.getD j d := by
  simp [Array.getD, h, Nat.lt_succ_of_lt h, Array.getElem_push_lt]
theorem getD_push_last {l : Array Bool} {d b : Bool} : (l.push b).getD l.size d = b := by simp [Array.getD]

/-- THE LAST OPERATION OF A REGION, which all others come ahead of. -/
theorem wpAny_sink {init : Array Oper} {o : Oper} {Q : Exit → Act → World → Prop} (hd : o.dst = none) (hg : o.guard = none)
    (h1 : ∀ i oi, init[i]? = some oi → ∀ e ∈ oi.after, Region.binds md e = true → e.on < i)
    (h2 : ∀ j, j < init.size → ∃ e ∈ o.after, Region.binds md e = true ∧ e.on = j)
    (h3 : ∀ e ∈ o.after, Region.binds md e = true → e.on < init.size) :
    ∀ (fuel : Nat) (listed : Array Bool) (a : Act) (w : World), listed.size = init.size → wpAny P md init (sinkQ P o Q) fuel listed a w → wpAny P md (init.push o) Q (fuel + 1) (listed.push false) a w := by
  have hw : ∀ ops t, Region.wanted o (yielded ops t) = true := fun ops t => by simp [Region.wanted, hg]
  -- nothing is ready: all are listed
  have hall : ∀ listed : Array Bool, listed.size = init.size → Region.ready md init listed = [] → ∀ j, j < init.size → listed.getD j true = true := by
    intro listed hs hr
    intro j
    induction j using Nat.strongRecOn with
    | ind j ih =>
      intro hj
      cases hb : listed.getD j true with
      | true => rfl
      | false =>
        exfalso
        have : j ∈ Region.ready md init listed := mem_ready.2 ⟨hb, init[j], by simp [hj], fun e he hbd => by
          have hlt := h1 j init[j] (by simp [hj]) e he hbd
          have := ih e.on hlt (by omega)
          have hl : e.on < listed.size := by omega
          simp [Array.getD, hl] at this ⊢
          exact this⟩
        rw [hr] at this
        cases this
  have tf : ∀ (listed : Array Bool) (j : Nat), j < listed.size → (listed.getD j true = true ↔ listed.getD j false = true) := fun listed j hj => by simp [Array.getD, hj]
  -- the last is ready just where all are listed
  have hlast : ∀ listed : Array Bool, listed.size = init.size → init.size ∈ Region.ready md (init.push o) (listed.push false) → Region.ready md init listed = [] := by
    intro listed hs hm
    obtain ⟨_, o', ho', hall'⟩ := mem_ready.1 hm
    rw [push_last] at ho'
    cases ho'
    rw [List.eq_nil_iff_forall_not_mem]
    intro j hj
    obtain ⟨hu, oj, hoj, _⟩ := mem_ready.1 hj
    have hjl := (Array.getElem?_eq_some_iff.1 hoj).1
    obtain ⟨e, he, hb, hon⟩ := h2 j hjl
    have := hall' e he hb
    rw [hon, getD_push_lt (by omega)] at this
    rw [(tf listed j (by omega)).2 this] at hu
    cases hu
  have hlast' : ∀ listed : Array Bool, listed.size = init.size → Region.ready md init listed = [] → init.size ∈ Region.ready md (init.push o) (listed.push false) := by
    intro listed hs hr
    refine mem_ready.2 ⟨by rw [← hs]; exact getD_push_last, o, push_last, fun e he hb => ?_⟩
    have hlt := h3 e he hb
    rw [getD_push_lt (by omega)]
    exact (tf listed _ (by omega)).1 (hall listed hs hr _ hlt)
  have hother : ∀ (listed : Array Bool) (j : Nat), listed.size = init.size → j ≠ init.size → j ∈ Region.ready md (init.push o) (listed.push false) → j ∈ Region.ready md init listed := by
    intro listed j hs hne hm
    obtain ⟨hu, oj, hoj, hall'⟩ := mem_ready.1 hm
    have hjl : j < init.size := by
      have := (Array.getElem?_eq_some_iff.1 hoj).1
      simp at this
      omega
    rw [push_get hjl] at hoj
    rw [getD_push_lt (by omega)] at hu
    refine mem_ready.2 ⟨hu, oj, hoj, fun e he hb => ?_⟩
    have := hall' e he hb
    have hlt := h1 j oj hoj e he hb
    rwa [getD_push_lt (by omega)] at this
  have hend : ∀ (fuel : Nat) (listed : Array Bool) (a : Act) (w : World), listed.size = init.size → Region.ready md init listed = [] → Q .normal a w → wpAny P md (init.push o) Q fuel ((listed.push false).setIfInBounds init.size true) a w := by
    intro fuel listed a w hs hr hq
    have hr2 : Region.ready md (init.push o) ((listed.push false).setIfInBounds init.size true) = [] := by
      rw [List.eq_nil_iff_forall_not_mem]
      intro j hj
      obtain ⟨hu, oj, hoj, _⟩ := mem_ready.1 hj
      by_cases hjn : j = init.size
      · subst hjn
        simp [Array.getD, hs] at hu
      · have hjl : j < init.size := by
          have := (Array.getElem?_eq_some_iff.1 hoj).1
          simp at this
          omega
        rw [getD_set_ne true (Ne.symm hjn), getD_push_lt (by omega), hall listed hs hr j hjl] at hu
        cases hu
    cases fuel with
    | zero => exact ⟨hr2, hq⟩
    | succ fuel => exact ⟨fun _ => hq, by rw [hr2]; simp⟩
  have hlastOp : ∀ (fuel : Nat) (listed : Array Bool) (a : Act) (w : World), listed.size = init.size → Region.ready md init listed = [] → sinkQ P o Q .normal a w →
      wpOp P (init.push o) Q init.size (wpAny P md (init.push o) Q fuel ((listed.push false).setIfInBounds init.size true)) a w := by
    intro fuel listed a w hs hr hq
    unfold wpOp
    rw [push_last]
    simp only [hw, if_true]
    exact .inl (Oper.wp_mono (fun a' w' h => hend fuel listed a' w' hs hr h) hq)
  intro fuel
  induction fuel with
  | zero =>
    intro listed a w hs ⟨hr, hq⟩
    refine ⟨fun h => (by have := hlast' listed hs hr; rw [h] at this; cases this), fun i hi => ?_⟩
    by_cases hin : i = init.size
    · subst hin
      exact hlastOp 0 listed a w hs hr hq
    · have := hother listed i hs hin hi
      rw [hr] at this
      cases this
  | succ fuel ih =>
    intro listed a w hs ⟨hr0, hstep⟩
    refine ⟨fun h => ?_, fun i hi => ?_⟩
    · exfalso
      cases hr : Region.ready md init listed with
      | nil => have := hlast' listed hs hr; rw [h] at this; cases this
      | cons j rest =>
        have hj : j ∈ Region.ready md init listed := by rw [hr]; exact List.mem_cons_self
        obtain ⟨hu, oj, hoj, hall'⟩ := mem_ready.1 hj
        have hjl := (Array.getElem?_eq_some_iff.1 hoj).1
        have : j ∈ Region.ready md (init.push o) (listed.push false) := mem_ready.2 ⟨by rw [getD_push_lt (by omega)]; exact hu, oj, by rw [push_get hjl]; exact hoj, fun e he hb => by
          have hlt := h1 j oj hoj e he hb
          rw [getD_push_lt (by omega)]
          exact hall' e he hb⟩
        rw [h] at this
        cases this
    · by_cases hin : i = init.size
      · subst hin
        have hr := hlast listed hs hi
        exact hlastOp (fuel + 1) listed a w hs hr (hr0 hr)
      · have hm := hother listed i hs hin hi
        have hst := hstep i hm
        obtain ⟨_, oi, hoi, _⟩ := mem_ready.1 hm
        have hil := (Array.getElem?_eq_some_iff.1 hoi).1
        unfold wpOp at hst ⊢
        rw [push_get hil, hoi]
        rw [hoi] at hst
        simp only [yielded_push hd] at hst ⊢
        have hset : (listed.push false).setIfInBounds i true = (listed.setIfInBounds i true).push false := by
          refine Array.ext_getElem? fun k => ?_
          by_cases hk : k = listed.size
          · subst hk
            have e1 : ((listed.push false).setIfInBounds i true)[listed.size]? = some false := by
              rw [Array.getElem?_setIfInBounds_ne (by omega)]
              exact Array.getElem?_push_size
            have hs' : (listed.setIfInBounds i true).size = listed.size := by simp
            have e2 : ((listed.setIfInBounds i true).push false)[(listed.setIfInBounds i true).size]? = some false := Array.getElem?_push_size
            rw [hs'] at e2
            rw [e1, e2]
          · simp [Array.getElem?_setIfInBounds, Array.getElem?_push, hk]
            by_cases hki : i = k
            · subst hki; simp [show i < listed.size by omega, show i < listed.size + 1 by omega]
            · simp [hki]
        rw [hset]
        have hmono : ∀ a' w', wpAny P md init (sinkQ P o Q) fuel (listed.setIfInBounds i true) a' w' → wpAny P md (init.push o) Q (fuel + 1) ((listed.setIfInBounds i true).push false) a' w' := fun a' w' h => ih _ a' w' (by simpa using hs) h
        split
        · rename_i hwt
          simp only [hwt, if_true] at hst
          rcases hst with hst | ⟨ha, hl⟩
          · exact .inl (Oper.wp_mono hmono (by rw [Oper.wp_sink] at hst; exact hst))
          · exact .inr ⟨ha, by rwa [letsOut_sink] at hl⟩
        · rename_i hwt
          simp only [hwt] at hst
          exact hmono _ _ hst

/-! ### The loads ahead, the chain behind them -/
variable {ops : Array Oper} {S : World → Prop} {Q : Exit → Act → World → Prop}
/-- Operations that yield one value in every world that meets S, in the order of the text. -/
def wpHeld (P : Program) (ops : Array Oper) (S : World → Prop) (K : Act → Prop) : List Oper → Act → Prop
  | [], a => K a
  | o :: rest, a => ∃ v, YieldsIf P ops S o v a ∧ wpHeld P ops S K rest (a.put o.dst v)
/-- Operations one behind the other, S holding behind each. -/
def wpSeq (P : Program) (ops : Array Oper) (S : World → Prop) (Q : Exit → Act → World → Prop) : List Oper → Act → World → Prop
  | [], a, w => Q .normal a w
  | o :: rest, a, w => if Region.wanted o (yielded ops a.tmps) = true then o.wp P a w (fun a' w' => S w' ∧ wpSeq P ops S Q rest a' w') Q else S w ∧ wpSeq P ops S Q rest (a.put o.dst undef) w
def lexTail (md : Region.Mode) (ops : Array Oper) : Nat → Nat → Array Bool → Bool
  | 0, _, listed => (Region.ready md ops listed).isEmpty
  | m + 1, k, listed => Region.ready md ops listed == [k] && lexTail md ops m (k + 1) (listed.setIfInBounds k true)
def lexHead (md : Region.Mode) (ops : Array Oper) (m : Nat) : Nat → Nat → Array Bool → Bool
  | 0, k, listed => lexTail md ops m k listed
  | n + 1, k, listed => (Region.ready md ops listed).contains k && Region.free md ops listed k && lexHead md ops m n (k + 1) (listed.setIfInBounds k true)

theorem wpAnyH_seq : ∀ (l : List Oper) (k : Nat) (listed : Array Bool) (a : Act) (w : World), (∀ j, l[j]? = ops[k + j]?) → lexTail md ops l.length k listed = true → wpSeq P ops S Q l a w → wpAnyH P md ops Q S l.length listed a w
  | [], k, listed, a, w, _, hB, h => ⟨by simpa [lexTail] using hB, h⟩
  | o :: l, k, listed, a, w, hl, hB, h => by
    have h0 : ops[k]? = some o := by simpa using (hl 0).symm
    simp only [List.length_cons, lexTail, Bool.and_eq_true, beq_iff_eq] at hB
    obtain ⟨hr, hB'⟩ := hB
    have hl' : ∀ j, l[j]? = ops[k + 1 + j]? := fun j => by have := hl (j + 1); simpa [Nat.add_assoc, Nat.add_comm 1 j] using this
    refine wpAnyH_all (rs := [k]) hr (by simp) fun i hi => ?_
    obtain rfl : i = k := by simpa using hi
    unfold wpOp
    simp only [h0]
    unfold wpSeq at h
    split
    · rename_i hw
      rw [if_pos hw] at h
      exact .inl (Oper.wp_mono (fun a' w' hh => ⟨hh.1, wpAnyH_seq l (i + 1) _ a' w' hl' hB' hh.2⟩) h)
    · rename_i hw
      rw [if_neg hw] at h
      exact ⟨h.1, wpAnyH_seq l (i + 1) _ _ w hl' hB' h.2⟩
theorem wpAnyH_held (hs : Region.noSelect ops = true) (hQ : ∀ c a d v w, Q (.panic c) (Act.put a d v) w → Q (.panic c) a w) (tl : List Oper) (w : World) (hS : S w) :
    ∀ (l : List Oper) (k : Nat) (listed : Array Bool) (a : Act), (∀ j, j < l.length → l[j]? = ops[k + j]?) → (∀ j, tl[j]? = ops[k + l.length + j]?) → lexHead md ops tl.length l.length k listed = true →
      wpHeld P ops S (fun a' => wpSeq P ops S Q tl a' w) l a → wpAnyH P md ops Q S (l.length + tl.length) listed a w
  | [], k, listed, a, _, ht, hB, h => by
    simp only [List.length_nil, Nat.zero_add]
    exact wpAnyH_seq tl k listed a w (by simpa using ht) (by simpa [lexHead] using hB) h
  | o :: l, k, listed, a, hl, ht, hB, h => by
    have h0 : ops[k]? = some o := by simpa using (hl 0 (by simp)).symm
    simp only [List.length_cons, lexHead, Bool.and_eq_true] at hB
    obtain ⟨⟨hr, hf⟩, hB'⟩ := hB
    obtain ⟨v, hy, hK⟩ := h
    rw [List.length_cons, show l.length + 1 + tl.length = (l.length + tl.length) + 1 by omega]
    refine wpAnyH_take (i := k) (oi := o) (v := v) h0 hs hf hr (fun c a w hh => hQ c a _ _ w hh) hy hS ?_
    exact wpAnyH_held hs hQ tl w hS l (k + 1) _ _ (fun j hj => by have := hl (j + 1) (by simpa using hj); simpa [Nat.add_assoc, Nat.add_comm 1 j] using this)
      (fun j => by have := ht j; simpa [Nat.add_assoc, Nat.add_comm 1, Nat.add_left_comm] using this) hB' hK

/-- One load, what follows behind a variable. -/
theorem wpHeld_step {K : Act → Prop} {a : Act} {o : Oper} {rest : List Oper} (hg : o.guard = none) (h : ∃ v, (∀ w, S w → (execOp a.eval o).run P w = .ok (.value v) w) ∧ wpHeld P ops S K rest (a.put o.dst v)) : wpHeld P ops S K (o :: rest) a := by
  obtain ⟨v, hy, h⟩ := h
  exact ⟨v, .inl ⟨by simp [Region.wanted, hg], hy⟩, h⟩
theorem wpSeq_step {a : Act} {w : World} {o : Oper} {rest : List Oper} (hg : o.guard = none) (h : ∀ K : Act → World → Prop, (∀ a' w', S w' → wpSeq P ops S Q rest a' w' → K a' w') → o.wp P a w K Q) : wpSeq P ops S Q (o :: rest) a w := by
  unfold wpSeq
  rw [if_pos (by simp [Region.wanted, hg])]
  exact h _ fun _ _ h1 h2 => ⟨h1, h2⟩

def sinkB (md : Region.Mode) (init : Array Oper) (o : Oper) : Bool :=
  o.dst.isNone && o.guard.isNone && (List.range init.size).all (fun j => o.after.any fun e => Region.binds md e && e.on == j) && o.after.all (fun e => !Region.binds md e || decide (e.on < init.size)) &&
    (List.range init.size).all (fun i => (init[i]?).all fun oi => oi.after.all fun e => !Region.binds md e || decide (e.on < i))
/-- THE REGION: n loads ahead, then a chain, the store at its end. -/
theorem wp_region_chain {id : Nat} {a : Act} {w : World} {l : List Oper} (S : World → Prop) (n m : Nat) (o : Oper) (hm : P.follows .mixedOrders = true)
    (hlast : l.drop (n + m) = [o]) (hk : sinkB .any (l.take n ++ (l.drop n).take m).toArray o = true)
    (hB : (Region.noSelect (l.take n ++ (l.drop n).take m).toArray && lexHead .any (l.take n ++ (l.drop n).take m).toArray m n 0 (Array.replicate (n + m) false)) = true) 
    (hQ : ∀ c a d v w, Q (.panic c) (Act.put a d v) w → Q (.panic c) a w) (hS : S w.drew)
    (h : wpHeld P (l.take n ++ (l.drop n).take m).toArray S (fun a' => wpSeq P (l.take n ++ (l.drop n).take m).toArray S (sinkQ P o Q) ((l.drop n).take m) a' w.drew) (l.take n) a) : (Code.region id l.toArray true).wp P Q a w := by
  have hnm : n + m + 1 = l.length := by
    have := congrArg List.length hlast
    rw [List.length_drop, List.length_singleton] at this
    omega
  have hl : l = l.take n ++ (l.drop n).take m ++ [o] := by
    have e1 := List.take_append_drop n l
    have e2 := List.take_append_drop m (l.drop n)
    rw [List.drop_drop, hlast] at e2
    rw [List.append_assoc, e2, e1]
  clear hlast
  generalize hhd : l.take n = hd at *
  generalize htl : (l.drop n).take m = tl at *
  have l1 : hd.length = n := by rw [← hhd, List.length_take]; omega
  have l2 : tl.length = m := by rw [← htl, List.length_take, List.length_drop]; omega
  subst hl
  simp only [sinkB, Bool.and_eq_true, List.all_eq_true, List.mem_range, Option.isNone_iff_eq_none] at hk
  obtain ⟨⟨⟨⟨k1, k2⟩, k3⟩, k4⟩, k5⟩ := hk
  rw [Bool.and_eq_true] at hB
  refine wp_region_any hm ?_
  have hops : (hd ++ tl ++ [o]).toArray = (hd ++ tl).toArray.push o := by simp
  rw [hops]
  have hsz : ((hd ++ tl).toArray.push o).size = (n + m) + 1 := by simp; omega
  rw [hsz]
  have hrep : Array.replicate (n + m + 1) false = (Array.replicate (n + m) false).push false := by rw [Array.replicate_succ]
  rw [hrep]
  have hfin : ∀ e ∈ o.after, Region.binds .any e = true → e.on < (hd ++ tl).toArray.size := fun e he hb => by
    have := Array.all_eq_true_iff_forall_mem.1 k4 e he
    simpa [hb] using this
  refine wpAny_sink k1 k2 (fun i oi hoi e he hb => ?_) (fun j hj => ?_) hfin (n + m) _ a _ (by simp; omega) ?_
  · have := k5 i (Array.getElem?_eq_some_iff.1 hoi).1
    rw [hoi] at this
    have := Array.all_eq_true_iff_forall_mem.1 this e he
    simpa [hb] using this
  · obtain ⟨e, he, hh⟩ := Array.any_eq_true'.1 (k3 j hj)
    simp only [Bool.and_eq_true, beq_iff_eq] at hh
    exact ⟨e, he, hh.1, hh.2⟩
  · refine wpAny_of_held (S := S) _ _ _ _ ?_
    have := wpAnyH_held (P := P) (md := .any) (ops := (hd ++ tl).toArray) (S := S) (Q := sinkQ P o Q) hB.1 (fun c a d v w hh => hQ c a d v w hh) tl w.drew hS hd 0 (Array.replicate (n + m) false) a
      (fun j hj => by simp [List.getElem?_append_left hj]) (fun j => by simp only [Nat.zero_add, List.getElem?_toArray]; rw [List.getElem?_append_right (by omega), Nat.add_sub_cancel_left]) (by rw [l1, l2]; exact hB.2) h
    rwa [l1, l2] at this
end
end

section
set_option linter.unusedVariables false

section
variable {P : Program} {md : Region.Mode}
/-- What is listed is listed with all that it waits for. -/
def ClosedL (md : Region.Mode) (init : Array Oper) (listed : Array Bool) : Prop := ∀ i oi, init[i]? = some oi → listed.getD i false = true → ∀ e ∈ oi.after, Region.binds md e = true → listed.getD e.on false = true
theorem closed_none {init : Array Oper} {n : Nat} : ClosedL md init (Array.replicate n false) := by
  intro i oi _ h
  by_cases hn : i < n <;> simp [Array.getD, hn] at h
/-- THE LAST OPERATION OF A REGION, which all others come ahead of, itself or through another one. -/
theorem wpAny_sink2 {init : Array Oper} {o : Oper} {Q : Exit → Act → World → Prop} (hd : o.dst = none) (hg : o.guard = none)
    (h1 : ∀ i oi, init[i]? = some oi → ∀ e ∈ oi.after, Region.binds md e = true → e.on < i)
    (h2 : ∀ j, j < init.size → (∃ e ∈ o.after, Region.binds md e = true ∧ e.on = j) ∨ ∃ q oq, init[q]? = some oq ∧ (∃ e ∈ oq.after, Region.binds md e = true ∧ e.on = j) ∧ (∃ e ∈ o.after, Region.binds md e = true ∧ e.on = q))
    (h3 : ∀ e ∈ o.after, Region.binds md e = true → e.on < init.size) :
    ∀ (fuel : Nat) (listed : Array Bool) (a : Act) (w : World), listed.size = init.size → ClosedL md init listed → wpAny P md init (sinkQ P o Q) fuel listed a w → wpAny P md (init.push o) Q (fuel + 1) (listed.push false) a w := by
  have hw : ∀ ops t, Region.wanted o (yielded ops t) = true := fun ops t => by simp [Region.wanted, hg]
  -- nothing is ready: all are listed
  have hall : ∀ listed : Array Bool, listed.size = init.size → Region.ready md init listed = [] → ∀ j, j < init.size → listed.getD j true = true := by
    intro listed hs hr
    intro j
    induction j using Nat.strongRecOn with
    | ind j ih =>
      intro hj
      cases hb : listed.getD j true with
      | true => rfl
      | false =>
        exfalso
        have : j ∈ Region.ready md init listed := mem_ready.2 ⟨hb, init[j], by simp [hj], fun e he hbd => by
          have hlt := h1 j init[j] (by simp [hj]) e he hbd
          have := ih e.on hlt (by omega)
          have hl : e.on < listed.size := by omega
          simp [Array.getD, hl] at this ⊢
          exact this⟩
        rw [hr] at this
        cases this
  have tf : ∀ (listed : Array Bool) (j : Nat), j < listed.size → (listed.getD j true = true ↔ listed.getD j false = true) := fun listed j hj => by simp [Array.getD, hj]
  -- the last is ready just where all are listed
  have hlast : ∀ listed : Array Bool, listed.size = init.size → ClosedL md init listed → init.size ∈ Region.ready md (init.push o) (listed.push false) → Region.ready md init listed = [] := by
    intro listed hs hcl hm
    obtain ⟨_, o', ho', hall'⟩ := mem_ready.1 hm
    rw [push_last] at ho'
    cases ho'
    rw [List.eq_nil_iff_forall_not_mem]
    intro j hj
    obtain ⟨hu, oj, hoj, _⟩ := mem_ready.1 hj
    have hjl := (Array.getElem?_eq_some_iff.1 hoj).1
    rcases h2 j hjl with ⟨e, he, hb, hon⟩ | ⟨q, oq, hoq, ⟨e1, he1, hb1, hon1⟩, e, he, hb, hon⟩
    · have := hall' e he hb
      rw [hon, getD_push_lt (by omega)] at this
      rw [(tf listed j (by omega)).2 this] at hu
      cases hu
    · have hql := (Array.getElem?_eq_some_iff.1 hoq).1
      have := hall' e he hb
      rw [hon, getD_push_lt (by omega)] at this
      have h4 := hcl q oq hoq this e1 he1 hb1
      rw [hon1] at h4
      rw [(tf listed j (by omega)).2 h4] at hu
      cases hu
  have hlast' : ∀ listed : Array Bool, listed.size = init.size → Region.ready md init listed = [] → init.size ∈ Region.ready md (init.push o) (listed.push false) := by
    intro listed hs hr
    refine mem_ready.2 ⟨by rw [← hs]; exact getD_push_last, o, push_last, fun e he hb => ?_⟩
    have hlt := h3 e he hb
    rw [getD_push_lt (by omega)]
    exact (tf listed _ (by omega)).1 (hall listed hs hr _ hlt)
  have hother : ∀ (listed : Array Bool) (j : Nat), listed.size = init.size → j ≠ init.size → j ∈ Region.ready md (init.push o) (listed.push false) → j ∈ Region.ready md init listed := by
    intro listed j hs hne hm
    obtain ⟨hu, oj, hoj, hall'⟩ := mem_ready.1 hm
    have hjl : j < init.size := by
      have := (Array.getElem?_eq_some_iff.1 hoj).1
      simp at this
      omega
    rw [push_get hjl] at hoj
    rw [getD_push_lt (by omega)] at hu
    refine mem_ready.2 ⟨hu, oj, hoj, fun e he hb => ?_⟩
    have := hall' e he hb
    have hlt := h1 j oj hoj e he hb
    rwa [getD_push_lt (by omega)] at this
  have hend : ∀ (fuel : Nat) (listed : Array Bool) (a : Act) (w : World), listed.size = init.size → Region.ready md init listed = [] → Q .normal a w → wpAny P md (init.push o) Q fuel ((listed.push false).setIfInBounds init.size true) a w := by
    intro fuel listed a w hs hr hq
    have hr2 : Region.ready md (init.push o) ((listed.push false).setIfInBounds init.size true) = [] := by
      rw [List.eq_nil_iff_forall_not_mem]
      intro j hj
      obtain ⟨hu, oj, hoj, _⟩ := mem_ready.1 hj
      by_cases hjn : j = init.size
      · subst hjn
        simp [Array.getD, hs] at hu
      · have hjl : j < init.size := by
          have := (Array.getElem?_eq_some_iff.1 hoj).1
          simp at this
          omega
        rw [getD_set_ne true (Ne.symm hjn), getD_push_lt (by omega), hall listed hs hr j hjl] at hu
        cases hu
    cases fuel with
    | zero => exact ⟨hr2, hq⟩
    | succ fuel => exact ⟨fun _ => hq, by rw [hr2]; simp⟩
  have hlastOp : ∀ (fuel : Nat) (listed : Array Bool) (a : Act) (w : World), listed.size = init.size → Region.ready md init listed = [] → sinkQ P o Q .normal a w →
      wpOp P (init.push o) Q init.size (wpAny P md (init.push o) Q fuel ((listed.push false).setIfInBounds init.size true)) a w := by
    intro fuel listed a w hs hr hq
    unfold wpOp
    rw [push_last]
    simp only [hw, if_true]
    exact .inl (Oper.wp_mono (fun a' w' h => hend fuel listed a' w' hs hr h) hq)
  intro fuel
  induction fuel with
  | zero =>
    intro listed a w hs _ ⟨hr, hq⟩
    refine ⟨fun h => (by have := hlast' listed hs hr; rw [h] at this; cases this), fun i hi => ?_⟩
    by_cases hin : i = init.size
    · subst hin
      exact hlastOp 0 listed a w hs hr hq
    · have := hother listed i hs hin hi
      rw [hr] at this
      cases this
  | succ fuel ih =>
    intro listed a w hs hcl ⟨hr0, hstep⟩
    refine ⟨fun h => ?_, fun i hi => ?_⟩
    · exfalso
      cases hr : Region.ready md init listed with
      | nil => have := hlast' listed hs hr; rw [h] at this; cases this
      | cons j rest =>
        have hj : j ∈ Region.ready md init listed := by rw [hr]; exact List.mem_cons_self
        obtain ⟨hu, oj, hoj, hall'⟩ := mem_ready.1 hj
        have hjl := (Array.getElem?_eq_some_iff.1 hoj).1
        have : j ∈ Region.ready md (init.push o) (listed.push false) := mem_ready.2 ⟨by rw [getD_push_lt (by omega)]; exact hu, oj, by rw [push_get hjl]; exact hoj, fun e he hb => by
          have hlt := h1 j oj hoj e he hb
          rw [getD_push_lt (by omega)]
          exact hall' e he hb⟩
        rw [h] at this
        cases this
    · by_cases hin : i = init.size
      · subst hin
        have hr := hlast listed hs hcl hi
        exact hlastOp (fuel + 1) listed a w hs hr (hr0 hr)
      · have hm := hother listed i hs hin hi
        have hst := hstep i hm
        obtain ⟨_, oi, hoi, hdeps⟩ := mem_ready.1 hm
        have hcl2 : ClosedL md init (listed.setIfInBounds i true) := by
          intro k ok hok hk e he hb
          by_cases hki : k = i
          · subst hki
            rw [hoi] at hok
            cases hok
            have := hdeps e he hb
            by_cases hei : e.on = k
            · rw [hei]; simp [Array.getD, show k < listed.size by have := (Array.getElem?_eq_some_iff.1 hoi).1; omega]
            · rw [getD_set_ne false (Ne.symm hei)]; exact this
          · rw [getD_set_ne false (Ne.symm hki)] at hk
            have := hcl k ok hok hk e he hb
            by_cases hei : e.on = i
            · rw [hei]; simp [Array.getD, show i < listed.size by have := (Array.getElem?_eq_some_iff.1 hoi).1; omega]
            · rw [getD_set_ne false (Ne.symm hei)]; exact this
        have hil := (Array.getElem?_eq_some_iff.1 hoi).1
        unfold wpOp at hst ⊢
        rw [push_get hil, hoi]
        rw [hoi] at hst
        simp only [yielded_push hd] at hst ⊢
        have hset : (listed.push false).setIfInBounds i true = (listed.setIfInBounds i true).push false := by
          refine Array.ext_getElem? fun k => ?_
          by_cases hk : k = listed.size
          · subst hk
            have e1 : ((listed.push false).setIfInBounds i true)[listed.size]? = some false := by
              rw [Array.getElem?_setIfInBounds_ne (by omega)]
              exact Array.getElem?_push_size
            have hs' : (listed.setIfInBounds i true).size = listed.size := by simp
            have e2 : ((listed.setIfInBounds i true).push false)[(listed.setIfInBounds i true).size]? = some false := Array.getElem?_push_size
            rw [hs'] at e2
            rw [e1, e2]
          · simp [Array.getElem?_setIfInBounds, Array.getElem?_push, hk]
            by_cases hki : i = k
            · subst hki; simp [show i < listed.size by omega, show i < listed.size + 1 by omega]
            · simp [hki]
        rw [hset]
        have hmono : ∀ a' w', wpAny P md init (sinkQ P o Q) fuel (listed.setIfInBounds i true) a' w' → wpAny P md (init.push o) Q (fuel + 1) ((listed.setIfInBounds i true).push false) a' w' := fun a' w' h => ih _ a' w' (by simpa using hs) hcl2 h
        split
        · rename_i hwt
          simp only [hwt, if_true] at hst
          rcases hst with hst | ⟨ha, hl⟩
          · exact .inl (Oper.wp_mono hmono (by rw [Oper.wp_sink] at hst; exact hst))
          · exact .inr ⟨ha, by rwa [letsOut_sink] at hl⟩
        · rename_i hwt
          simp only [hwt] at hst
          exact hmono _ _ hst


variable {ops : Array Oper} {S : World → Prop} {Q : Exit → Act → World → Prop}
def sinkB2 (md : Region.Mode) (init : Array Oper) (o : Oper) : Bool :=
  o.dst.isNone && o.guard.isNone && (List.range init.size).all (fun j => (o.after.any fun e => Region.binds md e && e.on == j) || (List.range init.size).any (fun q => (init[q]?).any (fun oq => oq.after.any fun e => Region.binds md e && e.on == j) && (o.after.any fun e => Region.binds md e && e.on == q))) && o.after.all (fun e => !Region.binds md e || decide (e.on < init.size)) &&
    (List.range init.size).all (fun i => (init[i]?).all fun oi => oi.after.all fun e => !Region.binds md e || decide (e.on < i))
/-- THE REGION: n loads ahead, then a chain, the store at its end. -/
theorem wp_region_chain2 {id : Nat} {a : Act} {w : World} {l : List Oper} (S : World → Prop) (n m : Nat) (o : Oper) (hm : P.follows .mixedOrders = true)
    (hlast : l.drop (n + m) = [o]) (hk : sinkB2 .any (l.take n ++ (l.drop n).take m).toArray o = true)
    (hB : (Region.noSelect (l.take n ++ (l.drop n).take m).toArray && lexHead .any (l.take n ++ (l.drop n).take m).toArray m n 0 (Array.replicate (n + m) false)) = true) 
    (hQ : ∀ c a d v w, Q (.panic c) (Act.put a d v) w → Q (.panic c) a w) (hS : S w.drew)
    (h : wpHeld P (l.take n ++ (l.drop n).take m).toArray S (fun a' => wpSeq P (l.take n ++ (l.drop n).take m).toArray S (sinkQ P o Q) ((l.drop n).take m) a' w.drew) (l.take n) a) : (Code.region id l.toArray true).wp P Q a w := by
  have hnm : n + m + 1 = l.length := by
    have := congrArg List.length hlast
    rw [List.length_drop, List.length_singleton] at this
    omega
  have hl : l = l.take n ++ (l.drop n).take m ++ [o] := by
    have e1 := List.take_append_drop n l
    have e2 := List.take_append_drop m (l.drop n)
    rw [List.drop_drop, hlast] at e2
    rw [List.append_assoc, e2, e1]
  clear hlast
  generalize hhd : l.take n = hd at *
  generalize htl : (l.drop n).take m = tl at *
  have l1 : hd.length = n := by rw [← hhd, List.length_take]; omega
  have l2 : tl.length = m := by rw [← htl, List.length_take, List.length_drop]; omega
  subst hl
  simp only [sinkB2, Bool.and_eq_true, List.all_eq_true, List.mem_range, Option.isNone_iff_eq_none] at hk
  obtain ⟨⟨⟨⟨k1, k2⟩, k3⟩, k4⟩, k5⟩ := hk
  rw [Bool.and_eq_true] at hB
  refine wp_region_any hm ?_
  have hops : (hd ++ tl ++ [o]).toArray = (hd ++ tl).toArray.push o := by simp
  rw [hops]
  have hsz : ((hd ++ tl).toArray.push o).size = (n + m) + 1 := by simp; omega
  rw [hsz]
  have hrep : Array.replicate (n + m + 1) false = (Array.replicate (n + m) false).push false := by rw [Array.replicate_succ]
  rw [hrep]
  have hfin : ∀ e ∈ o.after, Region.binds .any e = true → e.on < (hd ++ tl).toArray.size := fun e he hb => by
    have := Array.all_eq_true_iff_forall_mem.1 k4 e he
    simpa [hb] using this
  refine wpAny_sink2 k1 k2 (fun i oi hoi e he hb => ?_) (fun j hj => ?_) hfin (n + m) _ a _ (by simp; omega) closed_none ?_
  · have := k5 i (Array.getElem?_eq_some_iff.1 hoi).1
    rw [hoi] at this
    have := Array.all_eq_true_iff_forall_mem.1 this e he
    simpa [hb] using this
  · have hh := k3 j hj
    rw [Bool.or_eq_true] at hh
    have conv : ∀ (oo : Oper) (x : Nat), (oo.after.any fun e => Region.binds .any e && e.on == x) = true → ∃ e ∈ oo.after, Region.binds .any e = true ∧ e.on = x := by
      intro oo x h
      obtain ⟨e, he, h3⟩ := Array.any_eq_true'.1 h
      simp only [Bool.and_eq_true, beq_iff_eq] at h3
      exact ⟨e, he, h3.1, h3.2⟩
    rcases hh with hh | hh
    · exact .inl (conv o j hh)
    · obtain ⟨q, _, hq⟩ := List.any_eq_true.1 hh
      rw [Bool.and_eq_true] at hq
      cases hoq : (hd ++ tl).toArray[q]? with
      | none => rw [hoq] at hq; simp at hq
      | some oq =>
        rw [hoq] at hq
        exact .inr ⟨q, oq, hoq, conv oq j (by simpa using hq.1), conv o q hq.2⟩
  · refine wpAny_of_held (S := S) _ _ _ _ ?_
    have := wpAnyH_held (P := P) (md := .any) (ops := (hd ++ tl).toArray) (S := S) (Q := sinkQ P o Q) hB.1 (fun c a d v w hh => hQ c a d v w hh) tl w.drew hS hd 0 (Array.replicate (n + m) false) a
      (fun j hj => by simp [List.getElem?_append_left hj]) (fun j => by simp only [Nat.zero_add, List.getElem?_toArray]; rw [List.getElem?_append_right (by omega), Nat.add_sub_cancel_left]) (by rw [l1, l2]; exact hB.2) h
    rwa [l1, l2] at this
end
end

section
open Go.RowKit
set_option maxRecDepth 100000
set_option linter.unusedVariables false
set_option linter.unusedSimpArgs false

theorem info_cmd : ∃ i, Tryd.prog.info? 69 = some i ∧ i.zero = some (.agg #[.pointer none, .bool false, .pointer none]) ∧ i.size = 3 ∧ i.bytes = 24 := infoParts (P := Tryd.prog) (t := 69) (x := (some (.agg #[.pointer none, .bool false, .pointer none]), 3, 24)) (by kernel_rfl)
/-- A slice of pointers to documents, in a block that stays. -/
def PtrsAt (w : World) (F : Nat → Prop) (v : Value) (l : List Addr) : Prop :=
  ∃ g off c, (l ≠ [] → F g) ∧ (∃ A, v = .slice A l.length c ∧ (l ≠ [] → A = some ⟨g, off, none⟩)) ∧ ∀ j (hj : j < l.length), w.cell? ⟨g, off + j, none⟩ = some (.pointer (some (l[j])))
theorem PtrsAt.of {w w' : World} {F F' : Nat → Prop} {v : Value} {l : List Addr} (h : ∀ g, F g → F' g ∧ w'.heap[g]? = w.heap[g]?) (hp : PtrsAt w F v l) : PtrsAt w' F' v l := by
  obtain ⟨g, off, c, hF, hA, hc⟩ := hp
  refine ⟨g, off, c, fun hl => (h g (hF hl)).1, hA, fun j hj => ?_⟩
  have hl : l ≠ [] := by rintro rfl; simp at hj
  exact (World.cell?_of_block (w := w) (a := ⟨g, off + j, none⟩) (h g (hF hl)).2).trans (hc j hj)
/-- Documents lie at these addresses. -/
def DocsAt (w : World) (B0 : Nat) (F : Nat → Prop) (ds : List Doc) (l : List Addr) : Prop := ds.length = l.length ∧ ∀ j (h1 : j < ds.length) (h2 : j < l.length), DocAt w B0 F ds[j] l[j]
theorem wtL_cons (d : Doc) (ds : List Doc) : wtL (d :: ds) = d.wt + wtL ds := by simp [wtL]
theorem wtL_app (a b : List Doc) : wtL (a ++ b) = wtL a + wtL b := by
  induction a with
  | nil => simp [wtL]
  | cons d a ih => rw [List.cons_append, wtL_cons, wtL_cons, ih]; omega
theorem wtL_drop (ds : List Doc) (k : Nat) : wtL (ds.drop k) ≤ wtL ds := by
  have := wtL_app (ds.take k) (ds.drop k)
  rw [List.take_append_drop] at this
  omega
def wtC (l : List Cmd) : Nat := (l.map fun c => c.d.wt).sum
theorem wtC_app (a b : List Cmd) : wtC (a ++ b) = wtC a + wtC b := by simp [wtC]
def Mach.weight (m : Mach) : Nat := wtC m.stk + wtC m.put
theorem weight_mach (s : MS) : s.weight = s.mach.weight := by
  unfold MS.weight Mach.weight wtC MS.mach
  simp [List.map_reverse, List.sum_reverse, List.map_map, Function.comp_def, Cm.cmd]
theorem weight_push (m : Mach) (ind : Ind) (flat : Bool) (ds : List Doc) : (pushM m ind flat ds).weight = m.weight + wtL ds := by
  unfold Mach.weight pushM wtC wtL
  have e : (ds.map fun d => (⟨ind, flat, d⟩ : Cmd)).map (fun c => c.d.wt) = ds.map Doc.wt := by rw [List.map_map]; rfl
  rw [List.map_append, List.sum_append, e]
  show (List.map Doc.wt ds).sum + (List.map (fun c => c.d.wt) m.stk).sum + (List.map (fun c => c.d.wt) m.put).sum = _
  omega
theorem pushM_cons (m : Mach) (ind : Ind) (flat : Bool) (d : Doc) (ds : List Doc) : pushM m ind flat (d :: ds) = pushM (pushM m ind flat ds) ind flat [d] := rfl
theorem mach_push (s : MS) (c : Cm) (v : Value) : ({ s with stk := s.stk ++ [c], vs := v } : MS).mach = pushM s.mach c.ind c.flat [c.d] := by
  unfold MS.mach pushM
  simp [Cm.cmd]
theorem stk_len {B0 b mb : Nat} {ov : OptV} {s : MS} {w : World} (h : MAt B0 b mb ov s w) : s.stk.length + s.put.length ≤ 16777216 := by
  have h1 := h.weight
  unfold MS.weight at h1
  have pos : ∀ (l : List Cm), l.length ≤ (l.map fun c => c.d.wt).sum := by
    intro l
    induction l with
    | nil => simp
    | cons a l ih =>
      have := a.d.nodes_pos
      simp only [List.length_cons, List.map_cons, List.sum_cons]
      unfold Doc.wt
      unfold Doc.wt at ih
      omega
  have h2 := pos s.stk
  have h3 := pos s.put
  omega

/-- One command more: what the append and the store leave. -/
theorem push_one {B0 b mb : Nat} {ov : OptV} {s0 s : MS} {w0 w : World} (h : MAt B0 b mb ov s w) (hg0 : Goes b mb s0 s w0 w) (c : Cm) (hc : Good w B0 (s.F b mb w) c) (hw : s.weight + c.d.wt ≤ 16777216)
    {gg cap : Nat} {W' : World} (ho : W'.ownsRow B0 69 3 (.slice (some ⟨gg, 0, none⟩) (s.stk.length + 1) cap) (s.stk.length + 1) (cmCells s.stk ++ c.cells))
    (hg : (w.drew.alloc (.cells c.cells.toArray 69)).grownBy W' s.vs.ownBlock) (hat : s.vs.ownBlock = some gg ∨ gg = (w.drew.alloc (.cells c.cells.toArray 69)).heap.size) :
    ∃ s', s'.mach = pushM s.mach c.ind c.flat [c.d] ∧ MAt B0 b mb ov s' (W'.setCell ⟨b, 11, none⟩ (.slice (some ⟨gg, 0, none⟩) (s.stk.length + 1) cap)) ∧ Goes b mb s0 s' w0 (W'.setCell ⟨b, 11, none⟩ (.slice (some ⟨gg, 0, none⟩) (s.stk.length + 1) cap)) ∧ s'.put = s.put ∧ s'.vp = s.vp := by
  have hb : Below w.heap.size w (w.drew.alloc (.cells c.cells.toArray 69)) := (Below.refl _ w).drew.alloc (Nat.le_refl _) _
  have ha := h.below hb
  have hga : Goes b mb s s w (w.drew.alloc (.cells c.cells.toArray 69)) := Goes.of_below hb
  have hp := ha.putStk (v' := .slice (some ⟨gg, 0, none⟩) (s.stk.length + 1) cap) (l := [c]) (W' := W') (by rw [List.length_append, List.length_singleton, cmCells_snoc]; exact ho) hg
    (by rcases hat with hat | hat
        · exact .inl (by rw [hat]; rfl)
        · exact .inr ⟨gg, rfl, by omega⟩)
    (by intro x hx; rw [List.mem_singleton.1 hx]; exact h.good_goes hga hc)
    (by rw [weight_mach, mach_push, weight_push, ← weight_mach]; simpa [wtL] using hw)
  exact ⟨_, mach_push s c _, hp.1, (hg0.trans hga).trans hp.2, rfl, rfl⟩

set_option maxHeartbeats 8000000 in
theorem push_is {B0 b mb : Nat} {ov : OptV} {s : MS} {w : World} (h : MAt B0 b mb ov s w) {ind : Ind} {p : Option Addr} (hi : IndAt w (s.F b mb w) ind p) (flat : Bool) {v : Value} {ds : List Doc} {l : List Addr} (hp : PtrsAt w (s.F b mb w) v l) (hd : DocsAt w B0 (s.F b mb w) ds l)
    (hok : ∀ d ∈ ds, CmOk ind d) (hw : s.weight + wtL ds ≤ 16777216) :
    Calls Tryd.prog 36 #[.pointer (some ⟨b, 0, none⟩), .pointer p, .bool flat, v] w fun e w' => Ends B0 b mb ov s w (some (pushM s.mach ind flat ds)) e w' := by
  obtain ⟨g, off, c, hF, ⟨A, rfl, hA⟩, hcell⟩ := hp
  have hlen : l.length ≤ 16777216 := by
    have := hd.1
    have : ds.length ≤ wtL ds := by
      clear hok hw hd this
      induction ds with
      | nil => simp [wtL]
      | cons a t ih =>
        have := a.nodes_pos
        simp only [wtL, List.length_cons, List.map_cons, List.sum_cons] at *
        unfold Doc.wt at *
        omega
    omega
  have HH := Lib.hid h
  have HI := Lib.hid hi
  have HD := Lib.hid hd
  have HOK := Lib.hid hok
  have HW := Lib.hid hw
  have HC := Lib.hid hcell
  have HF := Lib.hid hF
  have HA := Lib.hid hA
  clear h hi hd hok hw hcell hF hA
  go_enter Tryd.func36, Tryd.ntmps36
  go_wp2_with fail
  go_loopw [8] (fun i wr => ∃ (k : Nat) (sk : MS), k ≤ l.length ∧ i = .int .i64 ((k : Int) - 1) ∧ sk.mach = pushM s.mach ind flat (ds.drop k) ∧ MAt B0 b mb ov sk wr ∧ Goes b mb s sk w wr) (fun i _ => (intOf i + 1).toNat)
  case atStart => exact ⟨l.length, s, Nat.le_refl _, rfl, by rw [List.drop_of_length_le (by rw [HD.out.1]; exact Nat.le_refl _)]; rfl, HH.out, Goes.refl _ _ _ _⟩
  case round =>
    obtain ⟨k, sk, hk, rfl, hm, hat, hgo⟩ := hrel
    have HM := Lib.hid hm
    have HAT := Lib.hid hat
    have HGO := Lib.hid hgo
    clear hm
    by_cases h0 : 0 < k
    · obtain ⟨j, rfl⟩ : ∃ j, k = j + 1 := ⟨k - 1, by omega⟩
      have hjl : j < l.length := by omega
      have hl0 : l ≠ [] := by rintro rfl; simp at hjl
      obtain rfl := HA.out hl0
      have hFg := HF.out hl0
      have c11 := hat.cells.2.2.2.2.2.1
      have f11 := hat.blk.frozen 11
      have hFg' := (hgo.F hFg)
      have cj : wr.cell? ⟨g, off + j, none⟩ = some (.pointer (some (l[j]))) := (World.cell?_of_block (w := w) (a := ⟨g, off + j, none⟩) hFg'.2).trans (HC.out j hjl)
      obtain ⟨a, ha⟩ : ∃ a, a = l[j] := ⟨_, rfl⟩
      rw [← ha] at cj
      have hjd : j < ds.length := by rw [HD.out.1]; exact hjl
      have HGOOD : Hid (Good wr B0 (sk.F b mb wr) ⟨ind, flat, ds[j], p, a⟩) := Lib.hid ⟨HOK.out _ (List.getElem_mem hjd), HGO.out.ind HI.out, HH.out.doc_goes HGO.out (by rw [ha]; exact HD.out.2 j hjd hjl)⟩
      have HWT : Hid (sk.weight + (ds[j]).wt ≤ 16777216) := Lib.hid (by
        have e1 : sk.weight = s.weight + wtL (ds.drop (j + 1)) := by rw [weight_mach, HM.out, weight_push, ← weight_mach]
        have e2 : wtL (ds.drop j) = (ds[j]).wt + wtL (ds.drop (j + 1)) := by rw [List.drop_eq_getElem_cons hjd, wtL_cons]
        have e3 := wtL_drop ds j
        have := HW.out
        omega)
      have HNX : Hid (pushM sk.mach ind flat [ds[j]] = pushM s.mach ind flat (ds.drop j)) := Lib.hid (by rw [HM.out, List.drop_eq_getElem_cons hjd, ← pushM_cons])
      obtain ⟨A2, c2, hvs⟩ := own_slice hat.stk
      have hsl := stk_len hat
      have hneb : sk.vs.ownBlock ≠ some b := fun e => (hat.ne.2.2.1 b e).1 rfl
      have hneg : sk.vs.ownBlock ≠ some g := fun e => hFg'.1.2 (.inr (.inr (.inr (.inl e))))
      have HNB := Lib.hid hneb
      have HNG := Lib.hid hneg
      have HST := Lib.hid hat.stk
      have hblt := hat.blk.lt
      have hglt := hFg'.1.1
      have hlow := hat.low
      rw [hvs] at c11
      have HVS := Lib.hid hvs
      obtain ⟨i0, hi0, hz0, hs0, hb0⟩ := info_cmd
      have HE := Lib.hid (And.intro hi0 (And.intro hz0 (And.intro hs0 hb0)))
      have e1 : ((j + 1 : Nat) : Int) - 1 = (j : Int) := by omega
      rw [e1]
      have hjl' : (j : Int) < (l.length : Int) := by omega
      clear hneb hneg hvs hat hgo hFg hFg' ha hi0 hz0 hs0 hb0 e1 h0 hl0 hk
      go_wp2_with fail
      refine wp_region_chain2 (fun w' => w'.cell? ⟨b, 11, none⟩ = some (.slice A2 sk.stk.length c2) ∧ w'.cell? ⟨g, off + j, none⟩ = some (.pointer (some a))) 11 5 _ (by kernel_rfl) rfl (by kernel_rfl) (by kernel_rfl) (by intro _ _ d _ _ h; cases d <;> exact h) ⟨c11, cj⟩ ?_
      simp only [List.take_succ_cons, List.take_zero, List.drop_succ_cons, List.drop_zero, List.cons_append, List.nil_append]
      repeat (refine wpHeld_step rfl ?_; apply Exists.intro; refine ⟨fun wq hq => ?_, ?_⟩; (obtain ⟨q1, q2⟩ := hq; go_simp; first | done | rfl); simp only [Act.put, List.setIfInBounds_toArray, List.set_cons_zero, List.set_cons_succ])
      change wpSeq _ _ _ _ _ _ _
      refine wpSeq_step rfl (fun K hK => ?_)
      go_simp
      refine hK _ _ ⟨c11, cj⟩ ?_
      clear hK K
      try simp only [Act.put, List.setIfInBounds_toArray, List.set_cons_zero, List.set_cons_succ]
      refine wpSeq_step rfl (fun K hK => ?_)
      go_simp
      have d11 := fun o => (alloc_cell wr.drew o ⟨b, 11, none⟩ hblt).trans c11
      have dj := fun o => (alloc_cell wr.drew o ⟨g, off + j, none⟩ hglt).trans cj
      have df := fun o => (alloc_frozen wr.drew o ⟨b, 11, none⟩ hblt).trans f11
      refine hK _ _ ⟨d11 _, dj _⟩ ?_
      clear hK K
      try simp only [Act.put, List.setIfInBounds_toArray, List.set_cons_zero, List.set_cons_succ]
      refine wpSeq_step rfl (fun K hK => ?_)
      refine wp_append_lies _ _ _ 62 rfl B0 69 i0 (.agg #[.pointer none, .bool false, .pointer none]) 3 24 Tryd.underlying62 HE.out.1 HE.out.2.1 HE.out.2.2.1 HE.out.2.2.2 rfl (by omega) (.slice A2 sk.stk.length c2) sk.stk.length (cmCells sk.stk) rfl (by rw [← HVS.out]; exact own_below HST.out ((Below.refl _ wr).drew.alloc (Nat.le_refl _) _)) ⟨wr.heap.size, 0, none⟩ 1 1 [.pointer p, .bool flat, .pointer (some a)] rfl rfl (World.news_of_block (cs := #[.pointer p, .bool flat, .pointer (some a)]) (t := 69) (fr := (0, 0)) (heap_alloc_new wr.drew _)) (by simp [Value.oneCell']) (by omega) (by unfold maxLen; omega) (by omega) (by simp; omega) (wr.heap.size + 1) (by simp) ?_
      intro gg cap' w2 hown1 hgrow hat hlt
      have e11 := (hgrow.cell_far ⟨b, 11, none⟩ (by simp; omega) (by rw [← HVS.out]; exact Ne.symm HNB.out)).trans (d11 _)
      have ej := (hgrow.cell_far ⟨g, off + j, none⟩ (by simp; omega) (by rw [← HVS.out]; exact Ne.symm HNG.out)).trans (dj _)
      have ef := (hgrow.frozen_far ⟨b, 11, none⟩ (by simp; omega) (by rw [← HVS.out]; exact Ne.symm HNB.out)).trans (df _)
      refine hK _ _ ⟨e11, ej⟩ ?_
      clear hK K
      try simp only [Act.put, List.setIfInBounds_toArray, List.set_cons_zero, List.set_cons_succ]
      refine wpSeq_step rfl (fun K hK => ?_)
      go_simp
      refine hK _ _ ⟨e11, ej⟩ ?_
      clear hK K
      try simp only [Act.put, List.setIfInBounds_toArray, List.set_cons_zero, List.set_cons_succ]
      refine wpSeq_step rfl (fun K hK => ?_)
      go_simp
      refine hK _ _ ⟨e11, ej⟩ ?_
      clear hK K
      try simp only [Act.put, List.setIfInBounds_toArray, List.set_cons_zero, List.set_cons_succ]
      change Oper.wp _ _ _ _ _ _
      go_simp
      have HO1 := Lib.hid hown1
      have HG := Lib.hid hgrow
      have HAP := Lib.hid hat
      clear hown1 hgrow hat e11 ej ef d11 dj df
      go_wp2_with fail
      have hone := push_one HAT.out HGO.out ⟨ind, flat, ds[j], p, a⟩ HGOOD.out HWT.out (gg := gg) (cap := cap') (W' := w2) HO1.out (by rw [HVS.out]; exact HG.out) (by rw [HVS.out]; simpa using HAP.out)
      obtain ⟨s', m1, m2, m3, _, _⟩ := hone
      refine ⟨⟨j, s', by omega, rfl, by rw [m1]; exact HNX.out, m2, m3⟩, ?_⟩
      simp [intOf]
    · obtain rfl : k = 0 := by omega
      clear hat hgo
      go_wp2_with fail
      go_end0
      exact ⟨rfl, sk, by rw [HM.out]; rfl, HAT.out, HGO.out⟩
end

section
open Go.RowKit
set_option maxRecDepth 100000
set_option linter.unusedVariables false
set_option linter.unusedSimpArgs false

theorem cm_cell (l : List Cm) (j r : Nat) (hj : j < l.length) (hr : r < 3) : (cmCells l)[j * 3 + r]? = ((l[j]).cells)[r]? := by
  induction l generalizing j with
  | nil => simp at hj
  | cons a l ih =>
    have hc : cmCells (a :: l) = a.cells ++ cmCells l := by simp [cmCells]
    have h3 : a.cells.length = 3 := rfl
    rw [hc]
    cases j with
    | zero => rw [List.getElem?_append_left (by omega)]; simp
    | succ j =>
      rw [List.getElem?_append_right (by omega), h3, show (j + 1) * 3 + r - 3 = j * 3 + r by omega]
      simpa using ih j (by simpa using hj)
/-- The three cells of a command of a row. -/
theorem row_cm {w : World} {B0 e : Nat} {v : Value} {l : List Cm} (h : w.ownsRow B0 e 3 v l.length (cmCells l)) {j : Nat} (hj : j < l.length) :
    ∃ g cap, v = .slice (some ⟨g, 0, none⟩) l.length cap ∧ w.cell? ⟨g, j * 3, none⟩ = some (.pointer (l[j]).p) ∧ w.cell? ⟨g, j * 3 + 1, none⟩ = some (.bool (l[j]).flat) ∧ w.cell? ⟨g, j * 3 + 2, none⟩ = some (.pointer (some (l[j]).a)) := by
  obtain ⟨g, cap, hv, _, _⟩ := h.form (by omega)
  have hc := h.cells (g := g) (by rw [hv]; rfl)
  have add : ∀ q : Nat, (⟨g, 0, none⟩ : Addr).add q = ⟨g, q, none⟩ := fun q => by unfold Addr.add; split <;> simp_all
  have at' : ∀ r, r < 3 → ∀ u, ((l[j]).cells)[r]? = some u → w.cell? ⟨g, j * 3 + r, none⟩ = some u := fun r hr u hu => by
    have := hc (j * 3 + r) u (by rw [cm_cell l j r hj hr]; exact hu)
    rwa [add] at this
  exact ⟨g, cap, hv, at' 0 (by omega) _ rfl, at' 1 (by omega) _ rfl, at' 2 (by omega) _ rfl⟩

set_option maxHeartbeats 8000000 in
theorem flush_is {B0 b mb : Nat} {ov : OptV} {s : MS} {w : World} (h : MAt B0 b mb ov s w) (hw : s.weight ≤ 8388608) :
    Calls Tryd.prog 38 #[.pointer (some ⟨b, 0, none⟩)] w fun e w' => Ends B0 b mb ov s w (some (flushM s.mach)) e w' := by
  have hpl := stk_len h
  have HH := Lib.hid h
  have c12 := h.cells.2.2.2.2.2.2.1
  obtain ⟨A, cp, hvp⟩ := own_slice h.put
  have HVP := Lib.hid hvp
  rw [hvp] at c12
  have HW := Lib.hid hw
  clear h hw hvp
  go_enter Tryd.func38, Tryd.ntmps38
  go_wp2_with fail
  go_loopw [2] (fun i wr => ∃ (k : Nat) (sk : MS), k ≤ s.put.length ∧ i = .int .i64 ((k : Int) - 1) ∧ sk.put = s.put ∧ sk.vp = s.vp ∧ sk.mach = { s.mach with stk := (s.put.drop k).map Cm.cmd ++ s.mach.stk } ∧ MAt B0 b mb ov sk wr ∧ Goes b mb s sk w wr) (fun i _ => (intOf i + 1).toNat)
  case atStart => exact ⟨s.put.length, s, Nat.le_refl _, rfl, rfl, rfl, by simp, HH.out, Goes.refl _ _ _ _⟩
  case round =>
    obtain ⟨k, sk, hk, rfl, hput, hvpk, hm, hat, hgo⟩ := hrel
    have HM := Lib.hid hm
    have HAT := Lib.hid hat
    have HGO := Lib.hid hgo
    have HPK := Lib.hid hput
    clear hm
    by_cases h0 : 0 < k
    · obtain ⟨j, rfl⟩ : ∃ j, k = j + 1 := ⟨k - 1, by omega⟩
      have hjl : j < s.put.length := by omega
      have c11 := hat.cells.2.2.2.2.2.1
      have f11 := hat.blk.frozen 11
      have d12 := hat.cells.2.2.2.2.2.2.1
      have hrow := hat.put
      rw [hput] at hrow
      obtain ⟨g, cap, hv, p0, p1, p2⟩ := row_cm hrow hjl
      obtain ⟨cm, hcm⟩ : ∃ cm, cm = s.put[j] := ⟨_, rfl⟩
      rw [← hcm] at p0 p1 p2
      have HGOOD : Hid (Good wr B0 (sk.F b mb wr) cm) := Lib.hid (hat.good cm (List.mem_append_right _ (by rw [hput, hcm]; exact List.getElem_mem hjl)))
      have HWT : Hid (sk.weight + cm.d.wt ≤ 16777216) := Lib.hid (by
        have e1 : sk.weight = wtC ((s.put.drop (j + 1)).map Cm.cmd) + s.mach.weight := by
          rw [weight_mach, HM.out]
          unfold Mach.weight wtC
          simp only [List.map_append, List.sum_append]
          omega
        have e2 : wtC ((s.put.drop j).map Cm.cmd) = cm.d.wt + wtC ((s.put.drop (j + 1)).map Cm.cmd) := by rw [List.drop_eq_getElem_cons hjl, ← hcm]; simp [wtC, Cm.cmd]
        have e3 : wtC ((s.put.drop j).map Cm.cmd) ≤ s.weight := by
          have e4 : wtC (s.put.map Cm.cmd) = wtC ((s.put.take j).map Cm.cmd) + wtC ((s.put.drop j).map Cm.cmd) := by
            rw [← wtC_app, ← List.map_append, List.take_append_drop]
          have e5 : wtC (s.put.map Cm.cmd) ≤ s.mach.weight := by unfold Mach.weight; exact Nat.le_add_left _ _
          rw [weight_mach]
          omega
        have := HW.out
        rw [weight_mach] at this e3
        omega)
      have HNX : Hid (pushM sk.mach cm.ind cm.flat [cm.d] = { s.mach with stk := (s.put.drop j).map Cm.cmd ++ s.mach.stk }) := Lib.hid (by rw [HM.out, List.drop_eq_getElem_cons hjl, ← hcm]; rfl)
      obtain ⟨A2, c2, hvs⟩ := own_slice hat.stk
      have hsl := stk_len hat
      have hneb : sk.vs.ownBlock ≠ some b := fun e => (hat.ne.2.2.1 b e).1 rfl
      have hneg : sk.vs.ownBlock ≠ some g := fun e => hat.apart g e (by rw [hv]; rfl)
      have HNB := Lib.hid hneb
      have HNG := Lib.hid hneg
      have HST := Lib.hid hat.stk
      have hblt := hat.blk.lt
      have hglt : g < wr.heap.size := (hat.put.lt g (by rw [hv]; rfl)).2
      have hlow := hat.low
      rw [hvs] at c11
      rw [hv] at d12
      have HVS := Lib.hid hvs
      obtain ⟨i0, hi0, hz0, hs0, hb0⟩ := info_cmd
      have HE := Lib.hid (And.intro hi0 (And.intro hz0 (And.intro hs0 hb0)))
      have e1 : ((j + 1 : Nat) : Int) - 1 = (j : Int) := by omega
      rw [e1]
      have hjl' : (j : Int) < (s.put.length : Int) := by omega
      have HVPK : Hid (sk.vp = s.vp) := Lib.hid hvpk
      clear hneb hneg hvs hat hgo hcm hi0 hz0 hs0 hb0 e1 h0 hk hv hrow hput hvpk
      go_wp2_with fail
      refine wp_region_chain2 (fun w' => w'.cell? ⟨b, 11, none⟩ = some (.slice A2 sk.stk.length c2) ∧ w'.cell? ⟨b, 12, none⟩ = some (.slice (some ⟨g, 0, none⟩) s.put.length cap) ∧ w'.cell? ⟨g, j * 3, none⟩ = some (.pointer cm.p) ∧ w'.cell? ⟨g, j * 3 + 1, none⟩ = some (.bool cm.flat) ∧ w'.cell? ⟨g, j * 3 + 2, none⟩ = some (.pointer (some cm.a))) 12 4 _ (by kernel_rfl) rfl (by kernel_rfl) (by kernel_rfl) (by intro _ _ d _ _ h; cases d <;> exact h) ⟨c11, d12, p0, p1, p2⟩ ?_
      simp only [List.take_succ_cons, List.take_zero, List.drop_succ_cons, List.drop_zero, List.cons_append, List.nil_append]
      repeat (refine wpHeld_step rfl ?_; apply Exists.intro; refine ⟨fun wq hq => ?_, ?_⟩; (obtain ⟨q1, q2, q3, q4, q5⟩ := hq; go_simp; first | done | rfl); simp only [Act.put, List.setIfInBounds_toArray, List.set_cons_zero, List.set_cons_succ])
      change wpSeq _ _ _ _ _ _ _
      refine wpSeq_step rfl (fun K hK => ?_)
      go_simp
      have d11 := fun o => (alloc_cell wr.drew o ⟨b, 11, none⟩ hblt).trans c11
      have dd12 := fun o => (alloc_cell wr.drew o ⟨b, 12, none⟩ hblt).trans d12
      have dp0 := fun o => (alloc_cell wr.drew o ⟨g, j * 3, none⟩ hglt).trans p0
      have dp1 := fun o => (alloc_cell wr.drew o ⟨g, j * 3 + 1, none⟩ hglt).trans p1
      have dp2 := fun o => (alloc_cell wr.drew o ⟨g, j * 3 + 2, none⟩ hglt).trans p2
      have df := fun o => (alloc_frozen wr.drew o ⟨b, 11, none⟩ hblt).trans f11
      refine hK _ _ ⟨d11 _, dd12 _, dp0 _, dp1 _, dp2 _⟩ ?_
      clear hK K
      try simp only [Act.put, List.setIfInBounds_toArray, List.set_cons_zero, List.set_cons_succ]
      refine wpSeq_step rfl (fun K hK => ?_)
      refine wp_append_lies _ _ _ 62 rfl B0 69 i0 (.agg #[.pointer none, .bool false, .pointer none]) 3 24 Tryd.underlying62 HE.out.1 HE.out.2.1 HE.out.2.2.1 HE.out.2.2.2 rfl (by omega) (.slice A2 sk.stk.length c2) sk.stk.length (cmCells sk.stk) rfl (by rw [← HVS.out]; exact own_below HST.out ((Below.refl _ wr).drew.alloc (Nat.le_refl _) _)) ⟨wr.heap.size, 0, none⟩ 1 1 [.pointer cm.p, .bool cm.flat, .pointer (some cm.a)] rfl rfl (World.news_of_block (cs := #[.pointer cm.p, .bool cm.flat, .pointer (some cm.a)]) (t := 69) (fr := (0, 0)) (heap_alloc_new wr.drew _)) (by simp [Value.oneCell']) (by omega) (by unfold maxLen; omega) (by omega) (by simp; omega) (wr.heap.size + 1) (by simp) ?_
      intro gg cap' w2 hown1 hgrow hat hlt
      have nb : ∀ q, (some ({ block := b, off := q, spot := none } : Addr).block) ≠ (Value.slice A2 sk.stk.length c2).ownBlock := fun q => by rw [← HVS.out]; exact Ne.symm HNB.out
      have ng : ∀ q, (some ({ block := g, off := q, spot := none } : Addr).block) ≠ (Value.slice A2 sk.stk.length c2).ownBlock := fun q => by rw [← HVS.out]; exact Ne.symm HNG.out
      have e11 := (hgrow.cell_far ⟨b, 11, none⟩ (by simp; omega) (nb _)).trans (d11 _)
      have e12 := (hgrow.cell_far ⟨b, 12, none⟩ (by simp; omega) (nb _)).trans (dd12 _)
      have ep0 := (hgrow.cell_far ⟨g, j * 3, none⟩ (by simp; omega) (ng _)).trans (dp0 _)
      have ep1 := (hgrow.cell_far ⟨g, j * 3 + 1, none⟩ (by simp; omega) (ng _)).trans (dp1 _)
      have ep2 := (hgrow.cell_far ⟨g, j * 3 + 2, none⟩ (by simp; omega) (ng _)).trans (dp2 _)
      have ef := (hgrow.frozen_far ⟨b, 11, none⟩ (by simp; omega) (nb _)).trans (df _)
      refine hK _ _ ⟨e11, e12, ep0, ep1, ep2⟩ ?_
      clear hK K
      try simp only [Act.put, List.setIfInBounds_toArray, List.set_cons_zero, List.set_cons_succ]
      refine wpSeq_step rfl (fun K hK => ?_)
      go_simp
      refine hK _ _ ⟨e11, e12, ep0, ep1, ep2⟩ ?_
      clear hK K
      try simp only [Act.put, List.setIfInBounds_toArray, List.set_cons_zero, List.set_cons_succ]
      refine wpSeq_step rfl (fun K hK => ?_)
      go_simp
      refine hK _ _ ⟨e11, e12, ep0, ep1, ep2⟩ ?_
      clear hK K
      try simp only [Act.put, List.setIfInBounds_toArray, List.set_cons_zero, List.set_cons_succ]
      change Oper.wp _ _ _ _ _ _
      go_simp
      have HO1 := Lib.hid hown1
      have HG := Lib.hid hgrow
      have HAP := Lib.hid hat
      clear hown1 hgrow hat e11 e12 ep0 ep1 ep2 ef d11 dd12 dp0 dp1 dp2 df p0 p1 p2 nb ng c11 d12
      go_wp2_with fail
      have hone := push_one HAT.out HGO.out cm HGOOD.out HWT.out (gg := gg) (cap := cap') (W' := w2) HO1.out (by rw [HVS.out]; exact HG.out) (by rw [HVS.out]; simpa using HAP.out)
      obtain ⟨s', m1, m2, m3, m4, m5⟩ := hone
      refine ⟨⟨j, s', by omega, rfl, by rw [m4, HPK.out], by rw [m5, HVPK.out], by rw [m1]; exact HNX.out, m2, m3⟩, ?_⟩
      simp [intOf]
    · obtain rfl : k = 0 := by omega
      have c12' := hat.cells.2.2.2.2.2.2.1
      have f12 := hat.blk.frozen 12
      obtain ⟨A3, c3, hv3⟩ := own_slice hat.put
      rw [hv3] at c12'
      have hn := hat.noPut _ rfl
      have HN := Lib.hid hn
      clear hat hgo hput hvpk hv3 hn
      go_wp2_with fail
      go_end0
      have hm := HM.out
      refine ⟨rfl, _, ?_, HN.out.1, HGO.out.trans HN.out.2⟩
      unfold MS.mach at hm
      unfold flushM MS.mach
      simp only [List.map_nil, List.drop_zero, Mach.mk.injEq] at hm ⊢
      obtain ⟨m1, m2, m3, m4, m5⟩ := hm
      exact ⟨m1, m2, m3, trivial, m5⟩
end

section
open Go.RowKit
set_option maxRecDepth 100000
set_option linter.unusedVariables false
set_option linter.unusedSimpArgs false

theorem repeat_blank : ∀ (n : Nat), Lib.repeatL [32] n = List.replicate n 32
  | 0 => rfl
  | n + 1 => by
    show ([32] : Ln) ++ Lib.repeatL [32] n = _
    rw [repeat_blank n]
    rfl
theorem blanks_any (y : Int) (h0 : 0 ≤ y) (h1 : y ≤ 10000) (w : World) :
    Calls Tryd.prog 71 #[.string ⟨#[32]⟩, .int .i64 y] w fun e w' => e = .returned (.string (strOf (List.replicate y.toNat 32))) ∧ Below w.heap.size w w' := by
  obtain ⟨n, rfl⟩ : ∃ n : Nat, y = (n : Int) := ⟨y.toNat, by omega⟩
  have h := Tryd.strings_Repeat ⟨#[32]⟩ n w (by omega) (by have h1 : (⟨#[32]⟩ : ByteArray).size = 1 := rfl; rw [h1]; omega)
  rw [show (⟨#[32]⟩ : ByteArray).data.toList = [32] from rfl, repeat_blank] at h
  simpa [strOf] using h
theorem ends_none {B0 b mb : Nat} {ov : OptV} {s : MS} {w : World} {R : Option Mach} {e : Ending} {w' : World} (h : Ends B0 b mb ov s w R e w') (hR : R = none) : e = tooLong ∧ Frame (s.X b mb) w w' := by
  subst hR; exact h
theorem ends_some {B0 b mb : Nat} {ov : OptV} {s : MS} {w : World} {R : Option Mach} {m : Mach} {e : Ending} {w' : World} (h : Ends B0 b mb ov s w R e w') (hR : R = some m) : e = .returned (.tuple #[]) ∧ ∃ s', s'.mach = m ∧ MAt B0 b mb ov s' w' ∧ Goes b mb s s' w w' := by
  subst hR; exact h
/-- What comes behind a step. -/
theorem ends_trans {B0 b mb : Nat} {ov : OptV} {s s1 : MS} {w w1 : World} {R : Option Mach} {e : Ending} {w' : World} (hg : Goes b mb s s1 w w1) (h : Ends B0 b mb ov s1 w1 R e w') : Ends B0 b mb ov s w R e w' := by
  cases R with
  | none => exact ⟨h.1, hg.1.trans h.2 fun q hq hx => (hg.2 q hx).resolve_right (by omega)⟩
  | some m =>
    obtain ⟨h1, s', h2, h3, h4⟩ := h
    exact ⟨h1, s', h2, h3, hg.trans h4⟩

set_option maxHeartbeats 8000000 in
theorem indent_is {B0 b mb : Nat} {ov : OptV} : ∀ (i : Ind) {s : MS} {w : World} {p : Option Addr} (h : MAt B0 b mb ov s w) (hi : IndAt w (s.F b mb w) i p) (hok : IndOk i),
    Calls Tryd.prog 62 #[.pointer (some ⟨b, 0, none⟩), .pointer p] w fun e w' => Ends B0 b mb ov s w (indM ov.o i s.mach) e w'
  | [], s, w, p, h, hi, hok => by
    obtain rfl : p = none := hi
    have HH := Lib.hid h
    clear h
    go_enter Tryd.func62, Tryd.ntmps62
    go_wp2_with fail
    go_end0
    exact ⟨rfl, s, rfl, HH.out, Goes.refl _ _ _ _⟩
  | x :: r, s, w, p, h, hi, hok => by
    obtain ⟨g, q, rfl, hF, hb, hr⟩ := hi
    have IH := Lib.hid (indent_is r h hr (fun y hy => hok y (by simp [hy])))
    have HX := Lib.hid (hok x (by simp))
    have c0 : w.cell? ⟨g, 0, none⟩ = some (.pointer q) := hb.cell 0
    have HF := Lib.hid hF
    have HB := Lib.hid hb
    have HSM : Hid (indM ov.o (x :: r) s.mach = (indM ov.o r s.mach).bind fun m1 => putM m1 (stepB ov.o x)) := Lib.hid rfl
    have HL : Hid ((stepB ov.o x).length ≤ 10000) := Lib.hid (by
      unfold stepB
      have := HX.out
      split
      · simp
      · rw [List.length_replicate]; omega)
    clear h hr hF hb hok
    go_enter Tryd.func62, Tryd.ntmps62
    go_wp2_with fail
    refine IH.out.mono ?_
    rintro e w1 hE
    have HE := Lib.hid hE
    clear hE
    cases hR : indM ov.o r s.mach with
    | none =>
      obtain ⟨rfl, hfr⟩ := ends_none HE.out hR
      have HFR := Lib.hid hfr
      have HN : Hid (indM ov.o (x :: r) s.mach = none) := Lib.hid (by rw [HSM.out, hR]; rfl)
      clear hfr hR
      refine ⟨rfl, ?_⟩
      rw [HN.out]
      exact ⟨rfl, HFR.out⟩
    | some m1 =>
      obtain ⟨rfl, s1, hm1, hat1, hgo1⟩ := ends_some HE.out hR
      have HSM2 : Hid (indM ov.o (x :: r) s.mach = putM s1.mach (stepB ov.o x)) := Lib.hid (by rw [HSM.out, hR, hm1]; rfl)
      have HAT := Lib.hid hat1
      have HGO := Lib.hid hgo1
      have hb1 := (hgo1.F HF.out).2.trans HB.out
      have hb1' : Blk w1 g (indCells q x r) 92 := hb1
      have d1 : w1.cell? ⟨g, 1, none⟩ = some (.bool x.1) := hb1'.cell 1
      have d2 : w1.cell? ⟨g, 2, none⟩ = some (.int .i64 x.2) := hb1'.cell 2
      have c2 := hat1.cells.2.2.1
      have HWR := Lib.hid (fun (t : ByteArray) (ht : t.size ≤ 1099511627776) => write_is hat1 t ht)
      have HWB := Lib.hid (fun (t : ByteArray) (ht : t.size ≤ 1099511627776) (w2 : World) (hb : Below w1.heap.size w1 w2) => write_is (hat1.below hb) t ht)
      clear hb1 hb1' hat1 hgo1 hm1 hR
      by_cases hst : x.1 = true ∧ ov.o.tabs = true
      · obtain ⟨t1, t2⟩ := hst
        rw [t1] at d1
        rw [t2] at c2
        have HS : Hid (stepB ov.o x = [9]) := Lib.hid (by unfold stepB; rw [t1, t2]; rfl)
        clear t1 t2
        go_wp2_with fail
        refine (HWR.out ⟨#[9]⟩ (by decide)).mono ?_
        rintro e w2 hE2
        have HE2 := Lib.hid hE2
        clear hE2
        rw [show (⟨#[9]⟩ : ByteArray).data.toList = [9] from rfl, ← HS.out, ← HSM2.out] at HE2
        have HE3 := Lib.hid (ends_trans HGO.out HE2.out)
        cases hR2 : indM ov.o (x :: r) s.mach with
        | none =>
          obtain ⟨rfl, hfr⟩ := ends_none HE3.out hR2
          exact ⟨rfl, by rw [hR2]; exact ⟨rfl, hfr⟩⟩
        | some m2 =>
          have he := ends_some HE3.out hR2
          obtain ⟨rfl, _⟩ := he
          go_wp2_with fail
          go_end0
          exact HE3.out
      · have HS : Hid (stepB ov.o x = List.replicate x.2.toNat 32) := Lib.hid (by
          unfold stepB
          rw [if_neg]
          intro hc
          rw [Bool.and_eq_true] at hc
          exact hst hc)
        have hcase : x.1 = false ∨ (x.1 = true ∧ ov.o.tabs = false) := by
          cases h1 : x.1
          · exact .inl rfl
          · exact .inr ⟨rfl, by cases h2 : ov.o.tabs
                                · rfl
                                · exact absurd ⟨h1, h2⟩ hst⟩
        clear hst
        have HX2 := Lib.hid HX.out
        rcases hcase with t1 | ⟨t1, t2⟩
        all_goals
          rw [t1] at d1
          try rw [t2] at c2
          try clear t2
          clear t1
          go_wp2_with (go_at_call 71; refine (blanks_any x.2 HX2.out.1 HX2.out.2 _).mono ?_; rintro e w2 ⟨rfl, hb2⟩)
          refine (HWB.out (strOf (List.replicate x.2.toNat 32)) (by rw [strOf_size, ← HS.out]; have := HL.out; omega) w2 hb2).mono ?_
          rintro e w3 hE2
          rw [strOf_list, ← HS.out, ← HSM2.out] at hE2
          have HE3 := Lib.hid (ends_trans (HGO.out.trans (Goes.of_below hb2)) hE2)
          clear hE2 hb2
          cases hR2 : indM ov.o (x :: r) s.mach with
          | none =>
            obtain ⟨rfl, hfr⟩ := ends_none HE3.out hR2
            exact ⟨rfl, by rw [hR2]; exact ⟨rfl, hfr⟩⟩
          | some m2 =>
            have he := ends_some HE3.out hR2
            obtain ⟨rfl, _⟩ := he
            go_wp2_with fail
            go_end0
            exact HE3.out
end

section
open Go.Shelf
def Tryd.laysV7_ren : Go.Shelf.Ren := ⟨fun | 7 => 61 | 10 => 67 | 11 => 68 | 13 => 69 | 15 => 70 | 16 => 74 | 19 => 75 | 18 => 76 | 21 => 83 | 17 => 84 | 20 => 94 | n => n, fun | 22 => 35 | 9 => 9 | 3 => 3 | 4 => 4 | 5 => 5 | 28 => 118 | 27 => 117 | 0 => 0 | 31 => 121 | 21 => 21 | 33 => 126 | 36 => 144 | 37 => 38 | 40 => 147 | 39 => 146 | n => n, fun | 0 => 0 | 1 => 1 | n => n⟩
theorem Tryd.laysV7 : Go.Proofs.SlLaysV.n7 Tryd.prog Tryd.laysV7_ren := {
  mixed := by kernel_rfl
  f7 := Tryd.func61.trans (congrArg some (by kernel_rfl))
  f10 := Tryd.func67.trans (congrArg some (by kernel_rfl))
  f11 := Tryd.func68.trans (congrArg some (by kernel_rfl))
  f13 := Tryd.func69.trans (congrArg some (by kernel_rfl))
  f15 := Tryd.func70.trans (congrArg some (by kernel_rfl))
  f16 := Tryd.func74.trans (congrArg some (by kernel_rfl))
  f17 := Tryd.func84.trans (congrArg some (by kernel_rfl))
  f18 := Tryd.func76.trans (congrArg some (by kernel_rfl))
  f19 := Tryd.func75.trans (congrArg some (by kernel_rfl))
  f20 := Tryd.func94.trans (congrArg some (by kernel_rfl))
  f21 := Tryd.func83.trans (congrArg some (by kernel_rfl))
  t0 := Tryd.underlying0
  a0 := Tryd.isAgg0
  z0 := Tryd.sizeOf0
  v0 := Tryd.zeroValue0
  t3 := Tryd.underlying3
  a3 := Tryd.isAgg3
  z3 := Tryd.sizeOf3
  v3 := Tryd.zeroValue3
  t4 := Tryd.underlying4
  a4 := Tryd.isAgg4
  z4 := Tryd.sizeOf4
  v4 := Tryd.zeroValue4
  t5 := Tryd.underlying5
  a5 := Tryd.isAgg5
  z5 := Tryd.sizeOf5
  v5 := Tryd.zeroValue5
  t9 := Tryd.underlying9
  a9 := Tryd.isAgg9
  z9 := Tryd.sizeOf9
  v9 := Tryd.zeroValue9
  t21 := Tryd.underlying21
  a21 := Tryd.isAgg21
  z21 := Tryd.sizeOf21
  v21 := Tryd.zeroValue21
  t22 := Tryd.underlying35
  a22 := Tryd.isAgg35
  z22 := Tryd.sizeOf35
  v22 := Tryd.zeroValue35
  t27 := Tryd.underlying117
  a27 := Tryd.isAgg117
  z27 := Tryd.sizeOf117
  t28 := Tryd.underlying118
  a28 := Tryd.isAgg118
  z28 := Tryd.sizeOf118
  v28 := Tryd.zeroValue118
  t31 := Tryd.underlying121
  a31 := Tryd.isAgg121
  z31 := Tryd.sizeOf121
  v31 := Tryd.zeroValue121
  t33 := Tryd.underlying126
  a33 := Tryd.isAgg126
  z33 := Tryd.sizeOf126
  v33 := Tryd.zeroValue126
  t36 := Tryd.underlying144
  a36 := Tryd.isAgg144
  z36 := Tryd.sizeOf144
  t37 := Tryd.underlying38
  a37 := Tryd.isAgg38
  z37 := Tryd.sizeOf38
  v37 := Tryd.zeroValue38
  t39 := Tryd.underlying146
  a39 := Tryd.isAgg146
  z39 := Tryd.sizeOf146
  v39 := Tryd.zeroValue146
  t40 := Tryd.underlying147
  a40 := Tryd.isAgg147
  z40 := Tryd.sizeOf147
  v40 := Tryd.zeroValue147 }
open Go.RowKit
set_option maxRecDepth 100000
set_option linter.unusedVariables false
set_option linter.unusedSimpArgs false

theorem info_set : (Tryd.prog.info? (Tryd.laysV7_ren.t 27)).map (fun i => (i.zero, i.size)) = some (some (.agg (Array.replicate 256 (.bool false))), 256) := by kernel_rfl
theorem trimS_eq (l : Ln) : Lib.trimRightS l [32, 9] = trimR l := by
  unfold Lib.trimRightS trimR
  congr 1
  congr 1
  funext c
  unfold blank8
  by_cases h1 : c = 32 <;> by_cases h2 : c = 9 <;> simp [h1, h2]
theorem trimR_len (l : Ln) : (trimR l).length ≤ l.length := by
  rw [← trimS_eq]; exact Lib.trimRightS_len_le l _
theorem trimR_take (l : Ln) : trimR l = l.take (trimR l).length := by
  rw [← trimS_eq]; exact Lib.trimRightS_eq_take l _
/-- A row of one's own bytes, cut at its end. -/
theorem trim_is {B0 b mb : Nat} {ov : OptV} {s : MS} {w : World} (h : MAt B0 b mb ov s w) {A : Option Addr} {c : Nat} (hvo : s.vo = .slice A s.out.length c) :
    Calls Tryd.prog 61 #[.slice A s.out.length c, .string ⟨#[32, 9]⟩] w fun e w' => e = .returned (.slice A (trimR s.out).length c) ∧ Below w.heap.size w w' := by
  have hown := h.out
  rw [hvo] at hown
  have hnc : s.out.length ≤ c ∧ c ≤ 9223372036854775807 := by
    rcases hown.2 with ⟨h1, h2⟩ | ⟨g, cap, cur, h1, h2, h3, h4, h5, _⟩
    · injection h1 with _ h1 h1'
      omega
    · injection h1 with _ _ h1'
      unfold maxLen at h5
      omega
  have hb : Lib.BytesAt w A s.out.length s.out := by
    intro h0
    rcases hown.2 with ⟨h1, h2⟩ | ⟨g, cap, cur, h1, h2, h3, h4, h5, h6, h7⟩
    · omega
    · injection h1 with h1 _ _
      refine ⟨g, 0, h1, fun i hi => ?_⟩
      have hcs := hown.cells (g := g) (by rw [h1]; rfl) i (.int .u8 ((s.out.getD i 0).toNat : Int)) (by
        unfold Lib.byteCells
        rw [List.getElem?_map, List.getElem?_eq_getElem hi]
        simp [List.getD, hi])
      have : (⟨g, 0, none⟩ : Addr).add i = ⟨g, 0 + i, none⟩ := by unfold Addr.add; split <;> simp_all
      rw [this] at hcs
      exact hcs
  have hz := zero_of_info (P := Tryd.prog) info_set
  have hr := Any.bytes_TrimRight_ascii Tryd.laysV7 hz.1 hz.2 A s.out.length c s.out ⟨#[32, 9]⟩ w rfl hnc.1 hnc.2 hb (by decide) (by
    intro j x hj
    match j with
    | 0 => simp at hj; subst hj; decide
    | 1 => simp at hj; subst hj; decide
    | j + 2 => simp at hj)
  rw [show (⟨#[32, 9]⟩ : ByteArray).data.toList = [32, 9] from rfl, trimS_eq] at hr
  exact hr
end

section
open Go.RowKit
set_option maxRecDepth 100000
set_option linter.unusedVariables false
set_option linter.unusedSimpArgs false

def Cm.val (c : Cm) : Value := .agg #[.pointer c.p, .bool c.flat, .pointer (some c.a)]
theorem doc_kind {w : World} {B0 : Nat} {F : Nat → Prop} {d : Doc} {a : Addr} (h : DocAt w B0 F d a) : ∃ g off, a = ⟨g, off, none⟩ ∧ F g ∧ w.cell? ⟨g, off, none⟩ = some (.int .i64 d.kind) := by
  obtain ⟨g, off, kv, ha, hF, h6, hk⟩ := h
  exact ⟨g, off, ha, hF, h6.kind⟩
theorem nl_size (o : Opt) : (strOf o.nl).size ≤ 2 := by
  rw [strOf_size]
  unfold Opt.nl
  split <;> decide
theorem wide_bound {i : Ind} {d : Doc} (h : CmOk i d) : 0 ≤ Ind.wide i ∧ Ind.wide i ≤ 1000000000000 := by
  have h1 := h.wide
  have h2 := wide_pos i h.ind
  omega

set_option maxHeartbeats 16000000 in
/-- A line's end where something is put off. -/
theorem line_put {B0 b mb : Nat} {ov : OptV} {s : MS} {w : World} (h : MAt B0 b mb ov s w) (c : Cm) (hc : Good w B0 (s.F b mb w) c) (hw : s.weight + c.d.wt ≤ 8388608) (hp : s.put ≠ []) :
    Calls Tryd.prog 54 #[.pointer (some ⟨b, 0, none⟩), c.val] w fun e w' => Ends B0 b mb ov s w (lineM ov.o s.mach c.cmd) e w' := by
  have hpl : (0 : Int) < (s.put.length : Int) := by have := List.length_pos_iff.2 hp; omega
  have HR : Hid (lineM ov.o s.mach c.cmd = some (flushM (pushM s.mach c.ind c.flat [c.d]))) := Lib.hid (by
    unfold lineM
    rw [if_pos (by unfold MS.mach; simpa using hp)]
    rfl)
  have hb0 : Below w.heap.size w (w.alloc (.cells #[.pointer c.p, .bool c.flat, .pointer (some c.a)] 69)) := (Below.refl _ w).alloc (Nat.le_refl _) _
  have hat := h.below hb0
  have hgo : Goes b mb s s w (w.alloc (.cells #[.pointer c.p, .bool c.flat, .pointer (some c.a)] 69)) := Goes.of_below hb0
  have HGOOD := Lib.hid (h.good_goes hgo hc)
  have hblk := Blk.new w [.pointer c.p, .bool c.flat, .pointer (some c.a)] 69
  have hXlt := fun k (hk : s.X b mb k) => h.X_lt hk
  have HXN : Hid (¬ s.X b mb w.heap.size) := Lib.hid (fun hx => Nat.lt_irrefl _ (hXlt _ hx))
  have HW := Lib.hid hw
  obtain ⟨g, hg⟩ : ∃ g, g = w.heap.size := ⟨_, rfl⟩
  obtain ⟨wr, hwr⟩ : ∃ wr, wr = w.alloc (.cells #[.pointer c.p, .bool c.flat, .pointer (some c.a)] 69) := ⟨_, rfl⟩
  have hglt : g < wr.heap.size := by rw [hwr, hg]; simp
  rw [← hwr] at hat hgo HGOOD
  have hblk' : Blk wr g [.pointer c.p, .bool c.flat, .pointer (some c.a)] 69 := by rw [hwr, hg]; exact hblk
  rw [← hg] at HXN
  have p0 : wr.cell? ⟨g, 0, none⟩ = some (.pointer c.p) := hblk'.cell 0
  have p1 : wr.cell? ⟨g, 1, none⟩ = some (.bool c.flat) := hblk'.cell 1
  have p2 : wr.cell? ⟨g, 2, none⟩ = some (.pointer (some c.a)) := hblk'.cell 2
  have c12 := hat.cells.2.2.2.2.2.2.1
  have c11 := hat.cells.2.2.2.2.2.1
  have f11 := hat.blk.frozen 11
  obtain ⟨A, cp, hvp⟩ := own_slice hat.put
  rw [hvp] at c12
  obtain ⟨A2, c2, hvs⟩ := own_slice hat.stk
  have hsl := stk_len hat
  have hneb : s.vs.ownBlock ≠ some b := fun e => (hat.ne.2.2.1 b e).1 rfl
  have hneg : s.vs.ownBlock ≠ some g := fun e => HXN.out (.inr (.inr (.inr (.inl e))))
  have HNB := Lib.hid hneb
  have HNG := Lib.hid hneg
  have HST := Lib.hid hat.stk
  have hblt := hat.blk.lt
  have hlow := hat.low
  rw [hvs] at c11
  have HVS := Lib.hid hvs
  have HAT := Lib.hid hat
  have HGO := Lib.hid hgo
  obtain ⟨i0, hi0, hz0, hs0, hb0'⟩ := info_cmd
  have HE := Lib.hid (And.intro hi0 (And.intro hz0 (And.intro hs0 hb0')))
  have HWR := Lib.hid hwr
  have HG0 := Lib.hid hg
  unfold Cm.val
  clear h hc hw hp hb0 hat hgo hblk hblk' hneb hneg hvp hvs hi0 hz0 hs0 hb0' hXlt
  go_enter Tryd.func54, Tryd.ntmps54
  rw [hwr] at p0 p1 p2 c11 c12 f11
  rw [hg] at p0 p1 p2
  clear hwr hg
  go_wp2_with fail
  rw [← HWR.out] at p0 p1 p2 c11 c12 f11 ⊢
  rw [← HG0.out] at p0 p1 p2
  simp only [← HG0.out]
  refine wp_region_chain2 (fun w' => w'.cell? ⟨b, 11, none⟩ = some (.slice A2 s.stk.length c2) ∧ w'.cell? ⟨g, 0, none⟩ = some (.pointer c.p) ∧ w'.cell? ⟨g, 1, none⟩ = some (.bool c.flat) ∧ w'.cell? ⟨g, 2, none⟩ = some (.pointer (some c.a))) 6 4 _ (by kernel_rfl) rfl (by kernel_rfl) (by kernel_rfl) (by intro _ _ d _ _ h; cases d <;> exact h) ⟨c11, p0, p1, p2⟩ ?_
  simp only [List.take_succ_cons, List.take_zero, List.drop_succ_cons, List.drop_zero, List.cons_append, List.nil_append]
  repeat (refine wpHeld_step rfl ?_; apply Exists.intro; refine ⟨fun wq hq => ?_, ?_⟩; (obtain ⟨q1, q3, q4, q5⟩ := hq; go_simp; first | done | rfl); simp only [Act.put, List.setIfInBounds_toArray, List.set_cons_zero, List.set_cons_succ])
  change wpSeq _ _ _ _ _ _ _
  refine wpSeq_step rfl (fun K hK => ?_)
  go_simp
  have d11 := fun o => (alloc_cell wr.drew o ⟨b, 11, none⟩ hblt).trans c11
  have dp0 := fun o => (alloc_cell wr.drew o ⟨g, 0, none⟩ hglt).trans p0
  have dp1 := fun o => (alloc_cell wr.drew o ⟨g, 1, none⟩ hglt).trans p1
  have dp2 := fun o => (alloc_cell wr.drew o ⟨g, 2, none⟩ hglt).trans p2
  have df := fun o => (alloc_frozen wr.drew o ⟨b, 11, none⟩ hblt).trans f11
  refine hK _ _ ⟨d11 _, dp0 _, dp1 _, dp2 _⟩ ?_
  clear hK K
  try simp only [Act.put, List.setIfInBounds_toArray, List.set_cons_zero, List.set_cons_succ]
  refine wpSeq_step rfl (fun K hK => ?_)
  refine wp_append_lies _ _ _ 62 rfl B0 69 i0 (.agg #[.pointer none, .bool false, .pointer none]) 3 24 Tryd.underlying62 HE.out.1 HE.out.2.1 HE.out.2.2.1 HE.out.2.2.2 rfl (by omega) (.slice A2 s.stk.length c2) s.stk.length (cmCells s.stk) rfl (by rw [← HVS.out]; exact own_below HST.out ((Below.refl _ wr).drew.alloc (Nat.le_refl _) _)) ⟨wr.heap.size, 0, none⟩ 1 1 [.pointer c.p, .bool c.flat, .pointer (some c.a)] rfl rfl (World.news_of_block (cs := #[.pointer c.p, .bool c.flat, .pointer (some c.a)]) (t := 69) (fr := (0, 0)) (heap_alloc_new wr.drew _)) (by simp [Value.oneCell']) (by omega) (by unfold maxLen; omega) (by omega) (by simp; omega) (wr.heap.size + 1) (by simp) ?_
  intro gg cap' w2 hown1 hgrow hat hlt
  have nb : ∀ q, (some ({ block := b, off := q, spot := none } : Addr).block) ≠ (Value.slice A2 s.stk.length c2).ownBlock := fun q => by rw [← HVS.out]; exact Ne.symm HNB.out
  have ng : ∀ q, (some ({ block := g, off := q, spot := none } : Addr).block) ≠ (Value.slice A2 s.stk.length c2).ownBlock := fun q => by rw [← HVS.out]; exact Ne.symm HNG.out
  have e11 := (hgrow.cell_far ⟨b, 11, none⟩ (by simp; omega) (nb _)).trans (d11 _)
  have ep0 := (hgrow.cell_far ⟨g, 0, none⟩ (by simp; omega) (ng _)).trans (dp0 _)
  have ep1 := (hgrow.cell_far ⟨g, 1, none⟩ (by simp; omega) (ng _)).trans (dp1 _)
  have ep2 := (hgrow.cell_far ⟨g, 2, none⟩ (by simp; omega) (ng _)).trans (dp2 _)
  have ef := (hgrow.frozen_far ⟨b, 11, none⟩ (by simp; omega) (nb _)).trans (df _)
  refine hK _ _ ⟨e11, ep0, ep1, ep2⟩ ?_
  clear hK K
  try simp only [Act.put, List.setIfInBounds_toArray, List.set_cons_zero, List.set_cons_succ]
  refine wpSeq_step rfl (fun K hK => ?_)
  go_simp
  refine hK _ _ ⟨e11, ep0, ep1, ep2⟩ ?_
  clear hK K
  try simp only [Act.put, List.setIfInBounds_toArray, List.set_cons_zero, List.set_cons_succ]
  refine wpSeq_step rfl (fun K hK => ?_)
  go_simp
  refine hK _ _ ⟨e11, ep0, ep1, ep2⟩ ?_
  clear hK K
  try simp only [Act.put, List.setIfInBounds_toArray, List.set_cons_zero, List.set_cons_succ]
  change Oper.wp _ _ _ _ _ _
  go_simp
  have hone := push_one HAT.out HGO.out c HGOOD.out (by have := HW.out; omega) (gg := gg) (cap := cap') (W' := w2) hown1 (by rw [HVS.out]; exact hgrow) (by rw [HVS.out]; simpa using hat)
  obtain ⟨s1, m1, m2, m3, m4, m5⟩ := hone
  have HFL := Lib.hid (flush_is m2 (by rw [weight_mach, m1, weight_push, ← weight_mach]; simpa [wtL] using HW.out))
  rw [m1] at HFL
  have HGO1 := Lib.hid m3
  clear m1 m2 m3 m4 m5 hown1 hgrow hat e11 ep0 ep1 ep2 ef d11 dp0 dp1 dp2 df p0 p1 p2 nb ng c11 c12
  go_wp2_with fail
  refine HFL.out.mono ?_
  rintro e w5 hE
  have HE5 := Lib.hid (ends_trans HGO1.out hE)
  obtain ⟨rfl, _⟩ := ends_some hE rfl
  clear hE
  go_wp2_with fail
  go_end0
  rw [HR.out]
  exact HE5.out
end

section
open Go.RowKit
set_option maxRecDepth 100000
set_option linter.unusedVariables false
set_option linter.unusedSimpArgs false

/-- What is left where a step has ended too long. -/
theorem ends_long {b mb : Nat} {s s1 : MS} {w w1 w' : World} (hg : Goes b mb s s1 w w1) (hf : Frame (s1.X b mb) w1 w') : Frame (s.X b mb) w w' := hg.1.trans hf fun q hq hx => (hg.2 q hx).resolve_right (by omega)
set_option maxHeartbeats 16000000 in
theorem line_literal {B0 b mb : Nat} {ov : OptV} {s : MS} {w : World} (h : MAt B0 b mb ov s w) (c : Cm) (hc : Good w B0 (s.F b mb w) c) (hp : s.put = []) (hk : c.d.kind = 6) :
    Calls Tryd.prog 54 #[.pointer (some ⟨b, 0, none⟩), c.val] w fun e w' => Ends B0 b mb ov s w (lineM ov.o s.mach c.cmd) e w' := by
  have HR : Hid (lineM ov.o s.mach c.cmd = (putM s.mach ov.o.nl).map fun m1 => { m1 with col := 0 }) := Lib.hid (by
    unfold lineM
    rw [if_neg (by unfold MS.mach; simp [hp]), if_pos (show c.cmd.d.kind = 6 from hk)])
  have hb0 : Below w.heap.size w (w.alloc (.cells #[.pointer c.p, .bool c.flat, .pointer (some c.a)] 69)) := (Below.refl _ w).alloc (Nat.le_refl _) _
  have hat := h.below hb0
  have hgo : Goes b mb s s w (w.alloc (.cells #[.pointer c.p, .bool c.flat, .pointer (some c.a)] 69)) := Goes.of_below hb0
  have hgood := h.good_goes hgo hc
  have hblk := Blk.new w [.pointer c.p, .bool c.flat, .pointer (some c.a)] 69
  have p2 : (w.alloc (.cells #[.pointer c.p, .bool c.flat, .pointer (some c.a)] 69)).cell? ⟨w.heap.size, 2, none⟩ = some (.pointer (some c.a)) := hblk.cell 2
  obtain ⟨gd, off, hca, hFd, dk⟩ := doc_kind hgood.doc
  rw [hk] at dk
  rw [hca] at p2
  have c12 := hat.cells.2.2.2.2.2.2.1
  have c14 := hat.cells.2.2.2.2.2.2.2.2
  obtain ⟨A, cp, hvp⟩ := own_slice hat.put
  rw [hvp, hp] at c12
  have HWRT := Lib.hid (write_is hat (strOf ov.o.nl) (by have := nl_size ov.o; omega))
  rw [strOf_list] at HWRT
  have HGO := Lib.hid hgo
  unfold Cm.val
  rw [hca]
  rw [hca] at HWRT HGO c12 c14 dk
  clear h hc hp hk hb0 hat hgo hgood hblk hFd hvp hca
  go_enter Tryd.func54, Tryd.ntmps54
  go_wp2_with fail
  refine HWRT.out.mono ?_
  rintro e w1 hE
  have HE := Lib.hid hE
  clear hE
  cases hR : putM s.mach ov.o.nl with
  | none =>
    obtain ⟨rfl, hfr⟩ := ends_none HE.out hR
    have HN : Hid (lineM ov.o s.mach c.cmd = none) := Lib.hid (by rw [HR.out, hR]; rfl)
    refine ⟨rfl, ?_⟩
    rw [HN.out]
    exact ⟨rfl, ends_long HGO.out hfr⟩
  | some m1 =>
    obtain ⟨rfl, s1, hm1, hat1, hgo1⟩ := ends_some HE.out hR
    have HN : Hid (lineM ov.o s.mach c.cmd = some { m1 with col := 0 }) := Lib.hid (by rw [HR.out, hR]; rfl)
    have hset := hat1.setCol 0 (Int.le_refl _) (by omega)
    have c10 := hat1.cells.2.2.2.2.1
    have f10 := hat1.blk.frozen 10
    have HS := Lib.hid hset
    have HG := Lib.hid ((HGO.out.trans hgo1).trans hset.2)
    have HM1 := Lib.hid hm1
    clear hset hat1 hgo1 hm1 hR
    go_wp2_with fail
    go_end0
    rw [HN.out]
    exact ⟨rfl, _, by rw [← HM1.out]; rfl, HS.out.1, HG.out⟩

set_option maxHeartbeats 16000000 in
theorem line_plain {B0 b mb : Nat} {ov : OptV} {s : MS} {w : World} (h : MAt B0 b mb ov s w) (c : Cm) (hc : Good w B0 (s.F b mb w) c) (hp : s.put = []) (hk : c.d.kind ≠ 6) :
    Calls Tryd.prog 54 #[.pointer (some ⟨b, 0, none⟩), c.val] w fun e w' => Ends B0 b mb ov s w (lineM ov.o s.mach c.cmd) e w' := by
  have HR : Hid (lineM ov.o s.mach c.cmd = (putM { s.mach with out := trimR s.out } ov.o.nl).bind fun m1 => (indM ov.o c.ind m1).map fun m2 => { m2 with col := c.ind.wide }) := Lib.hid (by
    unfold lineM
    rw [if_neg (by unfold MS.mach; simp [hp]), if_neg (show ¬ c.cmd.d.kind = 6 from hk)]
    rfl)
  have hb0 : Below w.heap.size w (w.alloc (.cells #[.pointer c.p, .bool c.flat, .pointer (some c.a)] 69)) := (Below.refl _ w).alloc (Nat.le_refl _) _
  have hat := h.below hb0
  have hgo : Goes b mb s s w (w.alloc (.cells #[.pointer c.p, .bool c.flat, .pointer (some c.a)] 69)) := Goes.of_below hb0
  have hgood := h.good_goes hgo hc
  have hblk := Blk.new w [.pointer c.p, .bool c.flat, .pointer (some c.a)] 69
  have hFg : s.F b mb (w.alloc (.cells #[.pointer c.p, .bool c.flat, .pointer (some c.a)] 69)) w.heap.size := ⟨by simp, fun hx => Nat.lt_irrefl _ (h.X_lt hx)⟩
  obtain ⟨gd, off, hca, hFd, dk⟩ := doc_kind hgood.doc
  obtain ⟨A, cp, hvp⟩ := own_slice hat.put
  obtain ⟨A9, n9, hvo⟩ := own_slice hat.out
  have HWD := Lib.hid (wide_bound hc.ok)
  have HIO := Lib.hid hc.ok.ind
  obtain ⟨wr, hwr⟩ : ∃ wr, wr = w.alloc (.cells #[.pointer c.p, .bool c.flat, .pointer (some c.a)] 69) := ⟨_, rfl⟩
  obtain ⟨g, hg⟩ : ∃ g, g = w.heap.size := ⟨_, rfl⟩
  rw [← hwr] at hat hgo hgood hblk hFg dk hFd
  rw [← hg] at hblk hFg
  have hk6 : (c.d.kind == 6) = false := by simpa using hk
  generalize c.d.kind = kk at dk hk6
  have p0 : wr.cell? ⟨g, 0, none⟩ = some (.pointer c.p) := hblk.cell 0
  have p2 : wr.cell? ⟨g, 2, none⟩ = some (.pointer (some c.a)) := hblk.cell 2
  rw [hca] at p2
  have c9 := hat.cells.2.2.2.1
  have f9 := hat.blk.frozen 9
  have c12 := hat.cells.2.2.2.2.2.2.1
  rw [hvp, hp] at c12
  rw [hvo] at c9
  have hblt := hat.blk.lt
  have HTR := Lib.hid (trim_is hat hvo)
  have HVO := Lib.hid hvo
  have HAT := Lib.hid hat
  have HGO := Lib.hid hgo
  have HGD := Lib.hid hgood
  have HFG := Lib.hid hFg
  have HBK := Lib.hid hblk
  have HWR := Lib.hid hwr
  have HG0 := Lib.hid hg
  unfold Cm.val
  rw [hca]
  have HCA := Lib.hid hca
  rw [hca] at hwr
  rw [hwr] at p0 p2 c9 f9 c12 dk hblt
  rw [hg] at p0 p2
  clear h hc hp hk hb0 hat hgo hgood hblk hFd hvp hca hvo hFg hwr hg
  go_enter Tryd.func54, Tryd.ntmps54
  go_wp2_with fail
  simp only [← HCA.out, ← HWR.out, ← HG0.out] at p0 p2 c9 f9 c12 dk hblt ⊢
  refine HTR.out.mono ?_
  rintro e w1 ⟨rfl, hb1⟩
  have hat1 := HAT.out.below hb1
  have hgo1 := HGO.out.trans (Goes.of_below (b := b) (mb := mb) (s := s) hb1)
  have d9 := hat1.cells.2.2.2.1
  have g9 := hat1.blk.frozen 9
  rw [HVO.out] at d9
  have hcut := hat1.cutOut HVO.out (trimR_len s.out) _ rfl
  rw [← trimR_take] at hcut
  have HCUT := Lib.hid hcut.1
  have HGO2 := Lib.hid (hgo1.trans hcut.2)
  have HGO2b := Lib.hid ((Goes.of_below (b := b) (mb := mb) (s := s) hb1).trans hcut.2)
  have e14 := hcut.1.cells.2.2.2.2.2.2.2.2
  have HWRT := Lib.hid (write_is hcut.1 (strOf ov.o.nl) (by have := nl_size ov.o; omega))
  rw [strOf_list] at HWRT
  clear hb1 hat1 hgo1 hcut p0 p2 c9 f9 c12 dk hblt
  go_wp2_with fail
  refine HWRT.out.mono ?_
  rintro e w2 hE
  have HE := Lib.hid hE
  clear hE
  have HM0 : Hid (({ s with out := trimR s.out, vo := .slice A9 (trimR s.out).length n9 } : MS).mach = { s.mach with out := trimR s.out }) := Lib.hid rfl
  rw [HM0.out] at HE
  cases hR : putM { s.mach with out := trimR s.out } ov.o.nl with
  | none =>
    obtain ⟨rfl, hfr⟩ := ends_none HE.out hR
    have HN : Hid (lineM ov.o s.mach c.cmd = none) := Lib.hid (by rw [HR.out, hR]; rfl)
    refine ⟨rfl, ?_⟩
    rw [HN.out]
    exact ⟨rfl, ends_long HGO2.out hfr⟩
  | some m1 =>
    obtain ⟨rfl, s2, hm2, hat2, hgo2⟩ := ends_some HE.out hR
    have HR2 : Hid (lineM ov.o s.mach c.cmd = (indM ov.o c.ind m1).map fun m2 => { m2 with col := c.ind.wide }) := Lib.hid (by rw [HR.out, hR]; rfl)
    have hgoA := HGO2b.out.trans hgo2
    have HFG2 := Lib.hid (hgoA.F HFG.out)
    have q0 : w2.cell? ⟨g, 0, none⟩ = some (.pointer c.p) := (Blk.cell (show Blk w2 g _ _ from HFG2.out.2.trans HBK.out) 0)
    have HIN := Lib.hid (indent_is c.ind hat2 (hgoA.ind HGD.out.ind) HIO.out)
    rw [hm2] at HIN
    have HGO3 := Lib.hid (HGO2.out.trans hgo2)
    have HGOA := Lib.hid hgoA
    clear hgoA hgo2 hat2 hm2 hR e14 d9 g9
    go_wp2_with fail
    refine HIN.out.mono ?_
    rintro e w3 hE3
    have HE3 := Lib.hid hE3
    clear hE3
    cases hR3 : indM ov.o c.ind m1 with
    | none =>
      obtain ⟨rfl, hfr⟩ := ends_none HE3.out hR3
      have HN : Hid (lineM ov.o s.mach c.cmd = none) := Lib.hid (by rw [HR2.out, hR3]; rfl)
      refine ⟨rfl, ?_⟩
      rw [HN.out]
      exact ⟨rfl, ends_long HGO3.out hfr⟩
    | some m3 =>
      obtain ⟨rfl, s3, hm3, hat3, hgo3⟩ := ends_some HE3.out hR3
      have HN : Hid (lineM ov.o s.mach c.cmd = some { m3 with col := c.ind.wide }) := Lib.hid (by rw [HR2.out, hR3]; rfl)
      have hgoB := HGOA.out.trans hgo3
      have hfg3 := hgoB.F HFG.out
      have r0 : w3.cell? ⟨g, 0, none⟩ = some (.pointer c.p) := (Blk.cell (show Blk w3 g _ _ from hfg3.2.trans HBK.out) 0)
      have c10 := hat3.cells.2.2.2.2.1
      have f10 := hat3.blk.frozen 10
      have HWI := Lib.hid (wide_is c.ind c.p w3 _ (hgoB.ind HGD.out.ind))
      have hset := hat3.setCol c.ind.wide HWD.out.1 (by have := HWD.out.2; omega)
      have HS := Lib.hid hset.1
      have HG := Lib.hid ((HGO3.out.trans hgo3).trans hset.2)
      have HM1 := Lib.hid hm3
      clear hset hat3 hgo3 hm3 hR3 hgoB hfg3 q0
      go_wp2_with fail
      refine HWI.out.mono ?_
      rintro e w4 ⟨rfl, rfl⟩
      go_wp2_with fail
      go_end0
      rw [HN.out]
      exact ⟨rfl, _, by rw [← HM1.out]; rfl, HS.out, HG.out⟩
/-- A line's end. -/
theorem line_is {B0 b mb : Nat} {ov : OptV} {s : MS} {w : World} (h : MAt B0 b mb ov s w) (c : Cm) (hc : Good w B0 (s.F b mb w) c) (hw : s.weight + c.d.wt ≤ 8388608) :
    Calls Tryd.prog 54 #[.pointer (some ⟨b, 0, none⟩), c.val] w fun e w' => Ends B0 b mb ov s w (lineM ov.o s.mach c.cmd) e w' := by
  by_cases hp : s.put = []
  · by_cases hk : c.d.kind = 6
    · exact line_literal h c hc hp hk
    · exact line_plain h c hc hp hk
  · exact line_put h c hc hw hp
end
end Go.Proofs.YthljgiimdcbfpaaDoor
