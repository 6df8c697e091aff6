/- Small words on worlds, and what the walks of this seat share: plain lemmas over any program; a walk's region that draws its order, at the class of worlds 'Below'. -/
import Derived.WalkKit
import Derived.Lib.Hide
import Derived.BigQuiet
import Derived.ChangeSame
import Derived.ProofKit
import Derived.OpenShut
import Derived.RangeFuncNested
import Derived.RangeFuncBound
import Derived.RangeFuncCalls
import Derived.RangeFuncLeaves
import Derived.Shelf.Abstract
import Derived.Shelf.RegionOpen
import Derived.OwnWalkIn
import Derived.TacticsInMore
import Derived.LoopNIn
import Derived.LoopIn
import Derived.Deep.LoopGhost
import Derived.Laws.AppendOwnNone
import Derived.Test.YthljgiimdcbfpaaDoorRows
import Derived.WalkSmall
import Derived.Deep.RegionHeld3
import Derived.Deep.AppendLies
import Derived.Outline
import Derived.Deep.Cut
import Derived.Laws.RangeAny
import Derived.Lib.IndexBytes
import Derived.Test.YthljgiimdcbfpaaDoorShelf
import Derived.WalkMore
import Derived.Lib.OthersKept
namespace Go.Proofs.YthljgiimdcbfpaaDoor
section
open Go.RowKit Go.WideShapes Go.ChangeShapes

theorem ret_bool {a b : Bool} (h : a = b) : Ending.returned (.bool a) = .returned (.bool b) := by rw [h]
theorem ret_int {k : IntKind} {a b : Int} (h : a = b) : Ending.returned (.int k a) = .returned (.int k b) := by rw [h]
theorem below_drewN {B : Nat} {a w : World} (h : Below B a w) (n : Nat) : Below B a (w.drewN n) := ⟨h.os, h.tape, h.output, h.size, h.block⟩

/-- A contract that says 'Below' of its own world, met in a world of the class. -/
theorem quiet_in {P : Program} {f : FuncId} {args : Array Value} {B : Nat} {w w1 : World} {v : Value}
    (h : Calls P f args w1 fun e w' => e = .returned v ∧ Below w1.heap.size w1 w') (hB : B ≤ w.heap.size) (hb : Below B w w1) :
    Calls P f args w1 fun e w'' => e = .returned v ∧ Below B w w'' :=
  h.mono fun _ _ ⟨he, hk⟩ => ⟨he, hb.trans (hk.mono (Nat.le_trans hB hb.size))⟩

/-- A call behind what has been done. -/
theorem _root_.Go.RowKit.Below.call {B : Nat} {w w1 w2 : World} (h : Below B w w1) (k : Below w1.heap.size w1 w2) (hB : B ≤ w.heap.size := by exact Nat.le_refl _) : Below B w w2 := h.trans (k.mono (Nat.le_trans hB h.size))
/-- A new block, then a call. -/
theorem _root_.Go.RowKit.Below.ac {B : Nat} {w w1 w2 : World} {o : Obj} (h : Below B w w1) (k : Below (w1.alloc o).heap.size (w1.alloc o) w2) (hB : B ≤ w.heap.size := by exact Nat.le_refl _) : Below B w w2 := (h.alloc (Nat.le_trans hB h.size) o).call k hB

/-- A region that draws its order, at the class 'what lay below B stands'. -/
theorem wp_region_below {P : Program} {id : Nat} {Q : Exit → Act → World → Prop} {a : Act} {w : World} {l : List Oper} (B : Nat) (hm : P.follows .mixedOrders = true) (hB : Region.lexB .any l.toArray = true)
    (h : wpQuiet P l.toArray (fun w' => Below B w w') (fun a' => ∀ w', Below B w w' → Q .normal a' w') l a) : (Code.region id l.toArray true).wp P Q a w :=
  wp_region_quiet (C := fun w' => Below B w w') hm hB (Below.refl B w).drew (by simpa using h)

section
variable {H : Type} {enc : TypeId × Value → H} {P : Program}
/-- THE LAST STEP OF A LAW's ROW: the call handed back true, what lay in memory stands, and what was read (the arguments, the listed variables) reads as it did. -/
theorem law_post {f : Func} {s : ChangeSpec} {apart fresh handsOn again : Bool} {W W' : World} {args : Array Value} {ds gs : List (DataW H)} {pa pv : List MemPlace} {t : TypeId}
    (ht : P.underlying t = some .bool) (hrt : f.resultTypes = #[t])
    (hW : DataW.Whole enc P f.params.toList s.vars apart W args.toList ds gs (pa ++ pv))
    (hres : (s.fn H (ds ++ gs)).results = [.lit (.bool true)])
    (hargs : ∀ sp : Nat → Bool, (∀ p ∈ pa ++ pv, sp p.block = true) → DataW.TrodAll enc P W' 0 sp true f.params.toList args.toList (s.fn H (ds ++ gs)).args pa)
    (hvars : ∀ sp : Nat → Bool, (∀ p ∈ pa ++ pv, sp p.block = true) → DataW.TrodVars enc P W' sp s.vars (s.fn H (ds ++ gs)).vars pv)
    (hb : Below W.heap.size W W') :
    s.post enc P f apart fresh handsOn again W args (.bool true) W' := by
  have lt : ∀ p ∈ pa ++ pv, p.block < W.heap.size := fun p hp => hW.lt p hp
  have old : ∀ p ∈ pa ++ pv, (fun b => decide (b < W.heap.size)) p.block = true := fun p hp => by simpa using lt p hp
  have res : ∀ (b : Nat) (sp : Nat → Bool) (hd : Bool), DataW.TrodAll enc P W' b sp hd f.resultTypes.toList ((Value.bool true).resultList f.resultTypes.size) (s.fn H (ds ++ gs)).results [] := fun b sp hd => by
    rw [hres, hrt]
    exact trodAll_mk1 (shut_bool ht true)
  refine ⟨ds, gs, pa ++ pv, [], pa, pv, hW, res _ _ _, hargs _ old, hvars _ old, World.keptBut_mono (fun p hp => ⟨hp, Or.inr (List.mem_append.1 hp)⟩) (hb.frame (· ∈ pa ++ pv)), fun _ => ?_⟩
  obtain ⟨_, _, _, _, _, hz, hn⟩ := hW
  refine ⟨?_, _, _, ([] ++ pa) ++ pv, ⟨[] ++ pa, pv, trodAll_append (hargs _ (fun _ _ => rfl)) (res _ _ _), hvars _ (fun _ _ => rfl), rfl, ?_, ?_⟩, ?_⟩
  · exact ok_one hrt rfl (okWide_bool_mk ht true)
  · intro b off hp
    have hin : MemPlace.cell b off ∈ pa ++ pv := by simpa using hp
    rw [hb.frozen (lt _ hin)]
    exact hz b off hin
  · intro ha
    simpa using hn ha
  · intro p hp _
    simpa using hp
end
end

section
open Go.RowKit

/-- A document. -/
inductive Doc where
  | mk (kind : Int) (text : ByteArray) (kids : List Doc) (brk : Bool) (id : Int) (width : Int)
namespace Doc
def kind : Doc → Int | .mk k _ _ _ _ _ => k
def text : Doc → ByteArray | .mk _ t _ _ _ _ => t
def kids : Doc → List Doc | .mk _ _ ks _ _ _ => ks
def brk : Doc → Bool | .mk _ _ _ b _ _ => b
def id : Doc → Int | .mk _ _ _ _ i _ => i
def width : Doc → Int | .mk _ _ _ _ _ y => y
end Doc
theorem Doc.eta (d : Doc) : d = .mk d.kind d.text d.kids d.brk d.id d.width := by cases d; rfl
theorem Doc.size_kid {d x : Doc} (h : x ∈ d.kids) : SizeOf.sizeOf x < SizeOf.sizeOf d := by
  cases d with
  | mk k t ks b i y =>
    have := List.sizeOf_lt_of_mem (show x ∈ ks from h)
    simp only [Doc.mk.sizeOf_spec]
    omega
/-- INDUCTION: what holds of a document whenever it holds of its kids holds of every one. -/
theorem Doc.ind {P : Doc → Prop} (h : ∀ d : Doc, (∀ x ∈ d.kids, P x) → P d) (d : Doc) : P d := h d fun x _hx => Doc.ind h x
  termination_by SizeOf.sizeOf d
  decreasing_by exact Doc.size_kid _hx

mutual
/-- How many documents it has. -/
def Doc.nodes : Doc → Nat
  | .mk _ _ ks _ _ _ => nodesL ks + 1
def nodesL : List Doc → Nat
  | [] => 0
  | d :: ds => d.nodes + nodesL ds
end
mutual
/-- How deep it is nested. -/
def Doc.depth : Doc → Nat
  | .mk _ _ ks _ _ _ => depthL ks + 1
def depthL : List Doc → Nat
  | [] => 0
  | d :: ds => max d.depth (depthL ds)
end
mutual
/-- Its size: documents and letters. -/
def Doc.bulk : Doc → Nat
  | .mk _ t ks _ _ _ => bulkL ks + t.size + 1
def bulkL : List Doc → Nat
  | [] => 0
  | d :: ds => d.bulk + bulkL ds
end
theorem Doc.nodes_eq (d : Doc) : d.nodes = nodesL d.kids + 1 := by cases d; rfl
theorem Doc.depth_eq (d : Doc) : d.depth = depthL d.kids + 1 := by cases d; rfl
theorem Doc.bulk_eq (d : Doc) : d.bulk = bulkL d.kids + d.text.size + 1 := by cases d; rfl
theorem nodesL_app (a b : List Doc) : nodesL (a ++ b) = nodesL a + nodesL b := by
  induction a with
  | nil => simp [nodesL]
  | cons d a ih => simp only [List.cons_append, nodesL, ih]; omega
theorem bulkL_app (a b : List Doc) : bulkL (a ++ b) = bulkL a + bulkL b := by
  induction a with
  | nil => simp [bulkL]
  | cons d a ih => simp only [List.cons_append, bulkL, ih]; omega
theorem depthL_app (a b : List Doc) : depthL (a ++ b) = max (depthL a) (depthL b) := by
  induction a with
  | nil => simp [depthL]
  | cons d a ih => simp only [List.cons_append, depthL, ih]; omega
theorem nodesL_mem {ks : List Doc} {x : Doc} (h : x ∈ ks) : x.nodes ≤ nodesL ks := by
  induction ks with
  | nil => simp at h
  | cons d ds ih =>
    simp only [nodesL]
    rcases List.mem_cons.1 h with rfl | h
    · omega
    · have := ih h; omega
theorem bulkL_mem {ks : List Doc} {x : Doc} (h : x ∈ ks) : x.bulk ≤ bulkL ks := by
  induction ks with
  | nil => simp at h
  | cons d ds ih =>
    simp only [bulkL]
    rcases List.mem_cons.1 h with rfl | h
    · omega
    · have := ih h; omega
theorem depthL_mem {ks : List Doc} {x : Doc} (h : x ∈ ks) : x.depth ≤ depthL ks := by
  induction ks with
  | nil => simp at h
  | cons d ds ih =>
    simp only [depthL]
    rcases List.mem_cons.1 h with rfl | h
    · omega
    · have := ih h; omega
theorem Doc.nodes_pos (d : Doc) : 0 < d.nodes := by rw [Doc.nodes_eq]; omega
theorem nodesL_len (ks : List Doc) : ks.length ≤ nodesL ks := by
  induction ks with
  | nil => simp [nodesL]
  | cons d ds ih => have := d.nodes_pos; simp only [nodesL, List.length_cons]; omega
theorem Doc.depth_nodes (d : Doc) : d.depth ≤ d.nodes := by
  refine Doc.ind (P := fun d => d.depth ≤ d.nodes) (fun d ih => ?_) d
  rw [Doc.depth_eq, Doc.nodes_eq]
  have : ∀ ks : List Doc, (∀ x ∈ ks, x.depth ≤ x.nodes) → depthL ks ≤ nodesL ks := by
    intro ks
    induction ks with
    | nil => intro _; simp [depthL]
    | cons x xs ih2 =>
      intro h
      have h1 := h x (by simp)
      have h2 := ih2 (fun y hy => h y (by simp [hy]))
      simp only [depthL, nodesL]
      omega
  have := this d.kids ih
  omega
theorem Doc.nodes_bulk (d : Doc) : d.nodes ≤ d.bulk := by
  refine Doc.ind (P := fun d => d.nodes ≤ d.bulk) (fun d ih => ?_) d
  rw [Doc.nodes_eq, Doc.bulk_eq]
  have : ∀ ks : List Doc, (∀ x ∈ ks, x.nodes ≤ x.bulk) → nodesL ks ≤ bulkL ks := by
    intro ks
    induction ks with
    | nil => intro _; simp [nodesL]
    | cons x xs ih2 =>
      intro h
      have h1 := h x (by simp)
      have h2 := ih2 (fun y hy => h y (by simp [hy]))
      simp only [bulkL, nodesL]
      omega
  have := this d.kids ih
  omega
theorem bulkL_bulk {d : Doc} : bulkL d.kids < d.bulk := by rw [Doc.bulk_eq]; omega
theorem Doc.kid_bulk {d x : Doc} (h : x ∈ d.kids) : x.bulk < d.bulk := Nat.lt_of_le_of_lt (bulkL_mem h) bulkL_bulk
theorem Doc.kids_len (d : Doc) : d.kids.length < d.bulk := by
  have h1 := nodesL_len d.kids
  have h2 := d.nodes_bulk
  rw [Doc.nodes_eq] at h2
  omega

/-! ### In memory -/
/-- The six cells of a document, its kids' slice being kv. -/
structure Six (W : World) (g off : Nat) (d : Doc) (kv : Value) : Prop where
  kind : W.cell? ⟨g, off, none⟩ = some (.int .i64 d.kind)
  text : W.cell? ⟨g, off + 1, none⟩ = some (.string d.text)
  kids : W.cell? ⟨g, off + 2, none⟩ = some kv
  brk : W.cell? ⟨g, off + 3, none⟩ = some (.bool d.brk)
  id : W.cell? ⟨g, off + 4, none⟩ = some (.int .i64 d.id)
  width : W.cell? ⟨g, off + 5, none⟩ = some (.int .i64 d.width)
mutual
/-- kv is the slice of this document's kids, all its blocks from lo on, below hi. -/
def KV (W : World) (lo hi : Nat) : Doc → Value → Prop
  | .mk _ _ ks _ _ _, kv => ∃ a cap, kv = .slice a ks.length cap ∧ ks.length ≤ cap ∧ (0 < ks.length → ∃ g off, a = some ⟨g, off, none⟩ ∧ lo ≤ g ∧ g < hi ∧ EV W lo hi g ks off)
/-- At this place lie these documents, one behind the other. -/
def EV (W : World) (lo hi g : Nat) : List Doc → Nat → Prop
  | [], _ => True
  | d :: ds, off => (∃ kv, Six W g off d kv ∧ KV W lo hi d kv) ∧ EV W lo hi g ds (off + 6)
end
theorem KV_iff {W : World} {lo hi : Nat} {d : Doc} {kv : Value} : KV W lo hi d kv ↔ ∃ a cap, kv = .slice a d.kids.length cap ∧ d.kids.length ≤ cap ∧ (0 < d.kids.length → ∃ g off, a = some ⟨g, off, none⟩ ∧ lo ≤ g ∧ g < hi ∧ EV W lo hi g d.kids off) := by
  cases d
  rw [KV]
  rfl
theorem EV_iff {W : World} {lo hi g : Nat} : ∀ {ks : List Doc} {off : Nat}, EV W lo hi g ks off ↔ ∀ j, (h : j < ks.length) → ∃ kv, Six W g (off + j * 6) ks[j] kv ∧ KV W lo hi ks[j] kv
  | [], off => by simp [EV]
  | d :: ds, off => by
    rw [EV, EV_iff]
    constructor
    · rintro ⟨h0, h1⟩ j hj
      cases j with
      | zero => rw [Nat.zero_mul, Nat.add_zero]; exact h0
      | succ j =>
        have := h1 j (by simpa using hj)
        rw [show off + 6 + j * 6 = off + (j + 1) * 6 by omega] at this
        simpa using this
    · intro h
      refine ⟨by have := h 0 (by simp); rw [Nat.zero_mul, Nat.add_zero] at this; exact this, fun j hj => ?_⟩
      have := h (j + 1) (by simpa using hj)
      rw [show off + (j + 1) * 6 = off + 6 + j * 6 by omega] at this
      simpa using this
theorem Six.of {W W' : World} {g off : Nat} {d : Doc} {kv : Value} (h : Six W g off d kv) (hg : W'.heap[g]? = W.heap[g]?) : Six W' g off d kv := by
  have hc : ∀ o, W'.cell? ⟨g, o, none⟩ = W.cell? ⟨g, o, none⟩ := fun o => by simp only [World.cell?, hg]
  exact ⟨(hc _).trans h.kind, (hc _).trans h.text, (hc _).trans h.kids, (hc _).trans h.brk, (hc _).trans h.id, (hc _).trans h.width⟩
/-- WHAT LIES STAYS, where its blocks do. -/
theorem KV.of {W W' : World} {lo hi lo' hi' : Nat} (hlo : lo' ≤ lo) (hhi : hi ≤ hi') (hs : ∀ b, lo ≤ b → b < hi → W'.heap[b]? = W.heap[b]?) : ∀ {d : Doc} {kv : Value}, KV W lo hi d kv → KV W' lo' hi' d kv := by
  intro d kv
  revert kv
  refine Doc.ind (P := fun d => ∀ {kv}, KV W lo hi d kv → KV W' lo' hi' d kv) (fun d ih => ?_) d
  intro kv h
  rw [KV_iff] at h ⊢
  obtain ⟨a, cap, rfl, hcap, h⟩ := h
  refine ⟨a, cap, rfl, hcap, fun h0 => ?_⟩
  obtain ⟨g, off, rfl, h1, h2, h3⟩ := h h0
  refine ⟨g, off, rfl, by omega, by omega, ?_⟩
  rw [EV_iff] at h3 ⊢
  intro j hj
  obtain ⟨kv, h4, h5⟩ := h3 j hj
  exact ⟨kv, h4.of (hs g h1 h2), ih _ (List.getElem_mem hj) h5⟩
theorem KV.below {W W' : World} {lo hi : Nat} {d : Doc} {kv : Value} (h : KV W lo hi d kv) (hb : Below W.heap.size W W') (hh : hi ≤ W.heap.size) : KV W' lo hi d kv :=
  h.of (Nat.le_refl _) (Nat.le_refl _) fun b _ h2 => hb.block b (by omega)
theorem KV.wide {W : World} {lo hi lo' hi' : Nat} {d : Doc} {kv : Value} (h : KV W lo hi d kv) (hlo : lo' ≤ lo) (hhi : hi ≤ hi') : KV W lo' hi' d kv :=
  h.of hlo hhi fun _ _ _ => rfl
theorem EV.of {W W' : World} {lo hi lo' hi' g off : Nat} {ks : List Doc} (h : EV W lo hi g ks off) (hlo : lo' ≤ lo) (hhi : hi ≤ hi') (h1 : lo ≤ g) (h2 : g < hi) (hs : ∀ b, lo ≤ b → b < hi → W'.heap[b]? = W.heap[b]?) : EV W' lo' hi' g ks off := by
  rw [EV_iff] at h ⊢
  intro j hj
  obtain ⟨kv, h4, h5⟩ := h j hj
  exact ⟨kv, h4.of (hs g h1 h2), h5.of hlo hhi hs⟩

/-- A document by value. -/
def docV (d : Doc) (kv : Value) : Value := .agg #[.int .i64 d.kind, .string d.text, kv, .bool d.brk, .int .i64 d.id, .int .i64 d.width]
def docCells (d : Doc) (kv : Value) : List Value := [.int .i64 d.kind, .string d.text, kv, .bool d.brk, .int .i64 d.id, .int .i64 d.width]
/-- What the kids' slice of a document gives at a kid. -/
theorem KV.slice {W : World} {lo hi : Nat} {d : Doc} {kv : Value} (h : KV W lo hi d kv) : ∃ a cap, kv = .slice a d.kids.length cap := by
  rw [KV_iff] at h
  obtain ⟨a, cap, rfl, _⟩ := h
  exact ⟨a, cap, rfl⟩
theorem KV.cap {W : World} {lo hi : Nat} {d : Doc} {a : Option Addr} {n cap : Nat} (h : KV W lo hi d (.slice a n cap)) : n ≤ cap := by
  rw [KV_iff] at h
  obtain ⟨a', cap', e, hc, _⟩ := h
  cases e
  exact hc
theorem KV.kid {W : World} {lo hi : Nat} {d : Doc} {a : Option Addr} {n cap : Nat} (h : KV W lo hi d (.slice a n cap)) {j : Nat} (hj : j < d.kids.length) :
    ∃ g off, a = some ⟨g, off, none⟩ ∧ lo ≤ g ∧ g < hi ∧ ∃ kv, Six W g (off + j * 6) d.kids[j] kv ∧ KV W lo hi d.kids[j] kv := by
  rw [KV_iff] at h
  obtain ⟨a', cap', e, _, h⟩ := h
  cases e
  obtain ⟨g, off, rfl, h1, h2, h3⟩ := h (by omega)
  exact ⟨g, off, rfl, h1, h2, (EV_iff.1 h3) j hj⟩
end

section
open Go.RowKit

mutual
/-- A document's text on the flat way; none: it can't be gone. -/
def Doc.flat : Doc → Option (List UInt8)
  | .mk k t ks b _ _ =>
    if k = 1 then some t.data.toList
    else if k = 3 then some [32]
    else if k = 5 ∨ k = 6 ∨ k = 16 then Option.none
    else if k = 14 ∨ k = 4 ∨ k = 15 then some []
    else if k = 7 ∨ k = 8 then (if b = true then Option.none else flatH ks)
    else if k = 10 then flatT ks
    else flatL ks
/-- All of a list; its first; all but its first. -/
def flatL : List Doc → Option (List UInt8)
  | [] => some []
  | d :: ds => (d.flat).bind fun a => (flatL ds).map fun b => a ++ b
def flatH : List Doc → Option (List UInt8)
  | [] => some []
  | d :: _ => d.flat
def flatT : List Doc → Option (List UInt8)
  | [] => some []
  | _ :: ds => flatL ds
end
theorem Doc.flat_eq (d : Doc) : d.flat = if d.kind = 1 then some d.text.data.toList
    else if d.kind = 3 then some [32]
    else if d.kind = 5 ∨ d.kind = 6 ∨ d.kind = 16 then Option.none
    else if d.kind = 14 ∨ d.kind = 4 ∨ d.kind = 15 then some []
    else if d.kind = 7 ∨ d.kind = 8 then (if d.brk = true then Option.none else flatH d.kids)
    else if d.kind = 10 then flatT d.kids
    else flatL d.kids := by cases d; rfl
theorem flatL_app (a b : List Doc) : flatL (a ++ b) = (flatL a).bind fun x => (flatL b).map fun y => x ++ y := by
  induction a with
  | nil => cases h : flatL b <;> simp [flatL, h]
  | cons d a ih =>
    simp only [List.cons_append, flatL, ih]
    cases d.flat <;> simp
    cases flatL a <;> simp
    cases flatL b <;> simp
theorem flatL_one (d : Doc) : flatL [d] = d.flat := by
  simp only [flatL]
  cases d.flat <;> simp
theorem flatH_take (ks : List Doc) : flatH ks = flatL (ks.take 1) := by
  cases ks with
  | nil => rfl
  | cons d ds => simp only [flatH, List.take_succ_cons, List.take_zero, flatL_one]
theorem flatT_drop (ks : List Doc) : flatT ks = flatL (ks.drop 1) := by
  cases ks with
  | nil => rfl
  | cons d ds => rfl
theorem flatL_len : ∀ (ks : List Doc), (∀ d ∈ ks, ∀ l, d.flat = some l → l.length ≤ d.bulk) → ∀ l, flatL ks = some l → l.length ≤ bulkL ks
  | [], _, l, h => by cases h; simp
  | d :: ds, hd, l, h => by
    simp only [flatL] at h
    cases h1 : d.flat with
    | none => rw [h1] at h; cases h
    | some a =>
      rw [h1] at h
      cases h2 : flatL ds with
      | none => rw [h2] at h; cases h
      | some b =>
        rw [h2] at h
        cases h
        have := hd d (by simp) a h1
        have := flatL_len ds (fun x hx => hd x (by simp [hx])) b h2
        simp only [List.length_append, bulkL]
        omega
theorem bulkL_take (ks : List Doc) (n : Nat) : bulkL (ks.take n) ≤ bulkL ks := by
  have := bulkL_app (ks.take n) (ks.drop n)
  rw [List.take_append_drop] at this
  omega
theorem bulkL_drop (ks : List Doc) (n : Nat) : bulkL (ks.drop n) ≤ bulkL ks := by
  have := bulkL_app (ks.take n) (ks.drop n)
  rw [List.take_append_drop] at this
  omega
theorem bulkL_get {ks : List Doc} {j : Nat} (h : j < ks.length) : bulkL (ks.take j) + (ks[j]).bulk ≤ bulkL ks := by
  have h1 : ks.take (j + 1) = ks.take j ++ [ks[j]] := by rw [List.take_succ_eq_append_getElem h]
  have h2 := bulkL_take ks (j + 1)
  rw [h1, bulkL_app] at h2
  simpa [bulkL] using h2
theorem Doc.flat_len (d : Doc) : ∀ l, d.flat = some l → l.length ≤ d.bulk := by
  refine Doc.ind (P := fun d => ∀ l, d.flat = some l → l.length ≤ d.bulk) (fun d ih l h => ?_) d
  rw [Doc.flat_eq] at h
  rw [Doc.bulk_eq]
  have ht : d.text.size = d.text.data.toList.length := by simp
  have hL := flatL_len d.kids ih
  split at h
  · cases h; omega
  · split at h
    · cases h; simp
    · split at h
      · cases h
      · split at h
        · cases h; simp
        · split at h
          · split at h
            · cases h
            · rw [flatH_take] at h
              have := flatL_len (d.kids.take 1) (fun x hx => ih x (List.mem_of_mem_take hx)) l h
              have := bulkL_take d.kids 1
              omega
          · split at h
            · rw [flatT_drop] at h
              have := flatL_len (d.kids.drop 1) (fun x hx => ih x (List.mem_of_mem_drop hx)) l h
              have := bulkL_drop d.kids 1
              omega
            · have := hL l h
              omega
end

section
open Go.RowKit Go.Shelf
set_option linter.unusedVariables false

/-- Below n0, and from n1 on, all that lay lies. -/
def KpN (n0 n1 : Nat) (A B : World) : Prop := A.heap.size ≤ B.heap.size ∧ (∀ b, b < n0 → B.heap[b]? = A.heap[b]?) ∧ (∀ b, n1 ≤ b → b < A.heap.size → B.heap[b]? = A.heap[b]?)
theorem KpN.refl (n0 n1 : Nat) (A : World) : KpN n0 n1 A A := ⟨Nat.le_refl _, fun _ _ => rfl, fun _ _ _ => rfl⟩
theorem KpN.trans {n0 n1 : Nat} {A B C : World} (h : KpN n0 n1 A B) (k : KpN n0 n1 B C) : KpN n0 n1 A C :=
  ⟨Nat.le_trans h.1 k.1, fun b hb => (k.2.1 b hb).trans (h.2.1 b hb), fun b hb hlt => (k.2.2 b hb (Nat.lt_of_lt_of_le hlt h.1)).trans (h.2.2 b hb hlt)⟩
theorem KpN.below {n0 n1 : Nat} {A B : World} (h : Below A.heap.size A B) (hn : n0 ≤ A.heap.size) : KpN n0 n1 A B :=
  ⟨h.size, fun b hb => h.block b (by omega), fun b _ hlt => h.block b hlt⟩
theorem KpN.setCell {n0 n1 : Nat} (A : World) (a : Addr) (v : Value) (h0 : n0 ≤ a.block) (h1 : a.block < n1) : KpN n0 n1 A (A.setCell a v) :=
  ⟨by simp, fun b hb => Below.heap_setCell A a v b (by omega), fun b hb _ => Below.heap_setCell A a v b (by omega)⟩
/-- What an iterator is that keeps rows of its own: J speaks of what lay ahead of it. -/
def Iter {α : Type} (P : Program) (gf : Nat) (lb : Array Value) (encs : α → Array Value) (n0 n1 : Nat) (S Sp : List α → Prop) (W : World) : Prop :=
  ∀ (l : Nat) (J Jx : List α → World → Prop), (∀ pre A B, J pre A → Below W.heap.size A B → J pre B) → (∀ pre A B, Jx pre A → Below W.heap.size A B → Jx pre B) →
    (∀ pre x W1, J pre W1 → YieldAt Fence.wide 3 P l (encs x) W1 fun e W' =>
      (e = .returned (.bool true) ∧ J (pre ++ [x]) W' ∧ KpN n0 n1 W1 W') ∨ (e = .returned (.bool false) ∧ Jx (pre ++ [x]) W')) →
    J [] W →
    Calls P gf (#[.func (.yield l) #[] #[]] ++ lb) W fun e W' => (∃ v, e = .returned v) ∧ ((∃ xs, S xs ∧ J xs W') ∨ (∃ pre, Sp pre ∧ Jx pre W'))
/-- Where a round may end. -/
def rPost {α : Type} (n0 n1 : Nat) (I : List α → World → Prop) (Ix : Code → List α → World → Prop) (xs : List α) (W : World) : Exit → Act → World → Prop
  | .normal, _, W' => KpN n0 n1 W W' ∧ I xs W'
  | .ret, _, W' => KpN n0 n1 W W' ∧ Ix .ret xs W'
  | .exit id, _, W' => KpN n0 n1 W W' ∧ Ix (.exit id) xs W'
  | .goto t, _, W' => KpN n0 n1 W W' ∧ Ix (.goto t) xs W'
  | .panic _, _, _ => False
  | .outgrown, _, _ => False
theorem below_putObj {B : Nat} {A : World} {l : Nat} (o : Obj) (hl : B ≤ l) : Below B A (A.putObj l o) :=
  ⟨rfl, rfl, rfl, by simp, fun b hb => World.putObj_heap_other (by omega)⟩

/-- THE STATEMENT'S LAW. -/
theorem range_law {α : Type} {P : Program} {g : Operand} {ps : Array Tmp} {assign body : Code} {Q : Exit → Act → World → Prop} {a : Act} {w : World} {gf : Nat} {lb : Array Value}
    (hg : a.eval g = .func (.func gf) #[] lb) (eg : ∀ args w, (callFunc gf args).run P w = .ok (.enter gf args) w) {encs : α → Array Value} (hps : ∀ x, (encs x).size = ps.size) {n0 : Nat} {S Sp : List α → Prop} (hn0 : n0 ≤ w.heap.size)
    (hseq : ∀ W, Below w.heap.size w W → Iter P gf lb encs n0 w.heap.size S Sp W)
    (I : List α → World → Prop) (Ix : Code → List α → World → Prop) (hI : ∀ pre A B, I pre A → Below w.heap.size A B → I pre B) (hIx : ∀ c pre A B, Ix c pre A → Below w.heap.size A B → Ix c pre B) (h0 : I [] w) (a₁ : α → Act)
    (hassign : ∀ (l : Nat) (x : α) (W : World) (K : Act → World → Prop), K (a₁ x) W →
      assign.wpIn (Fence.wide.inRound l) 3 P (Exit.then K (fun _ _ _ => False)) { tmps := (ps.zip (encs x)).foldl (fun t (p, v) => t.setIfInBounds p v) a.tmps, defers := [] } W)
    (hbody : ∀ (l : Nat) (pre : List α) (x : α) (W : World), I pre W → body.wpIn (Fence.wide.inRound l) 3 P (rPost n0 w.heap.size I Ix (pre ++ [x]) W) (a₁ x) W)
    (hdone : ∀ (D : Nat) (xs : List α) (W : World), w.heap.size ≤ D → S xs → I xs W → W.heap[D]? = some (.deferred (some [])) → Q .normal { a with defers := { target := .collected D, args := #[] } :: a.defers } W)
    (hstop : ∀ (D : Nat) (c : Code) (pre : List α) (W : World), w.heap.size ≤ D → Sp pre → Ix c pre W → W.heap[D]? = some (.deferred (some [])) → c.wp P Q { a with defers := { target := .collected D, args := #[] } :: a.defers } W) :
    (Code.rangeFunc g ps assign body).wp P Q a w := by
  refine (wpIn_wide (n := 5)).1 (wpIn_rangeFunc fun fn hfn => ?_)
  have hr0 : Fence.wide.round = none := rfl
  rw [hr0]
  generalize hN : w.heap.size = N at *
  obtain ⟨rc, hrc⟩ : ∃ rc : LoopState → Option Code → Loop, rc = fun st pe => { state := st, pending := pe, fn, tmps := a.tmps, params := ps, assign, body, defers := N } := ⟨_, rfl⟩
  obtain ⟨V, hV⟩ : ∃ V, (w.alloc (.deferred (some []))).alloc (.loop (rc .ready none)) = V := ⟨_, rfl⟩
  have hVs : V.heap.size = N + 2 := by rw [← hV]; simp [hN]
  have hbV : Below N w V := by rw [← hV]; exact ((Below.refl N w).alloc (by omega) _).alloc (by simp; omega) _
  have hVl : V.heap[N + 1]? = some (.loop (rc .ready none)) := by
    rw [← hV]
    have h1 := World.alloc_heap_new (w.alloc (.deferred (some []))) (.loop (rc .ready none))
    rwa [World.size_alloc, hN] at h1
  have hVd : V.heap[N]? = some (.deferred (some [])) := by
    rw [← hV]
    have h1 := World.alloc_heap_new w (.deferred (some []))
    rw [hN] at h1
    exact (Below.heap_alloc _ _ N (by simp; omega)).trans h1
  refine ⟨N + 1, [{ target := .collected N, args := #[] }], V, { target := .fn (.func gf) lb, args := #[.func (.yield (N + 1)) #[] #[]] }, V, gf, #[.func (.yield (N + 1)) #[] #[]] ++ lb, V, ?_, ?_, fun _ _ => trivial, ?_, fun _ => by decide, ?_⟩
  · have h1 := run_enterLoop_outer (P := P) (w := w) fn a.tmps ps assign body
    rw [hN] at h1
    rw [← hV, hrc]
    exact h1
  · simp only [resolve, hg]
    simp [go_sem]
  · simp [invoke, go_sem, eg]
  · refine callsIn_wide.2 ((hseq V hbV (N + 1)
      (fun pre W => I pre W ∧ W.heap[N + 1]? = some (.loop (rc .ready none)) ∧ W.heap[N]? = some (.deferred (some [])))
      (fun pre W => ∃ c, Ix c pre W ∧ W.heap[N + 1]? = some (.loop (rc .done (some c))) ∧ W.heap[N]? = some (.deferred (some [])))
      (fun pre A B h hb => ⟨hI pre A B h.1 (hb.mono (by omega)), (hb.block _ (by omega)).trans h.2.1, (hb.block _ (by omega)).trans h.2.2⟩)
      (fun pre A B h hb => by
        obtain ⟨c, h1, h2, h3⟩ := h
        exact ⟨c, hIx c pre A B h1 (hb.mono (by omega)), (hb.block _ (by omega)).trans h2, (hb.block _ (by omega)).trans h3⟩)
      ?_ ⟨hI [] w V h0 hbV, hVl, hVd⟩).mono ?_)
    · rintro pre x W ⟨hi, hl, hd⟩
      have hlt : N + 1 < W.heap.size := (Array.getElem?_eq_some_iff.1 hl).1
      have hy := run_yield (P := P) (args := encs x) hl (by rw [hrc]; exact hps x)
      rw [hrc] at hy
      refine ⟨fn, _, assign, body, hy, roundIn_of_wpIn hfn (hassign _ x W _ ?_)⟩
      refine ⟨_, run_beginRound hl (by rw [hrc]), ?_⟩
      generalize hX : W.putObj (N + 1) (.loop { rc .ready none with state := .busy }) = X
      have hXl : X.heap[N + 1]? = some (.loop { rc .ready none with state := .busy }) := by rw [← hX]; exact World.putObj_heap_same hlt
      have hXo : ∀ b, b ≠ N + 1 → X.heap[b]? = W.heap[b]? := fun b hb => by rw [← hX]; exact World.putObj_heap_other hb
      have hXs : X.heap.size = W.heap.size := by rw [← hX]; simp
      have hXb : Below N W X := by rw [← hX]; exact below_putObj _ (by omega)
      refine wpIn_mono (hbody _ pre x X (hI _ _ _ hi hXb)) ?_
      have fin : ∀ (jump : Option Code) (Y : World), KpN n0 N X Y →
          (Instr.endRound (N + 1) jump).run P Y = .ok (.bool jump.isNone) (Y.putObj (N + 1) (.loop (rc (if jump.isNone then .ready else .done) jump))) ∧
          (Y.putObj (N + 1) (.loop (rc (if jump.isNone then .ready else .done) jump))).heap[N + 1]? = some (.loop (rc (if jump.isNone then .ready else .done) jump)) ∧
          (Y.putObj (N + 1) (.loop (rc (if jump.isNone then .ready else .done) jump))).heap[N]? = some (.deferred (some [])) := fun jump Y hk => by
        have h1 : Y.heap[N + 1]? = some (.loop { rc .ready none with state := .busy }) := (hk.2.2 _ (by omega) (by omega)).trans hXl
        have h2 := run_endRound (P := P) jump h1
        rw [hrc] at h2 ⊢
        exact ⟨h2, World.putObj_heap_same (Array.getElem?_eq_some_iff.1 h1).1, (World.putObj_heap_other (by omega)).trans ((hk.2.2 N (Nat.le_refl _) (by omega)).trans ((hXo N (by omega)).trans hd))⟩
      rintro e a3 Y hp
      cases e with
      | normal =>
        obtain ⟨hk, hi3⟩ := hp
        obtain ⟨f1, f2, f3⟩ := fin none Y hk
        refine ⟨_, _, f1, .inl ⟨rfl, ⟨hI _ _ _ hi3 (below_putObj _ (by omega)), f2, f3⟩, by simp; have := hk.1; omega, fun b hb => ?_, fun b hb hbl => ?_⟩⟩
        · exact (World.putObj_heap_other (by omega)).trans ((hk.2.1 b hb).trans (hXo b (by omega)))
        · by_cases hb1 : b = N + 1
          · subst hb1
            exact f2.trans hl.symm
          · exact (World.putObj_heap_other hb1).trans ((hk.2.2 b hb (by omega)).trans (hXo b hb1))
      | ret =>
        obtain ⟨hk, hi3⟩ := hp
        obtain ⟨f1, f2, f3⟩ := fin (some .ret) Y hk
        exact ⟨_, _, f1, .inr ⟨rfl, .ret, hIx _ _ _ _ hi3 (below_putObj _ (by omega)), f2, f3⟩⟩
      | exit id =>
        obtain ⟨hk, hi3⟩ := hp
        obtain ⟨f1, f2, f3⟩ := fin (some (.exit id)) Y hk
        exact ⟨_, _, f1, .inr ⟨rfl, .exit id, hIx _ _ _ _ hi3 (below_putObj _ (by omega)), f2, f3⟩⟩
      | goto t =>
        obtain ⟨hk, hi3⟩ := hp
        obtain ⟨f1, f2, f3⟩ := fin (some (.goto t)) Y hk
        exact ⟨_, _, f1, .inr ⟨rfl, .goto t, hIx _ _ _ _ hi3 (below_putObj _ (by omega)), f2, f3⟩⟩
      | panic ch => exact hp.elim
      | outgrown => exact hp.elim
    · rintro e Y ⟨⟨v, rfl⟩, (⟨xs, hS, hi, hl, hd⟩ | ⟨pre, hSp, c, hi, hl, hd⟩)⟩
      · exact ⟨none, _, by have h1 := run_endLoop (P := P) hl (by rw [hrc]; simp); rw [hrc] at h1; exact h1, hdone N xs _ (Nat.le_refl _) hS (hI _ _ _ hi (below_putObj _ (by omega))) ((World.putObj_heap_other (by omega)).trans hd)⟩
      · exact ⟨some c, _, by have h1 := run_endLoop (P := P) hl (by rw [hrc]; simp); rw [hrc] at h1; exact h1, wpIn_wide.2 (hstop N c pre _ (Nat.le_refl _) hSp (hIx _ _ _ _ hi (below_putObj _ (by omega))) ((World.putObj_heap_other (by omega)).trans hd))⟩
end

section
open Go.RowKit

/-- An element type's row of the table, in one word. -/
def ElemOf (P : Program) (t e : TypeId) (size bytes : Nat) : Prop :=
  ∃ (i : TypeInfo) (z : Value), P.underlying t = some (.slice e) ∧ P.info? e = some i ∧ i.zero = some z ∧ i.size = size ∧ i.bytes = bytes ∧ z.cells.size = size ∧ 0 < size
theorem ElemOf.mk' {P : Program} {t e : TypeId} {size bytes : Nat} (z : Value) (ht : P.underlying t = some (.slice e)) (hi : (P.info? e).map (fun i => (i.zero, i.size, i.bytes)) = some (some z, size, bytes)) (hz : z.cells.size = size) (h0 : 0 < size) : ElemOf P t e size bytes := by
  cases h : P.info? e with
  | none => rw [h] at hi; cases hi
  | some i =>
    rw [h] at hi
    simp only [Option.map_some, Option.some.injEq, Prod.mk.injEq] at hi
    exact ⟨i, z, ht, h, hi.1, hi.2.1, hi.2.2, hz, h0⟩

/-- A block of the call's own, whole. -/
def Blk (W : World) (g : Nat) (cs : List Value) (e : TypeId) : Prop := W.heap[g]? = some (.cells cs.toArray e (0, 0))
theorem Blk.new (W : World) (cs : List Value) (e : TypeId) : Blk (W.alloc (.cells cs.toArray e)) W.heap.size cs e := Array.getElem?_push_size
theorem Blk.new' {W : World} {g : Nat} (cs : List Value) (e : TypeId) (hg : g = W.heap.size) : Blk (W.alloc (.cells cs.toArray e)) g cs e := by rw [hg]; exact Blk.new W cs e
theorem Blk.lt {W : World} {g : Nat} {cs : List Value} {e : TypeId} (h : Blk W g cs e) : g < W.heap.size := (Array.getElem?_eq_some_iff.1 h).1
theorem Blk.below {W W' : World} {g : Nat} {cs : List Value} {e : TypeId} (h : Blk W g cs e) (hb : Below W.heap.size W W') : Blk W' g cs e := (hb.block g h.lt).trans h
theorem Blk.alloc {W : World} {g : Nat} {cs : List Value} {e : TypeId} (h : Blk W g cs e) (o : Obj) : Blk (W.alloc o) g cs e := (Below.heap_alloc W o g h.lt).trans h
theorem Blk.drew {W : World} {g : Nat} {cs : List Value} {e : TypeId} (h : Blk W g cs e) (n : Nat) : Blk (W.drewN n) g cs e := h
theorem Blk.grown {W W' : World} {g : Nat} {cs : List Value} {e : TypeId} {row : Option Nat} (h : Blk W g cs e) (hg : W.grownBy W' row) (hne : some g ≠ row) : Blk W' g cs e := (hg.block g h.lt hne).trans h
theorem Blk.cell {W : World} {g : Nat} {cs : List Value} {e : TypeId} (h : Blk W g cs e) (j : Nat) : W.cell? ⟨g, j, none⟩ = cs[j]? := by
  unfold Blk at h
  simp [World.cell?, h]
theorem Blk.frozen {W : World} {g : Nat} {cs : List Value} {e : TypeId} (h : Blk W g cs e) (j : Nat) : W.frozen? ⟨g, j, none⟩ = false := by
  unfold Blk at h
  simp [World.frozen?, h]
theorem Blk.set {W : World} {g : Nat} {cs : List Value} {e : TypeId} (h : Blk W g cs e) (j : Nat) (v : Value) : Blk (W.setCell ⟨g, j, none⟩ v) g (cs.set j v) e := by
  have := heap_setCell_same W g j cs.toArray e v h
  unfold Blk
  rw [this]
  simp
theorem Blk.set_other {W : World} {g : Nat} {cs : List Value} {e : TypeId} (h : Blk W g cs e) {a : Addr} (ha : g ≠ a.block) (v : Value) : Blk (W.setCell a v) g cs e := (Below.heap_setCell W a v g ha).trans h

theorem own_below {w w' : World} {base e size n : Nat} {v : Value} {xs : List Value} (h : w.ownsRow base e size v n xs) (hb : Below w.heap.size w w') : w'.ownsRow base e size v n xs := by
  refine ⟨h.1, ?_⟩
  rcases h.2 with h2 | ⟨g, cap, cur, h1, h2, h3, h4⟩
  · exact .inl h2
  · exact .inr ⟨g, cap, cur, h1, h2, (hb.block g (Array.getElem?_eq_some_iff.1 h3).1).trans h3, h4⟩
theorem own_low {w : World} {base base' e size n : Nat} {v : Value} {xs : List Value} (h : w.ownsRow base e size v n xs) (hb : base' ≤ base) : w.ownsRow base' e size v n xs := by
  refine ⟨h.1, ?_⟩
  rcases h.2 with h2 | ⟨g, cap, cur, h1, h2, h3⟩
  · exact .inl h2
  · exact .inr ⟨g, cap, cur, h1, by omega, h3⟩

/-- AN APPEND OF A BLOCK OF THE CALL's OWN ONTO A ROW OF THE CALL's OWN. The row was owned in an earlier world wr. -/
theorem wpList_append_blk {P : Program} {W : World} {ops : Array Oper} {rest : List Oper} {o : Oper} {a : Act} {Q : Exit → Act → World → Prop} (hgd : o.guard = none) (s x : Operand) (t e : TypeId) (size bytes : Nat)
    (ho : o.op = .call { callee := .builtin .append, args := #[s, x], argTypes := #[t, t] }) (hE : ElemOf P t e size bytes)
    (w wr : World) (B : Nat) (hbw : Below B w wr) (hBr : B ≤ wr.heap.size) (hbr : Below wr.heap.size wr W)
    (v : Value) (n : Nat) (xs : List Value) (hs : a.eval s = v) (hown : wr.ownsRow B e size v n xs)
    (g m : Nat) (cs : List Value) (hx : a.eval x = .slice (some ⟨g, 0, none⟩) m m) (hblk : Blk W g cs e) (hl : cs.length = m * size) (h1 : ∀ u ∈ cs, u.oneCell' = true)
    (h63 : n + m ≤ maxLen) (hbytes : (n + m) * bytes ≤ 140737488355328)
    (h : ∀ v' W', W'.ownsRow B e size v' (n + m) (xs ++ cs) → Below B w W' → W.grownBy W' v.ownBlock → (∀ k, v.ownBlock = some k → B ≤ k ∧ k < wr.heap.size) → wpList P ops Q rest (a.put o.dst v') W') : wpList P ops Q (o :: rest) a W := by
  obtain ⟨i, z, ht, hi, hz, hsize, hby, hzs, h0⟩ := hE
  have hsz := hbr.size
  refine wpList_append_own W hgd s x t ho B e i z size bytes ht hi hz hsize hby hzs h0 v n xs hs (own_below hown hbr) ⟨g, 0, none⟩ m m cs hx hl ?_ h1 h63 hbytes (by omega) ?_
  · intro j u hu
    have e2 : (⟨g, 0, none⟩ : Addr).add j = ⟨g, j, none⟩ := by unfold Addr.add; split <;> simp_all
    rw [e2, hblk.cell]
    exact hu
  · intro v' W' ho' hg' _
    have hlt := hown.lt
    exact h v' W' ho' ((hbw.trans (hbr.mono hBr)).grown hg' (by omega) (fun k hk => (hlt k hk).1)) hg' hlt
end

section
open Go.RowKit Go.Shelf
set_option maxRecDepth 100000
set_option linter.unusedVariables false
set_option linter.unusedSimpArgs false

mutual
/-- A document and all in it, each with its depth. -/
def Doc.pre : Doc → Nat → List (Nat × Doc)
  | .mk k t ks b i y, n => (n, .mk k t ks b i y) :: preL ks (n + 1)
def preL : List Doc → Nat → List (Nat × Doc)
  | [], _ => []
  | d :: ds, n => d.pre n ++ preL ds n
end
theorem Doc.pre_eq (d : Doc) (n : Nat) : d.pre n = (n, d) :: preL d.kids (n + 1) := by cases d; rfl
theorem preL_app (a b : List Doc) (n : Nat) : preL (a ++ b) n = preL a n ++ preL b n := by
  induction a with
  | nil => rfl
  | cons d a ih => simp only [List.cons_append, preL, ih, List.append_assoc]
theorem preL_len : ∀ (ks : List Doc), (∀ d ∈ ks, ∀ n, (d.pre n).length = d.nodes) → ∀ n, (preL ks n).length = nodesL ks
  | [], _, _ => rfl
  | d :: ds, h, n => by
    simp only [preL, nodesL, List.length_append]
    rw [h d (by simp) n, preL_len ds (fun x hx => h x (by simp [hx])) n]
theorem Doc.pre_len (d : Doc) : ∀ n, (d.pre n).length = d.nodes := by
  refine Doc.ind (P := fun d => ∀ n, (d.pre n).length = d.nodes) (fun d ih n => ?_) d
  rw [Doc.pre_eq, List.length_cons, preL_len d.kids ih, Doc.nodes_eq]
def preP (p : Nat × Doc) : List (Nat × Doc) := p.2.pre p.1
theorem flat_kids (ks : List Doc) (n : Nat) : (ks.map fun d => (n, d)).flatMap preP = preL ks n := by
  induction ks with
  | nil => rfl
  | cons d ks ih => simp only [List.map_cons, List.flatMap_cons, ih, preL]; rfl

/-- A document at its place, in what lies below block number B. -/
structure At (w : World) (B : Nat) where
  dep : Nat
  d : Doc
  g : Nat
  off : Nat
  kv : Value
  six : Six w g off d kv
  lt : g < B
  kvs : KV w 0 B d kv
  small : d.bulk ≤ 4194304
def At.proj {w : World} {B : Nat} (x : At w B) : Nat × Doc := (x.dep, x.d)
def atCells {w : World} {B : Nat} (x : At w B) : List Value := [.int .i64 x.dep, .pointer (some ⟨x.g, x.off, none⟩)]
def rowAt {w : World} {B : Nat} (st : List (At w B)) : List Value := st.flatMap atCells
theorem rowAt_len {w : World} {B : Nat} (st : List (At w B)) : (rowAt st).length = st.length * 2 := by
  induction st with
  | nil => rfl
  | cons x st ih => simp only [rowAt, List.flatMap_cons, List.length_append, List.length_cons, List.length_nil, atCells] at ih ⊢; omega
theorem rowAt_snoc {w : World} {B : Nat} (st : List (At w B)) (x : At w B) : rowAt (st ++ [x]) = rowAt st ++ atCells x := by simp [rowAt]
def encAt {w : World} {B : Nat} (x : At w B) : Array Value := #[.int .i64 x.dep, .pointer (some ⟨x.g, x.off, none⟩)]
theorem At.six_in {w W : World} {B : Nat} (x : At w B) (h : ∀ b, b < B → W.heap[b]? = w.heap[b]?) : Six W x.g x.off x.d x.kv := x.six.of (h _ x.lt)

theorem placeE : ElemOf Tryd.prog 112 111 2 16 := .mk' (.agg #[.int .i64 0, .pointer none]) Tryd.underlying112 (by kernel_rfl) rfl (by decide)

theorem own_kpn {A B : World} {n0 n1 base e size n : Nat} {v : Value} {xs : List Value} (h : A.ownsRow base e size v n xs) (hk : KpN n0 n1 A B) (hn : n1 ≤ base) : B.ownsRow base e size v n xs := by
  refine ⟨h.1, ?_⟩
  rcases h.2 with h2 | ⟨g, cap, cur, h1, h2, h3, h4⟩
  · exact .inl h2
  · exact .inr ⟨g, cap, cur, h1, h2, (hk.2.2 g (by omega) (Array.getElem?_eq_some_iff.1 h3).1).trans h3, h4⟩
theorem own_last {W : World} {base e g cap n : Nat} {ys : List Value} {a b : Value} (h : W.ownsRow base e 2 (.slice (some ⟨g, 0, none⟩) (n + 1) cap) (n + 1) (ys ++ [a, b])) (hy : ys.length = n * 2) :
    W.cell? ⟨g, n * 2, none⟩ = some a ∧ W.cell? ⟨g, n * 2 + 1, none⟩ = some b := by
  constructor
  · rw [h.cellAt (n * 2) (by omega), List.getElem?_append_right (by omega), hy, Nat.sub_self]
    rfl
  · rw [h.cellAt (n * 2 + 1) (by omega), List.getElem?_append_right (by omega), hy, show n * 2 + 1 - n * 2 = 1 by omega]
    rfl
/-- A block of two cells is no row's, unless it holds just that. -/
theorem own_apart2 {W : World} {base e g n : Nat} {v a b : Value} {xs : List Value} (h : W.ownsRow base e 2 v n xs) (hb : Blk W g [a, b] e) (hn : 0 < n) (hx : n = 1 → xs ≠ [a, b]) : v.ownBlock ≠ some g := by
  intro hv
  rcases h.2 with ⟨rfl, _⟩ | ⟨g', cap, cur, rfl, _, h3, h4, _, h6, h7⟩
  · cases hv
  · have hg : g' = g := by simpa [Value.ownBlock] using hv
    subst hg
    unfold Blk at hb
    rw [h3] at hb
    cases hb
    have hc : cap = 1 := by simp at h6; omega
    have hn1 : n = 1 := by omega
    subst hn1
    refine hx rfl ?_
    rw [← h7]
    rfl
/-- A row cut at its end. -/
theorem own_cut {W : World} {base e size g cap n : Nat} {xs last : List Value} (h : W.ownsRow base e size (.slice (some ⟨g, 0, none⟩) (n + 1) cap) (n + 1) (xs ++ last)) (hx : xs.length = n * size) :
    W.ownsRow base e size (.slice (some ⟨g, 0, none⟩) n cap) n xs := by
  refine ⟨hx, .inr ?_⟩
  rcases h.2 with ⟨h2, _⟩ | ⟨g', cap', cur, h1, h2, h3, h4, h5, h6, h7⟩
  · cases h2
  · cases h1
    refine ⟨g, cap, cur, rfl, h2, h3, by omega, h5, h6, ?_⟩
    have := congrArg (List.take (n * size)) h7
    rw [List.take_take, Nat.min_eq_left (Nat.mul_le_mul_right size (Nat.le_succ n)), List.take_left' hx] at this
    exact this

set_option maxHeartbeats 4000000 in
theorem walk_iter (d0 : Doc) (g0 off0 Bn n0 n1 : Nat) (kv0 : Value) (w W : World) (hw : n0 ≤ w.heap.size) (hbk : d0.bulk ≤ 4194304) (hsame : ∀ b, b < n0 → W.heap[b]? = w.heap[b]?) (h6 : Six w g0 off0 d0 kv0) (hg0 : g0 < n0) (hkv : KV w 0 n0 d0 kv0)
    (hBn : W.cell? ⟨Bn, 0, none⟩ = some (.pointer (some ⟨g0, off0, none⟩))) (hn01 : n0 ≤ n1) (hn1 : n1 ≤ W.heap.size) :
    Iter (α := At w n0) Tryd.prog 64 #[.pointer (some ⟨Bn, 0, none⟩)] encAt n0 n1 (fun xs => xs.map At.proj = d0.pre 1) (fun pre => ∃ r, pre.map At.proj ++ r = d0.pre 1) W := by
  intro l J Jx hJ hJx hY h0
  have hn : d0.nodes ≤ 4194304 := Nat.le_trans d0.nodes_bulk hbk
  have HS := Lib.hid hsame
  have HB := Lib.hid hJ
  have HBx := Lib.hid hJx
  have HY := Lib.hid hY
  clear hJ hJx hY
  go_enter Tryd.func64, Tryd.ntmps64
  go_wp2_with fail
  have hst0 : Below W.heap.size W (W.alloc (.cells #[.int .i64 1, .pointer (some ⟨g0, off0, none⟩)] 111)) := (Below.refl _ W).alloc (Nat.le_refl _) _
  go_loopg [3, 4, 5] d0.nodes (fun k p _ _ wr => ∃ (pre st : List (At w n0)), pre.map At.proj ++ (st.map At.proj).reverse.flatMap preP = d0.pre 1 ∧ (∀ x ∈ st, x.dep ≤ pre.length + 1) ∧ k = ((st.map At.proj).reverse.flatMap preP).length ∧ wr.ownsRow W.heap.size 111 2 p st.length (rowAt st) ∧ J pre wr ∧ (∀ b, b < n0 → wr.heap[b]? = w.heap[b]?) ∧ W.heap.size ≤ wr.heap.size)
  case atStart =>
    refine ⟨[], [⟨1, d0, g0, off0, kv0, h6, hg0, hkv, hbk⟩], by simp [At.proj, preP], by simp, by simp [At.proj, preP, Doc.pre_len], ?_, HB.out [] W _ h0 hst0, fun b hb => (hst0.block b (by omega)).trans (HS.out b hb), hst0.size⟩
    exact ⟨rfl, .inr ⟨W.heap.size, 1, _, rfl, Nat.le_refl _, Array.getElem?_push_size, Nat.le_refl _, by unfold maxLen; decide, rfl, rfl⟩⟩
  case round =>
    obtain ⟨pre, st, hpre, hdep, hgk, hown, hj, hsm, hsz⟩ := hrel
    have hlen : pre.length + ((st.map At.proj).reverse.flatMap preP).length = d0.nodes := by
      have := congrArg List.length hpre
      rw [List.length_append, List.length_map, Doc.pre_len] at this
      exact this
    rcases List.eq_nil_or_concat st with rfl | ⟨st, x, rfl⟩
    · have HP := Lib.hid hpre
      have HJ := Lib.hid hj
      have hown0 := hown.2
      have hp : ∃ a cap, u3 = .slice a 0 cap := by
        rcases hown0 with ⟨rfl, _⟩ | ⟨g, cap, cur, rfl, _⟩
        · exact ⟨_, _, rfl⟩
        · exact ⟨_, _, rfl⟩
      obtain ⟨a, cap, rfl⟩ := hp
      clear hpre hj hown hown0 hgk hdep hlen hst0 hsm
      go_wp2_with fail
      go_end0
      exact ⟨⟨_, rfl⟩, .inl ⟨pre, by have := HP.out; simpa using this, HJ.out⟩⟩
    · simp only [List.concat_eq_append] at *
      obtain ⟨g, cap, rfl⟩ : ∃ g cap, u3 = .slice (some ⟨g, 0, none⟩) (st.length + 1) cap := by
        rw [List.length_append] at hown
        exact ownsRow_succ hown
      rw [List.length_append, rowAt_snoc] at hown
      have hcc := own_last hown (rowAt_len st)
      obtain ⟨hc0, hc1⟩ := hcc
      have hown1 := own_cut hown (rowAt_len st)
      have hcat : (((st ++ [x]).map At.proj).reverse.flatMap preP) = (x.dep, x.d) :: (preL x.d.kids (x.dep + 1) ++ (st.map At.proj).reverse.flatMap preP) := by
        simp [At.proj, preP, Doc.pre_eq]
      rw [hcat] at hpre hlen hgk
      have hdx := hdep x (by simp)
      have hds : ∀ y ∈ st, y.dep ≤ pre.length + 1 := fun y hy => hdep y (by simp [hy])
      rw [List.length_cons] at hlen
      have hcap : st.length + 1 ≤ cap := by
        rcases hown.2 with ⟨h, _⟩ | ⟨g', cap', cur, h1, _, _, h4, _⟩
        · cases h
        · cases h1; exact h4
      have hgr : g < wr.heap.size ∧ W.heap.size ≤ g := by have := hown.lt g rfl; omega
      have HP := Lib.hid hpre
      have HO := Lib.hid hown1
      have HGK := Lib.hid hgk
      have HLEN := Lib.hid hlen
      have HDS := Lib.hid hds
      have HSM := Lib.hid hsm
      have HL := Lib.hid (rowAt_len st)
      have hsl : st.length + pre.length ≤ 4194304 := by
        have : st.length ≤ ((st.map At.proj).reverse.flatMap preP).length := by
          have h1 : ∀ l : List (Nat × Doc), l.length ≤ (l.flatMap preP).length := by
            intro l
            induction l with
            | nil => simp
            | cons y l ih => have := y.2.nodes_pos; simp only [List.flatMap_cons, List.length_append, List.length_cons, preP, Doc.pre_len]; omega
          have h2 := h1 (st.map At.proj).reverse
          simpa using h2
        simp only [List.length_append] at hlen
        omega
      have hyx := HY.out pre x
      obtain ⟨m, hm⟩ : ∃ m, m = st.length := ⟨_, rfl⟩
      rw [← hm] at hc0 hc1 hsl hcap
      have hcap0 : cap ≠ 0 := by omega
      have hcap1 : m ≤ cap := by omega
      have HM := Lib.hid hm
      have HO2 : Hid (wr.ownsRow W.heap.size 111 2 (.slice (some ⟨g, 0, none⟩) m cap) m (rowAt st)) := Lib.hid (by rw [hm]; exact hown1)
      rw [← hm]
      have hm0 : (0 : Int) < ((m + 1 : Nat) : Int) := by omega
      have hm1 : ((m + 1 : Nat) : Int) - 1 = (m : Int) := by omega
      have HYX := Lib.hid hyx
      have HJ := Lib.hid hj
      clear hpre hown hown1 hgk hlen hds hsm hj hcat hdep hyx hst0 hm
      have hja : J pre (wr.alloc (.cells #[.int .i64 x.dep, .pointer (some ⟨x.g, x.off, none⟩)] 111)) := HB.out pre wr _ HJ.out ((Below.refl _ wr).alloc hsz _)
      obtain ⟨fn, tmps, asg, bdy, hy, hR⟩ := HYX.out _ hja
      have HR := Lib.hid hR
      have HJA := Lib.hid hja
      clear hR hja
      simp only [encAt] at hy
      go_upto_region 4 with (fail)
      refine (wpIn_wide (n := 4)).1 ?_
      gi_wp2_with fail
      refine HR.out.mono ?_
      rintro e W3 (⟨rfl, hJ3, hk3⟩ | ⟨rfl, hJx3⟩)
      · have hz3 : wr.heap.size < W3.heap.size := by have := hk3.1; simp at this; omega
        have hpl : Blk W3 wr.heap.size [.int .i64 x.dep, .pointer (some ⟨x.g, x.off, none⟩)] 111 := (hk3.2.2 _ (by omega) (by simp)).trans (Blk.new wr _ _)
        have ho3 := own_kpn (HO2.out.alloc (.cells #[.int .i64 x.dep, .pointer (some ⟨x.g, x.off, none⟩)] 111)) hk3 hn1
        have hs3 : ∀ b, b < n0 → W3.heap[b]? = w.heap[b]? := fun b hb => (hk3.2.1 b hb).trans (((Below.refl n0 wr).alloc (by omega) _).block b hb |>.trans (HSM.out b hb))
        have hsix := x.six_in hs3
        obtain ⟨ka, kcap, hkv⟩ := x.kvs.slice
        have hkc := hsix.kids
        rw [hkv] at hkc
        have p0 := hpl.cell 0
        have p1 := hpl.cell 1
        simp only [List.getElem?_cons_zero, List.getElem?_cons_succ] at p0 p1
        have hnk : x.d.kids.length ≤ 4194304 := by
          have h1 := HLEN.out
          have h2 := nodesL_len x.d.kids
          rw [List.length_append, preL_len _ (fun d _ => d.pre_len)] at h1
          omega
        have HPL := Lib.hid hpl
        have HO3 := Lib.hid ho3
        have HS3 := Lib.hid hs3
        have HJ3 := Lib.hid hJ3
        have hkid : ∀ j, (hj : j < x.d.kids.length) → ∃ g off, ka = some ⟨g, off, none⟩ ∧ g < n0 ∧ ∃ kv, Six w g (off + j * 6) x.d.kids[j] kv ∧ KV w 0 n0 x.d.kids[j] kv := fun j hj => by
          have h1 := x.kvs
          rw [hkv] at h1
          obtain ⟨g, off, e, _, h2, h3⟩ := h1.kid hj
          exact ⟨g, off, e, h2, h3⟩
        have HKID := Lib.hid hkid
        have HNB : Hid (g ≠ wr.heap.size) := Lib.hid (by omega)
        obtain ⟨nk, hnk2⟩ : ∃ nk, nk = x.d.kids.length := ⟨_, rfl⟩
        rw [← hnk2] at hkc hnk
        have HKC := Lib.hid hkc
        have HNK := Lib.hid hnk2
        clear hpl ho3 hs3 hJ3 hkv hnk2 hsix hk3 hc0 hc1 hy hkid
        gi_wp2_with fail
        go_wp2_with fail
        clear p0 p1
        obtain ⟨wo, rfl⟩ : ∃ wo : World, wo = wr := ⟨_, rfl⟩
        go_loopw [3, 5] (fun p i wr2 => ∃ (j : Nat) (ps : List (At w n0)), j ≤ nk ∧ i = .int .i64 ((j : Int) - 1) ∧ ps.length + j = nk ∧ ps.map At.proj = ((x.d.kids.drop j).map fun d => (x.dep + 1, d)).reverse ∧ wr2.ownsRow W.heap.size 111 2 p (m + ps.length) (rowAt (st ++ ps)) ∧ p.ownBlock ≠ some wo.heap.size ∧ Blk wr2 wo.heap.size [.int .i64 x.dep, .pointer (some ⟨x.g, x.off, none⟩)] 111 ∧ Below W.heap.size W3 wr2 ∧ W3.heap.size ≤ wr2.heap.size) (fun _ i _ => (intOf i + 1).toNat)
        case atStart => exact ⟨nk, [], Nat.le_refl _, rfl, by simp, by rw [HNK.out, List.drop_length]; rfl, by rw [List.append_nil]; exact HO3.out, by simpa [Value.ownBlock] using HNB.out, HPL.out, Below.refl _ _, Nat.le_refl _⟩
        case round =>
          obtain ⟨j, ps, hj, rfl, hpj, hps, hown2, hne, hpl2, hb2, hz2⟩ := hrel
          have hkc3 := (hb2.cell (p := ⟨x.g, x.off + 2, none⟩) (by have := x.lt; simp; omega)).trans HKC.out
          have p0 := hpl2.cell 0
          have p1 := hpl2.cell 1
          simp only [List.getElem?_cons_zero, List.getElem?_cons_succ] at p0 p1
          have HPS := Lib.hid hps
          have HOW2 := Lib.hid hown2
          have HNE := Lib.hid hne
          have HPL2 := Lib.hid hpl2
          have HPJ := Lib.hid hpj
          have hpl : ps.length ≤ nk := by omega
          have HB2 := Lib.hid hb2
          have HZ2 := Lib.hid hz2
          clear hps hown2 hne hpl2 hkc hpj
          cases j with
          | zero =>
            clear p0 p1 hkc3
            go_wp2_with fail
            have hps0 : (ps.map At.proj).reverse = x.d.kids.map fun d => (x.dep + 1, d) := by rw [HPS.out, List.drop_zero, List.reverse_reverse]
            have hfl : (((st ++ ps).map At.proj).reverse.flatMap preP) = preL x.d.kids (x.dep + 1) ++ (st.map At.proj).reverse.flatMap preP := by
              rw [List.map_append, List.reverse_append, List.flatMap_append, hps0, flat_kids]
            go_roundg (((st ++ ps).map At.proj).reverse.flatMap preP).length
            case measure => rw [HGK.out, hfl]; simp
            case rel =>
              refine ⟨pre ++ [x], st ++ ps, ?_, ?_, rfl, ?_, ?_, ?_, ?_⟩
              · rw [hfl]
                have := HP.out
                simpa [At.proj] using this
              · intro z hz
                rw [List.length_append]
                rcases List.mem_append.1 hz with hz | hz
                · have := HDS.out z hz
                  simp only [List.length_cons, List.length_nil]
                  omega
                · have hzz : z.proj ∈ ps.map At.proj := List.mem_map_of_mem hz
                  rw [HPS.out] at hzz
                  simp only [List.mem_reverse, List.mem_map] at hzz
                  obtain ⟨_, _, hzz⟩ := hzz
                  have : z.dep = x.dep + 1 := by have := congrArg Prod.fst hzz; exact this.symm
                  simp only [List.length_cons, List.length_nil]
                  omega
              · rw [List.length_append, ← HM.out]
                exact HOW2.out
              · exact HB.out _ _ _ HJ3.out hb2
              · exact fun b hb => (hb2.block b (by omega)).trans (HS3.out b hb)
              · omega
          | succ j =>
            rw [show (((j + 1 : Nat) : Int) - 1) = (j : Int) by omega]
            obtain ⟨gk, offk, rfl, hgk, kvk, h6k, hkvk⟩ := HKID.out j (by have := HNK.out; omega)
            have hkd := List.getElem?_eq_getElem (l := x.d.kids) (i := j) (by have := HNK.out; omega)
            generalize x.d.kids[j]'(by have := HNK.out; omega) = dk at *
            have HKD := Lib.hid hkd
            have hsm : dk.bulk ≤ 4194304 := by have h1 := Doc.kid_bulk (List.mem_of_getElem? hkd); have h2 := x.small; omega
            clear hkd
            obtain ⟨y, hy⟩ : ∃ y : At w n0, y = ⟨x.dep + 1, dk, gk, offk + j * 6, kvk, h6k, hgk, hkvk, hsm⟩ := ⟨_, rfl⟩
            have hkc4 : wr.cell? ⟨x.g, x.off + 2, none⟩ = some (.slice (some ⟨gk, offk, none⟩) nk kcap) := hkc3
            clear hkc3
            have HYE := Lib.hid hy
            have hyc : atCells y = [.int .i64 ((x.dep : Int) + 1), .pointer (some ⟨gk, offk + j * 6, none⟩)] := by rw [hy]; simp [atCells]
            have HYC := Lib.hid hyc
            clear hy hyc
            have hjk : (j : Int) < (nk : Int) := by omega
            have hjk2 : j < nk := by omega
            have hd1 : (x.dep : Int) + 1 ≤ 9000000 := by omega
            obtain ⟨i0, z0, hT1, hi0, hz0, hz1, hzb, hz4, hz5⟩ := placeE
            have hgw : x.g < wr.heap.size := by have := x.lt; omega
            have hwr2 : wo.heap.size < wr.heap.size := by omega
            have hgne : u3.ownBlock ≠ some x.g := fun h => by have := (HOW2.out.lt _ h).1; have := x.lt; omega
            have HGNE := Lib.hid hgne
            have HE := Lib.hid (And.intro hi0 (And.intro hz0 (And.intro hz1 (And.intro hzb hz4))))
            clear hgne hi0 hz0 hz1 hzb hz4 hT1
            have HBN : Hid (m + ps.length + 1 ≤ maxLen ∧ (m + ps.length + 1) * 16 ≤ 140737488355328) := Lib.hid ⟨by unfold maxLen; omega, by omega⟩
            have hsum : IntKind.i64.wrap ((x.dep : Int) + 1) = (x.dep : Int) + 1 := IntWalk.i64_in _ (by omega)
            have hjt : ((j : Int)).toNat = j := by omega
            have hj0 : (0 : Int) ≤ (j : Int) := by omega
            have HNN := Lib.hid hn
            have HNNK := Lib.hid hnk
            have HSL := Lib.hid hsl
            have HDX := Lib.hid hdx
            clear hn hnk hsl hdx hd1 hpl hj hb2 hz2
            go_wp2_with fail
            go_region_held3 (fun w' => w'.cell? ⟨wo.heap.size, 0, none⟩ = some (.int .i64 x.dep) ∧ w'.cell? ⟨wo.heap.size, 1, none⟩ = some (.pointer (some ⟨x.g, x.off, none⟩)) ∧ w'.cell? ⟨x.g, x.off + 2, none⟩ = some (.slice (some ⟨gk, offk, none⟩) nk kcap))
              (first
                | go_keep
                | (go_split_ands
                   refine ⟨?_, ?_, ?_⟩
                   · (rw [hgrow.cell_far _ (by simp; omega) (Ne.symm HNE.out)]; assumption)
                   · (rw [hgrow.cell_far _ (by simp; omega) (Ne.symm HNE.out)]; assumption)
                   · (rw [hgrow.cell_far _ (by simp; omega) (Ne.symm HGNE.out)]; assumption)))
              ((refine step_append_lies _ (by rfl) _ _ _ (by rfl) W.heap.size 111 i0 z0 2 16 Tryd.underlying112 HE.out.1 HE.out.2.1 HE.out.2.2.1 HE.out.2.2.2.1 HE.out.2.2.2.2 (by omega) u3 (m + ps.length) (rowAt (st ++ ps)) (by rfl) ((HOW2.out.alloc _).drew) ⟨wr.heap.size, 0, none⟩ 1 1 [.int .i64 ((x.dep : Int) + 1), .pointer (some ⟨gk, offk + j * 6, none⟩)] (by rfl) (by rfl) (World.news_of_block (cs := #[.int .i64 ((x.dep : Int) + 1), .pointer (some ⟨gk, offk + j * 6, none⟩)]) (t := 111) (fr := (0, 0)) (heap_alloc_new wr _)) (by simp [Value.oneCell']) (by omega) HBN.out.1 HBN.out.2 (by simp; omega) (wr.heap.size + 1) (by simp) ?_; intro gg cap' w1 hown1 hgrow hat hlt))
            go_wp2_with fail
            have hwj : wrap64 ((j : Int) - 1) = (j : Int) - 1 := by have := HNNK.out; exact IntWalk.wrap64_in _ ⟨by omega, by omega⟩
            rw [hwj]
            go_roundw
            case rel =>
              refine ⟨j, ps ++ [y], by omega, rfl, by rw [List.length_append]; have := HPJ.out; simp; omega, ?_, ?_, ?_, ?_, ?_, ?_⟩
              · obtain ⟨hlt, hget⟩ := List.getElem?_eq_some_iff.1 HKD.out
                rw [List.drop_eq_getElem_cons hlt, hget, List.map_append, HPS.out, HYE.out]
                simp [At.proj]
              · rw [← List.append_assoc, rowAt_snoc, HYC.out, List.length_append]
                exact hown1
              · intro h
                have h1 : gg = wo.heap.size := by simpa [Value.ownBlock] using h
                rcases hat with h2 | h2
                · exact HNE.out (by rw [h2, h1])
                · omega
              · refine Blk.grown ?_ hgrow (fun h => HNE.out h.symm)
                exact HPL2.out.alloc _
              · exact ((HB2.out.alloc (by have := HZ2.out; have := hz3; omega) _).drew).grown hgrow (by simp; omega) (fun k hk => (HOW2.out.lt k hk).1)
              · have h1 := hgrow.size
                have h2 := HZ2.out
                simp at h1
                omega
            case measure => simp [intOf]
      · have HJX := Lib.hid hJx3
        clear hJx3 hy hc0 hc1
        gi_wp2_with fail
        go_wp2_with fail
        refine bodyPost_ret (results_none rfl _ _ _) rfl ?_
        exact ⟨⟨_, rfl⟩, .inr ⟨pre ++ [x], ⟨_, by have := HP.out; simpa [At.proj] using this⟩, HJX.out⟩⟩
end

section
/-- Does r lie in one of the ranges, two numbers each? -/
def inB (r : Int) : List Int → Bool
  | a :: b :: t => (decide (a ≤ r) && decide (r ≤ b)) || inB r t
  | _ => false
/-- Is r one of these? -/
def oneB (r : Int) : List Int → Bool
  | a :: t => (r == a) || oneB r t
  | _ => false

theorem inB_drop (r : Int) : ∀ (k : Nat) (xs : List Int), 2 * k + 1 < xs.length →
    inB r (xs.drop (2 * k)) = ((decide (xs.getD (2 * k) 0 ≤ r) && decide (r ≤ xs.getD (2 * k + 1) 0)) || inB r (xs.drop (2 * (k + 1))))
  | 0, a :: b :: t, _ => by simp [inB]
  | 0, [], h => by simp at h
  | 0, [_], h => by simp at h
  | k + 1, [], h => by simp at h
  | k + 1, [_], h => by simp at h
  | k + 1, a :: b :: t, h => by
    have h' : 2 * k + 1 < t.length := by simp at h; omega
    have ih := inB_drop r k t h'
    have e : 2 * (k + 1) = 2 * k + 1 + 1 := by omega
    have e2 : 2 * (k + 1 + 1) = 2 * (k + 1) + 1 + 1 := by omega
    have e3 : 2 * (k + 1) + 1 = 2 * k + 1 + 1 + 1 := by omega
    rw [e3, e2, e]
    have e4 : 2 * (k + 1) = 2 * k + 2 := by omega
    rw [e4] at ih
    simpa using ih
theorem inB_short (r : Int) : ∀ (xs : List Int), xs.length < 2 → inB r xs = false
  | [], _ => rfl
  | [_], _ => rfl
  | _ :: _ :: _, h => by simp at h; omega
theorem oneB_drop (r : Int) : ∀ (k : Nat) (xs : List Int), k < xs.length → oneB r (xs.drop k) = ((r == xs.getD k 0) || oneB r (xs.drop (k + 1)))
  | 0, a :: t, _ => by simp [oneB]
  | _, [], h => by simp at h
  | k + 1, a :: t, h => by simpa using oneB_drop r k t (by simpa using h)

def startRows : List Int := [0xc0, 0xd6, 0xd8, 0xf6, 0xf8, 0x2c1, 0x370, 0x373, 0x388, 0x3ff, 0x400, 0x481, 0x48a, 0x52f, 0x531, 0x556, 0x5d0, 0x5ea, 0x620, 0x64a, 0x904, 0x939, 0xe01, 0xe30, 0x1e00, 0x1fff, 0x3041, 0x3096, 0x30a1, 0x30fa, 0x3400, 0x4dbf, 0x4e00, 0x9fff, 0xac00, 0xd7a3, 0x20000, 0x2a6df]
/-- May a name begin with r: as the program reckons it. -/
def startB (r : Int) : Bool :=
  if r < 128 then oneB r [36, 95] || inB r [65, 90, 97, 122]
  else oneB r [0xaa, 0xb5, 0xba, 0x386] || inB r startRows
def partRows : List Int := [48, 57, 0x300, 0x36f, 0x483, 0x487, 0x660, 0x669, 0x966, 0x96f, 0x200c, 0x200d, 0xff10, 0xff19]
def partB (r : Int) : Bool := startB r || inB r partRows
def endsB (r : Int) : Bool := oneB r [0xa, 0xd, 0x2028, 0x2029]
def blankB (r : Int) : Bool := oneB r [0x9, 0xb, 0xc, 0x20, 0xa0, 0x1680, 0x202f, 0x205f, 0x3000, 0xfeff] || inB r [0x2000, 0x200a]
def wideRows : List Int := [0x1100, 0x115f, 0x2e80, 0x303e, 0x3041, 0x33ff, 0x3400, 0x4dbf, 0x4e00, 0x9fff, 0xa000, 0xa4cf, 0xac00, 0xd7a3, 0xf900, 0xfaff, 0xfe30, 0xfe6f, 0xff00, 0xff60, 0xffe0, 0xffe6, 0x1f300, 0x1f64f, 0x1f900, 0x1f9ff, 0x20000, 0x3fffd]
def wideB (r : Int) : Bool := decide (0x1100 ≤ r) && inB r wideRows
end

section
/-- A byte of a text as a number. -/
def byt (s : ByteArray) (j : Nat) : Nat := (s.get! j).toNat
theorem byt_lt (s : ByteArray) (j : Nat) : byt s j < 256 := (s.get! j).toNat_lt
theorem byt_eq (s : ByteArray) (j : Nat) (h : j < s.size) : (s[j]'h).toNat = byt s j := by
  unfold byt
  rw [← get_at s j h]; rfl

/-- A continuation byte? -/
def tailB (s : ByteArray) (j : Nat) : Bool := decide (j < s.size) && decide (128 ≤ byt s j) && decide (byt s j < 192)

/-- How many bytes the character at a place has; 0: it is none. -/
def lenB (s : ByteArray) (i : Nat) : Nat :=
  if byt s i < 128 then 1
  else if 194 ≤ byt s i ∧ byt s i < 224 ∧ tailB s (i + 1) = true then 2
  else if 224 ≤ byt s i ∧ byt s i < 240 ∧ tailB s (i + 1) = true ∧ tailB s (i + 2) = true then
    (if (byt s i = 224 ∧ byt s (i + 1) < 160) ∨ (byt s i = 237 ∧ 160 ≤ byt s (i + 1)) then 0 else 3)
  else if 240 ≤ byt s i ∧ byt s i < 245 ∧ tailB s (i + 1) = true ∧ tailB s (i + 2) = true ∧ tailB s (i + 3) = true then
    (if (byt s i = 240 ∧ byt s (i + 1) < 144) ∨ (byt s i = 244 ∧ 144 ≤ byt s (i + 1)) then 0 else 4)
  else 0

/-- The reference's character: its number, -1 where there is none. -/
def runeB (s : ByteArray) (i : Nat) : Int := if lenB s i = 0 then -1 else (Utf8.decode s i).1

/-- The model's decoder in the words of this page. -/
theorem decode_eq (s : ByteArray) (i : Nat) : Utf8.decode s i =
    (if byt s i < 128 then (byt s i, 1)
     else if byt s i / 32 == 6 && (decide (i + 1 < s.size) && byt s (i + 1) / 64 == 2) then
       (if byt s i % 32 * 64 + byt s (i + 1) % 64 ≥ 128 then (byt s i % 32 * 64 + byt s (i + 1) % 64, 2) else (65533, 1))
     else if byt s i / 16 == 14 && (decide (i + 1 < s.size) && byt s (i + 1) / 64 == 2) && (decide (i + 2 < s.size) && byt s (i + 2) / 64 == 2) then
       (if (byt s i % 16 * 4096 + byt s (i + 1) % 64 * 64 + byt s (i + 2) % 64 ≥ 2048 && Utf8.valid (byt s i % 16 * 4096 + byt s (i + 1) % 64 * 64 + byt s (i + 2) % 64 : Nat)) = true then (byt s i % 16 * 4096 + byt s (i + 1) % 64 * 64 + byt s (i + 2) % 64, 3) else (65533, 1))
     else if byt s i / 8 == 30 && (decide (i + 1 < s.size) && byt s (i + 1) / 64 == 2) && (decide (i + 2 < s.size) && byt s (i + 2) / 64 == 2) && (decide (i + 3 < s.size) && byt s (i + 3) / 64 == 2) then
       (if (byt s i % 8 * 262144 + byt s (i + 1) % 64 * 4096 + byt s (i + 2) % 64 * 64 + byt s (i + 3) % 64 ≥ 65536 && Utf8.valid (byt s i % 8 * 262144 + byt s (i + 1) % 64 * 4096 + byt s (i + 2) % 64 * 64 + byt s (i + 3) % 64 : Nat)) = true then (byt s i % 8 * 262144 + byt s (i + 1) % 64 * 4096 + byt s (i + 2) % 64 * 64 + byt s (i + 3) % 64, 4) else (65533, 1))
     else (65533, 1)) := by
  rfl

theorem tailB_iff (s : ByteArray) (j : Nat) : (decide (j < s.size) && byt s j / 64 == 2) = tailB s j := by
  have h : (byt s j / 64 == 2) = (decide (128 ≤ byt s j) && decide (byt s j < 192)) := by
    rw [Bool.eq_iff_iff]; simp; omega
  rw [h, tailB, Bool.and_assoc]

theorem tailB_bd {s : ByteArray} {j : Nat} (h : tailB s j = true) : j < s.size ∧ 128 ≤ byt s j ∧ byt s j < 192 := by
  unfold tailB at h
  simp at h
  omega

/-- The core of the next two, over plain numbers. -/
theorem dec_core (b0 b1 b2 b3 : Nat) (t1 t2 t3 : Bool) (h0 : b0 < 256) (h1 : t1 = true → 128 ≤ b1 ∧ b1 < 192) (h2 : t2 = true → 128 ≤ b2 ∧ b2 < 192) (h3 : t3 = true → 128 ≤ b3 ∧ b3 < 192) (D : Nat × Nat)
    (hD : D = (if b0 < 128 then (b0, 1)
     else if b0 / 32 == 6 && t1 then (if b0 % 32 * 64 + b1 % 64 ≥ 128 then (b0 % 32 * 64 + b1 % 64, 2) else (65533, 1))
     else if b0 / 16 == 14 && t1 && t2 then
       (if (b0 % 16 * 4096 + b1 % 64 * 64 + b2 % 64 ≥ 2048 && Utf8.valid (b0 % 16 * 4096 + b1 % 64 * 64 + b2 % 64 : Nat)) = true then (b0 % 16 * 4096 + b1 % 64 * 64 + b2 % 64, 3) else (65533, 1))
     else if b0 / 8 == 30 && t1 && t2 && t3 then
       (if (b0 % 8 * 262144 + b1 % 64 * 4096 + b2 % 64 * 64 + b3 % 64 ≥ 65536 && Utf8.valid (b0 % 8 * 262144 + b1 % 64 * 4096 + b2 % 64 * 64 + b3 % 64 : Nat)) = true then (b0 % 8 * 262144 + b1 % 64 * 4096 + b2 % 64 * 64 + b3 % 64, 4) else (65533, 1))
     else (65533, 1))) (L : Nat)
    (hL : L = (if b0 < 128 then 1
      else if 194 ≤ b0 ∧ b0 < 224 ∧ t1 = true then 2
      else if 224 ≤ b0 ∧ b0 < 240 ∧ t1 = true ∧ t2 = true then (if (b0 = 224 ∧ b1 < 160) ∨ (b0 = 237 ∧ 160 ≤ b1) then 0 else 3)
      else if 240 ≤ b0 ∧ b0 < 245 ∧ t1 = true ∧ t2 = true ∧ t3 = true then (if (b0 = 240 ∧ b1 < 144) ∨ (b0 = 244 ∧ 144 ≤ b1) then 0 else 4)
      else 0)) :
    (L = 0 ∧ D = (65533, 1)) ∨ (L = 1 ∧ b0 < 128 ∧ D = (b0, 1)) ∨ (L = 2 ∧ t1 = true ∧ 128 ≤ D.1 ∧ D = (b0 % 32 * 64 + b1 % 64, 2)) ∨ (L = 3 ∧ t1 = true ∧ t2 = true ∧ 2048 ≤ D.1 ∧ D = (b0 % 16 * 4096 + b1 % 64 * 64 + b2 % 64, 3)) ∨
      (L = 4 ∧ t1 = true ∧ t2 = true ∧ t3 = true ∧ 65536 ≤ D.1 ∧ D.1 ≤ 1114111 ∧ D = (b0 % 8 * 262144 + b1 % 64 * 4096 + b2 % 64 * 64 + b3 % 64, 4)) := by
  by_cases c0 : b0 < 128
  · rw [if_pos c0] at hD hL
    exact Or.inr (Or.inl ⟨hL, c0, hD⟩)
  rw [if_neg c0] at hD hL
  cases t1
  · simp at hD hL
    exact Or.inl ⟨hL, hD⟩
  have h1 := h1 rfl
  by_cases c1 : b0 / 32 = 6
  · simp only [c1, beq_self_eq_true, Bool.and_self, if_true] at hD
    have c2 : ¬ (224 ≤ b0 ∧ b0 < 240 ∧ true = true ∧ t2 = true) := by omega
    have c3 : ¬ (240 ≤ b0 ∧ b0 < 245 ∧ true = true ∧ t2 = true ∧ t3 = true) := by omega
    rw [if_neg c2, if_neg c3] at hL
    by_cases c4 : 194 ≤ b0
    · rw [if_pos ⟨by omega, by omega, rfl⟩] at hL
      rw [if_pos (by omega)] at hD
      subst hD
      exact Or.inr (Or.inr (Or.inl ⟨hL, rfl, by simp only; omega, rfl⟩))
    · rw [if_neg (by omega)] at hL
      rw [if_neg (by omega)] at hD
      exact Or.inl ⟨hL, hD⟩
  have c1' : (b0 / 32 == 6) = false := by simpa using c1
  simp only [c1', Bool.false_and, Bool.false_eq_true, if_false] at hD
  rw [if_neg (by omega)] at hL
  cases t2
  · simp at hD hL
    exact Or.inl ⟨hL, hD⟩
  have h2 := h2 rfl
  by_cases c2 : b0 / 16 = 14
  · simp only [c2, beq_self_eq_true, Bool.and_self, if_true] at hD
    rw [if_pos ⟨by omega, by omega, rfl, rfl⟩] at hL
    by_cases c3 : b0 = 224 ∧ b1 < 160 ∨ b0 = 237 ∧ 160 ≤ b1
    · rw [if_pos c3] at hL
      rw [if_neg (by simp [Utf8.valid]; omega)] at hD
      exact Or.inl ⟨hL, hD⟩
    · rw [if_neg c3] at hL
      rw [if_pos (by simp [Utf8.valid]; omega)] at hD
      subst hD
      exact Or.inr (Or.inr (Or.inr (Or.inl ⟨hL, rfl, rfl, by simp only; omega, rfl⟩)))
  have c2' : (b0 / 16 == 14) = false := by simpa using c2
  simp only [c2', Bool.false_and, Bool.false_eq_true, if_false] at hD
  rw [if_neg (by omega)] at hL
  cases t3
  · simp at hD hL
    exact Or.inl ⟨hL, hD⟩
  have h3 := h3 rfl
  by_cases c3 : b0 / 8 = 30
  · simp only [c3, beq_self_eq_true, Bool.and_self, if_true] at hD
    by_cases c5 : b0 < 245
    · rw [if_pos ⟨by omega, by omega, rfl, rfl, rfl⟩] at hL
      by_cases c4 : b0 = 240 ∧ b1 < 144 ∨ b0 = 244 ∧ 144 ≤ b1
      · rw [if_pos c4] at hL
        rw [if_neg (by simp [Utf8.valid]; omega)] at hD
        exact Or.inl ⟨hL, hD⟩
      · rw [if_neg c4] at hL
        rw [if_pos (by simp [Utf8.valid]; omega)] at hD
        subst hD
        exact Or.inr (Or.inr (Or.inr (Or.inr ⟨hL, rfl, rfl, rfl, by simp only; omega, by simp only; omega, rfl⟩)))
    · rw [if_neg (by omega)] at hL
      rw [if_neg (by simp [Utf8.valid]; omega)] at hD
      exact Or.inl ⟨hL, hD⟩
  · have c3' : (b0 / 8 == 30) = false := by simpa using c3
    simp only [c3', Bool.false_and, Bool.false_eq_true, if_false] at hD
    rw [if_neg (by omega)] at hL
    exact Or.inl ⟨hL, hD⟩

/-- THE DECODER AND THE REFERENCE's LENGTH, case by case. -/
theorem dec_cases (s : ByteArray) (i : Nat) :
    (lenB s i = 0 ∧ Utf8.decode s i = (65533, 1)) ∨ (lenB s i = 1 ∧ byt s i < 128 ∧ Utf8.decode s i = (byt s i, 1)) ∨
      (lenB s i = 2 ∧ tailB s (i + 1) = true ∧ 128 ≤ (Utf8.decode s i).1 ∧ Utf8.decode s i = (byt s i % 32 * 64 + byt s (i + 1) % 64, 2)) ∨
      (lenB s i = 3 ∧ tailB s (i + 1) = true ∧ tailB s (i + 2) = true ∧ 2048 ≤ (Utf8.decode s i).1 ∧ Utf8.decode s i = (byt s i % 16 * 4096 + byt s (i + 1) % 64 * 64 + byt s (i + 2) % 64, 3)) ∨
      (lenB s i = 4 ∧ tailB s (i + 1) = true ∧ tailB s (i + 2) = true ∧ tailB s (i + 3) = true ∧ 65536 ≤ (Utf8.decode s i).1 ∧ (Utf8.decode s i).1 ≤ 1114111 ∧
        Utf8.decode s i = (byt s i % 8 * 262144 + byt s (i + 1) % 64 * 4096 + byt s (i + 2) % 64 * 64 + byt s (i + 3) % 64, 4)) := by
  refine dec_core (byt s i) (byt s (i + 1)) (byt s (i + 2)) (byt s (i + 3)) (tailB s (i + 1)) (tailB s (i + 2)) (tailB s (i + 3)) (byt_lt s i)
    (fun h => (tailB_bd h).2) (fun h => (tailB_bd h).2) (fun h => (tailB_bd h).2) _ ?_ _ rfl
  rw [decode_eq]
  simp only [tailB_iff]

theorem lenB_le (s : ByteArray) (i : Nat) : lenB s i ≤ 4 := by
  rcases dec_cases s i with h | h | h | h | h <;> omega
/-- Where a character begins: as wide as its length; where none: one byte. -/
theorem decode_two (s : ByteArray) (i : Nat) : (Utf8.decode s i).2 = if lenB s i = 0 then 1 else lenB s i := by
  rcases dec_cases s i with ⟨h, e⟩ | ⟨h, _, e⟩ | ⟨h, _, _, e⟩ | ⟨h, _, _, _, e⟩ | ⟨h, _, _, _, _, _, e⟩ <;> rw [e, h] <;> rfl
theorem decode_pos (s : ByteArray) (i : Nat) : 1 ≤ (Utf8.decode s i).2 := by
  rw [decode_two]; split <;> omega
theorem decode_bad (s : ByteArray) (i : Nat) (h : lenB s i = 0) : Utf8.decode s i = (65533, 1) := by
  rcases dec_cases s i with ⟨_, e⟩ | ⟨h', _⟩ | ⟨h', _⟩ | ⟨h', _⟩ | ⟨h', _⟩
  · exact e
  all_goals omega
/-- The one character that is told like a fault, U+FFFD, has three bytes. -/
theorem bad_iff (s : ByteArray) (i : Nat) : lenB s i = 0 ↔ (Utf8.decode s i).1 = 65533 ∧ (Utf8.decode s i).2 = 1 := by
  constructor
  · intro h
    rw [decode_bad s i h]
    exact ⟨rfl, rfl⟩
  · rintro ⟨h1, h2⟩
    rcases dec_cases s i with ⟨h, e⟩ | ⟨h, hb, e⟩ | ⟨h, _, _, e⟩ | ⟨h, _, _, _, e⟩ | ⟨h, _, _, _, _, _, e⟩
    · exact h
    all_goals rw [e] at h1 h2
    · simp at h1; omega
    all_goals simp at h2
/-- A character lies within its text. -/
theorem decode_in (s : ByteArray) (i : Nat) (hi : i < s.size) : i + (Utf8.decode s i).2 ≤ s.size := by
  rcases dec_cases s i with ⟨h, e⟩ | ⟨h, hb, e⟩ | ⟨h, t1, _, e⟩ | ⟨h, t1, t2, _, e⟩ | ⟨h, t1, t2, t3, _, _, e⟩ <;> rw [e]
  · show i + 1 ≤ _; omega
  · show i + 1 ≤ _; omega
  · have := tailB_bd t1; show i + 2 ≤ _; omega
  · have := tailB_bd t2; show i + 3 ≤ _; omega
  · have := tailB_bd t3; show i + 4 ≤ _; omega
end

section
/-- The first place from pos on where no character begins. -/
def badFrom (s : ByteArray) : Nat → Nat → Option Nat
  | 0, _ => Option.none
  | f + 1, pos => if pos < s.size then (if lenB s pos = 0 then some pos else badFrom s f (pos + (Utf8.decode s pos).2)) else Option.none
theorem badFrom_fuel (s : ByteArray) : ∀ (f g pos : Nat), s.size ≤ pos + f → s.size ≤ pos + g → badFrom s f pos = badFrom s g pos
  | 0, 0, _, _, _ => rfl
  | 0, g + 1, pos, h, _ => by
    have : ¬ pos < s.size := by omega
    simp [badFrom, this]
  | f + 1, 0, pos, _, h => by
    have : ¬ pos < s.size := by omega
    simp [badFrom, this]
  | f + 1, g + 1, pos, h, h' => by
    have hp := decode_pos s pos
    simp only [badFrom]
    by_cases hlt : pos < s.size
    · rw [if_pos hlt, if_pos hlt, badFrom_fuel s f g _ (by omega) (by omega)]
    · rw [if_neg hlt, if_neg hlt]
def badRest (s : ByteArray) (pos : Nat) : Option Nat := badFrom s (s.size - pos) pos
theorem badRest_end (s : ByteArray) (pos : Nat) (h : ¬ pos < s.size) : badRest s pos = Option.none := by
  unfold badRest
  have : s.size - pos = 0 := by omega
  rw [this]; rfl
theorem badRest_bad (s : ByteArray) (pos : Nat) (h : pos < s.size) (hb : lenB s pos = 0) : badRest s pos = some pos := by
  unfold badRest
  obtain ⟨f, hf⟩ : ∃ f, s.size - pos = f + 1 := ⟨s.size - pos - 1, by omega⟩
  rw [hf]
  simp only [badFrom]
  rw [if_pos h, if_pos hb]
theorem badRest_step (s : ByteArray) (pos : Nat) (h : pos < s.size) (hb : lenB s pos ≠ 0) : badRest s pos = badRest s (pos + (Utf8.decode s pos).2) := by
  have hp := decode_pos s pos
  have hi := decode_in s pos h
  unfold badRest
  obtain ⟨f, hf⟩ : ∃ f, s.size - pos = f + 1 := ⟨s.size - pos - 1, by omega⟩
  rw [hf]
  simp only [badFrom]
  rw [if_pos h, if_neg hb, badFrom_fuel s f (s.size - (pos + (Utf8.decode s pos).2)) _ (by omega) (by omega)]
/-- What Valid tells: the place and the error's number. -/
def validPos (s : ByteArray) : Int := match badRest s 0 with | some p => (p : Int) | Option.none => 0
def validCode (s : ByteArray) : Int := match badRest s 0 with | some _ => 100 | Option.none => 0
theorem valid_some {s : ByteArray} {p : Nat} (h : badRest s 0 = some p) : validPos s = (p : Int) ∧ validCode s = 100 := by simp [validPos, validCode, h]
theorem valid_none {s : ByteArray} (h : badRest s 0 = Option.none) : validPos s = 0 ∧ validCode s = 0 := by simp [validPos, validCode, h]

/-- One character's columns. -/
def colsB (r : Int) : Nat := if wideB r = true then 2 else 1
def widthFrom (s : ByteArray) : Nat → Nat → Nat
  | 0, _ => 0
  | f + 1, pos => if pos < s.size then colsB (Utf8.decode s pos).1 + widthFrom s f (pos + (Utf8.decode s pos).2) else 0
theorem widthFrom_fuel (s : ByteArray) : ∀ (f g pos : Nat), s.size ≤ pos + f → s.size ≤ pos + g → widthFrom s f pos = widthFrom s g pos
  | 0, 0, _, _, _ => rfl
  | 0, g + 1, pos, h, _ => by
    have : ¬ pos < s.size := by omega
    simp [widthFrom, this]
  | f + 1, 0, pos, _, h => by
    have : ¬ pos < s.size := by omega
    simp [widthFrom, this]
  | f + 1, g + 1, pos, h, h' => by
    have hp := decode_pos s pos
    simp only [widthFrom]
    by_cases hlt : pos < s.size
    · rw [if_pos hlt, if_pos hlt, widthFrom_fuel s f g _ (by omega) (by omega)]
    · rw [if_neg hlt, if_neg hlt]
def widthRest (s : ByteArray) (pos : Nat) : Nat := widthFrom s (s.size - pos) pos
def widthB (s : ByteArray) : Nat := widthRest s 0
theorem widthRest_end (s : ByteArray) (pos : Nat) (h : ¬ pos < s.size) : widthRest s pos = 0 := by
  unfold widthRest
  have : s.size - pos = 0 := by omega
  rw [this]; rfl
theorem widthRest_step (s : ByteArray) (pos : Nat) (h : pos < s.size) : widthRest s pos = colsB (Utf8.decode s pos).1 + widthRest s (pos + (Utf8.decode s pos).2) := by
  have hp := decode_pos s pos
  have hi := decode_in s pos h
  unfold widthRest
  obtain ⟨f, hf⟩ : ∃ f, s.size - pos = f + 1 := ⟨s.size - pos - 1, by omega⟩
  rw [hf]
  simp only [widthFrom]
  rw [if_pos h, widthFrom_fuel s f (s.size - (pos + (Utf8.decode s pos).2)) _ (by omega) (by omega)]
/-- A text is no wider than twice its bytes. -/
theorem widthFrom_le (s : ByteArray) : ∀ (f pos : Nat), pos ≤ s.size → widthFrom s f pos ≤ 2 * (s.size - pos)
  | 0, _, _ => Nat.zero_le _
  | f + 1, pos, hle => by
    simp only [widthFrom]
    by_cases h : pos < s.size
    · have hp := decode_pos s pos
      have hi := decode_in s pos h
      have ih := widthFrom_le s f _ hi
      rw [if_pos h]
      have : colsB (Utf8.decode s pos).1 ≤ 2 := by unfold colsB; split <;> omega
      omega
    · rw [if_neg h]; omega
theorem widthRest_le (s : ByteArray) (pos : Nat) (h : pos ≤ s.size) : widthRest s pos ≤ 2 * (s.size - pos) := widthFrom_le s _ pos h

/-- Every row lies between two numbers. -/
def rowsIn (lo hi : Int) : List Int → Bool
  | a :: b :: t => decide (lo ≤ a) && decide (b ≤ hi) && rowsIn lo hi t
  | _ => true
theorem inB_bounds (lo hi r : Int) : ∀ xs : List Int, rowsIn lo hi xs = true → inB r xs = true → lo ≤ r ∧ r ≤ hi
  | [], _, h => by simp [inB] at h
  | [_], _, h => by simp [inB] at h
  | a :: b :: t, hr, h => by
    simp only [rowsIn, Bool.and_eq_true, decide_eq_true_eq] at hr
    simp only [inB, Bool.or_eq_true, Bool.and_eq_true, decide_eq_true_eq] at h
    rcases h with h | h
    · omega
    · exact inB_bounds lo hi r t hr.2 h
theorem wideB_in (r : Int) : inB r wideRows = wideB r := by
  unfold wideB
  cases h : inB r wideRows
  · simp
  · have := inB_bounds 0x1100 0x3fffd r wideRows (by decide) h
    simp [this.1]
theorem wideB_err : wideB 65533 = false := by decide
theorem wideB_neg : wideB (-1) = false := by decide
/-- The reference's character, -1 where there is none, is as wide as the program's. -/
theorem wideB_rune (s : ByteArray) (pos : Nat) : wideB (runeB s pos) = wideB (Utf8.decode s pos).1 := by
  unfold runeB
  by_cases h : lenB s pos = 0
  · rw [if_pos h, decode_bad s pos h]
    exact wideB_neg.trans wideB_err.symm
  · rw [if_neg h]

def refBlankRows : List Int := [9, 9, 11, 12, 32, 32, 0xa0, 0xa0, 0x1680, 0x1680, 0x2000, 0x200a, 0x202f, 0x202f, 0x205f, 0x205f, 0x3000, 0x3000, 0xfeff, 0xfeff]
theorem refBlank_eq (r : Int) : inB r refBlankRows = blankB r := by
  unfold refBlankRows blankB
  have k3 : ∀ a : Int, (decide (a ≤ r) && decide (r ≤ a)) = (r == a) := fun a => by
    rw [Bool.eq_iff_iff]; simp; omega
  have k4 : (decide (11 ≤ r) && decide (r ≤ 12)) = ((r == 11) || (r == 12)) := by
    rw [Bool.eq_iff_iff]; simp; omega
  simp only [inB, oneB, k3, k4, Bool.or_false]
  ac_rfl
theorem refEnds_eq (r : Int) : (((r == 10 || r == 13) || r == 8232) || r == 8233) = endsB r := by
  unfold endsB
  simp only [oneB, Bool.or_false]
  ac_rfl
end

section
theorem byt_list (s : ByteArray) (j : Nat) : byt s j = (s.data.toList[j]?.getD 0).toNat := by
  by_cases h : j < s.size
  · rw [← byt_eq s j h, List.getElem?_eq_getElem (by simpa using h)]
    rfl
  · have h' : ¬ j < s.data.size := h
    rw [List.getElem?_eq_none (by simpa using Nat.le_of_not_lt h')]
    have e : s.get! j = default := by
      show s.data[j]! = default
      exact getElem!_neg s.data j h'
    unfold byt
    rw [e]; rfl
theorem size_list (s : ByteArray) : s.size = s.data.toList.length := by simp

/-- The decoder's form over plain values. -/
def decF (b0 b1 b2 b3 : Nat) (t1 t2 t3 : Bool) : Nat × Nat :=
  if b0 < 128 then (b0, 1)
  else if b0 / 32 == 6 && t1 then (if b0 % 32 * 64 + b1 % 64 ≥ 128 then (b0 % 32 * 64 + b1 % 64, 2) else (65533, 1))
  else if b0 / 16 == 14 && t1 && t2 then
    (if (b0 % 16 * 4096 + b1 % 64 * 64 + b2 % 64 ≥ 2048 && Utf8.valid (b0 % 16 * 4096 + b1 % 64 * 64 + b2 % 64 : Nat)) = true then (b0 % 16 * 4096 + b1 % 64 * 64 + b2 % 64, 3) else (65533, 1))
  else if b0 / 8 == 30 && t1 && t2 && t3 then
    (if (b0 % 8 * 262144 + b1 % 64 * 4096 + b2 % 64 * 64 + b3 % 64 ≥ 65536 && Utf8.valid (b0 % 8 * 262144 + b1 % 64 * 4096 + b2 % 64 * 64 + b3 % 64 : Nat)) = true then (b0 % 8 * 262144 + b1 % 64 * 4096 + b2 % 64 * 64 + b3 % 64, 4) else (65533, 1))
  else (65533, 1)
theorem decode_F (s : ByteArray) (i : Nat) : Utf8.decode s i = decF (byt s i) (byt s (i + 1)) (byt s (i + 2)) (byt s (i + 3)) (tailB s (i + 1)) (tailB s (i + 2)) (tailB s (i + 3)) := by
  rw [decode_eq]
  simp only [tailB_iff]
  rfl
theorem decF_congr {b0 b1 b2 b3 c1 c2 c3 : Nat} {t1 t2 t3 : Bool} (h1 : t1 = true → b1 = c1) (h2 : t2 = true → b2 = c2) (h3 : t3 = true → b3 = c3) : decF b0 b1 b2 b3 t1 t2 t3 = decF b0 c1 c2 c3 t1 t2 t3 := by
  unfold decF
  cases t1
  · simp
  · obtain rfl := h1 rfl
    cases t2
    · simp
    · obtain rfl := h2 rfl
      cases t3
      · simp
      · obtain rfl := h3 rfl
        rfl
def lenF (b0 b1 : Nat) (t1 t2 t3 : Bool) : Nat :=
  if b0 < 128 then 1
  else if 194 ≤ b0 ∧ b0 < 224 ∧ t1 = true then 2
  else if 224 ≤ b0 ∧ b0 < 240 ∧ t1 = true ∧ t2 = true then (if (b0 = 224 ∧ b1 < 160) ∨ (b0 = 237 ∧ 160 ≤ b1) then 0 else 3)
  else if 240 ≤ b0 ∧ b0 < 245 ∧ t1 = true ∧ t2 = true ∧ t3 = true then (if (b0 = 240 ∧ b1 < 144) ∨ (b0 = 244 ∧ 144 ≤ b1) then 0 else 4)
  else 0
theorem lenB_F (s : ByteArray) (i : Nat) : lenB s i = lenF (byt s i) (byt s (i + 1)) (tailB s (i + 1)) (tailB s (i + 2)) (tailB s (i + 3)) := rfl
theorem lenF_congr {b0 b1 c1 : Nat} {t1 t2 t3 : Bool} (h1 : t1 = true → b1 = c1) : lenF b0 b1 t1 t2 t3 = lenF b0 c1 t1 t2 t3 := by
  unfold lenF
  cases t1
  · simp
  · obtain rfl := h1 rfl
    rfl

/-- Two texts that agree from a place of each on for four bytes, as far as the characters there go. -/
theorem char_congr {s t : ByteArray} {i j : Nat} (h0 : byt s i = byt t j) (ht : ∀ k, 1 ≤ k → k ≤ 3 → tailB s (i + k) = tailB t (j + k)) (hb : ∀ k, 1 ≤ k → k ≤ 3 → tailB t (j + k) = true → byt s (i + k) = byt t (j + k)) :
    Utf8.decode s i = Utf8.decode t j ∧ lenB s i = lenB t j := by
  rw [decode_F, decode_F, lenB_F, lenB_F, h0, ht 1 (by omega) (by omega), ht 2 (by omega) (by omega), ht 3 (by omega) (by omega)]
  exact ⟨decF_congr (hb 1 (by omega) (by omega)) (hb 2 (by omega) (by omega)) (hb 3 (by omega) (by omega)), lenF_congr (hb 1 (by omega) (by omega))⟩

/-- The rest of a text from a place on. -/
theorem byt_rest (s : ByteArray) (p k : Nat) : byt (s.extract p s.size) k = byt s (p + k) := by
  rw [byt_list, byt_list, Lib.extract_to_end, List.getElem?_drop]
theorem size_rest (s : ByteArray) (p : Nat) : (s.extract p s.size).size = s.size - p := by
  rw [size_list, Lib.extract_to_end, List.length_drop, ← size_list]
theorem tail_rest (s : ByteArray) (p k : Nat) : tailB (s.extract p s.size) k = tailB s (p + k) := by
  unfold tailB
  rw [byt_rest, size_rest]
  have : (k < s.size - p) ↔ (p + k < s.size) := by omega
  simp [this]
theorem char_rest (s : ByteArray) (p k : Nat) : Utf8.decode (s.extract p s.size) k = Utf8.decode s (p + k) ∧ lenB (s.extract p s.size) k = lenB s (p + k) :=
  char_congr (byt_rest s p k) (fun j _ _ => by rw [tail_rest, Nat.add_assoc]) (fun j _ _ _ => by rw [byt_rest, Nat.add_assoc])
end

section
open Go.RowKit
set_option maxRecDepth 100000
set_option linter.unusedVariables false

/-- The library's two tables, in this program's blocks. -/
def Tabs (w : World) : Prop := Lib.Utf8Tabs 0 1 w ∧ 1 < w.heap.size
theorem Tabs.of {w : World} (h : Lib.Utf8Tabs 0 1 w) : Tabs w := by
  refine ⟨h, ?_⟩
  have h1 := World.block_lt_of_cell? w _ (h.1 0 (by decide))
  have h2 := World.block_lt_of_cell? w _ (h.2 0 (by decide)).1
  simp at h1 h2
  omega
theorem Tabs.below {w w' : World} (h : Tabs w) (hb : Below w.heap.size w w') : Tabs w' := by
  have hz := h.2
  refine ⟨⟨fun c hc => (hb.cell (p := ⟨0, c, none⟩) (by simp; omega)).trans (h.1.1 c hc), fun i hi => ⟨(hb.cell (p := ⟨1, 2 * i, none⟩) (by simp; omega)).trans (h.1.2 i hi).1, (hb.cell (p := ⟨1, 2 * i + 1, none⟩) (by simp; omega)).trans (h.1.2 i hi).2⟩⟩, Nat.lt_of_lt_of_le hz hb.size⟩

theorem decodeGo_rest (s : ByteArray) (p : Nat) (h : p < s.size) : Lib.decodeGo (s.extract p s.size) = Utf8.decode s p := by
  unfold Lib.decodeGo
  rw [size_rest, if_neg (by omega), (char_rest s p 0).1, Nat.add_zero]
theorem decodeRune_rest (s : ByteArray) (p : Nat) (h : p < s.size) (w : World) (hT : Tabs w) :
    Calls Tryd.prog 81 #[.string (s.extract p s.size)] w fun e w' => e = .returned (.tuple #[.int .i32 (Utf8.decode s p).1, .int .i64 (Utf8.decode s p).2]) ∧ Below w.heap.size w w' := by
  have h1 := Tryd.utf8_DecodeRuneInString (s.extract p s.size) w hT.1
  rw [decodeGo_rest s p h] at h1
  exact h1

theorem num_any (n : Int) (w : World) :
    Calls Tryd.prog 17 #[.int .i64 n] w fun e w' => e = .returned (.int .i64 n) ∧ w = w' := by
  go_enter Tryd.func17, Tryd.ntmps17
  go_wp2
  go_ret
  exact ⟨rfl, rfl⟩
end

section
open Go.RowKit
set_option maxRecDepth 100000
set_option linter.unusedVariables false

theorem ret_two {a b : Int} {k : IntKind} {a' b' : Int} (h : a = a') (h' : b = b') : Ending.returned (.tuple #[.int k a, .int k b]) = .returned (.tuple #[.int k a', .int k b']) := by rw [h, h']

set_option maxHeartbeats 4000000 in
theorem valid_any (s : ByteArray) (w : World) (hs : s.size ≤ 2305843009213693952) (hT : Tabs w) :
    Calls Tryd.prog 72 #[.string s] w fun e w' => e = .returned (.tuple #[.int .i64 (validPos s), .int .i64 (validCode s)]) ∧ Below w.heap.size w w' := by
  have HT := Lib.hid hT
  clear hT
  go_enter Tryd.func72, Tryd.ntmps72
  go_wp2
  go_loopw [2, 3, 6, 7] (fun _ _ _ _ wr => ∃ pos : Nat, pos ≤ s.size ∧ wr.heap[w.heap.size]? = some (.stringIter s pos) ∧ Below w.heap.size w wr ∧ badRest s pos = badRest s 0) (fun _ _ _ _ wr => s.size - wr.iterPos w.heap.size)
  case atStart => exact ⟨0, Nat.zero_le _, World.iter_heap w s 0, (Below.refl _ w).alloc (Nat.le_refl _) _, rfl⟩
  case round =>
    obtain ⟨pos, hle, hit, hbw, hnr⟩ := hrel
    have HR := Lib.hid hnr
    clear hnr
    have hsz : w.heap.size < wr.heap.size := (Array.getElem?_eq_some_iff.1 hit).1
    by_cases hp : pos < s.size
    · have hin := decode_in s pos hp
      have hps := decode_pos s pos
      have hnx : ∀ ty, (Instr.next (.pointer (some ⟨w.heap.size, 0, none⟩)) true ty).run Tryd.prog wr = _ := fun ty => Lib.run_next_any_at wr w.heap.size s pos ty hit hp
      have hit2 := Lib.iterAt_heap wr w.heap.size s pos (pos + (Utf8.decode s pos).2) hit
      have hbw2 := Lib.below_iterAt hbw (k := w.heap.size) (Nat.le_refl _) s (pos + (Utf8.decode s pos).2)
      have hsz2 : (wr.iterAt w.heap.size s (pos + (Utf8.decode s pos).2)).heap.size = wr.heap.size := Lib.iterAt_size _ _ _ _
      have hd0 := decode_le s pos
      have HB := Lib.hid (bad_iff s pos)
      have HS1 := Lib.hid (badRest_bad s pos hp)
      have HS2 := Lib.hid (badRest_step s pos hp)
      have HDR := Lib.hid (decodeRune_rest s pos hp (wr.iterAt w.heap.size s (pos + (Utf8.decode s pos).2)) (HT.out.below hbw2))
      generalize hd : (Utf8.decode s pos).1 = d at *
      generalize hwd : (Utf8.decode s pos).2 = wd at *
      generalize hW : wr.iterAt w.heap.size s (pos + wd) = W at *
      have HIT := Lib.hid hit
      clear hd hwd hit hW
      have HZ := Lib.hid hsz2
      clear hsz2
      have HK : Hid (∀ W2 : World, Below W.heap.size W W2 → W2.heap[w.heap.size]? = some (.stringIter s (pos + wd)) ∧ Below w.heap.size w W2) := Lib.hid fun W2 hb =>
        ⟨(hb.block _ (by rw [HZ.out]; exact hsz)).trans hit2, hbw2.call hb⟩
      have HM : Hid (∀ W2 : World, W2.heap[w.heap.size]? = some (.stringIter s (pos + wd)) → W2.iterPos w.heap.size = pos + wd) := Lib.hid fun W2 hb => by simp [World.iterPos, hb]
      have HI2 := Lib.hid hit2
      clear hit2
      cases he : ((d : Int) == 65533)
      · have HN : Hid (lenB s pos ≠ 0) := Lib.hid fun h => by
          have := (HB.out.1 h).1
          subst this
          simp at he
        go_wp2_with fail
        go_roundw
        case rel => exact ⟨pos + wd, hin, HI2.out, hbw2, by rw [← HR.out, HS2.out HN.out]⟩
        case measure => rw [HM.out _ HI2.out]; simp only [World.iterPos, HIT.out]; omega
      · have hd : (d : Int) = 65533 := by simpa using he
        cases h1 : ((wd : Int) == 1)
        · have HN : Hid (lenB s pos ≠ 0) := Lib.hid fun h => by
            have := (HB.out.1 h).2
            subst this
            simp at h1
          clear hd
          go_wp2_with (go_at_call 81; refine HDR.out.mono ?_; rintro e w1 ⟨rfl, hb1⟩)
          go_roundw
          case rel => exact ⟨pos + wd, hin, (HK.out _ hb1).1, (HK.out _ hb1).2, by rw [← HR.out, HS2.out HN.out]⟩
          case measure => rw [HM.out _ (HK.out _ hb1).1]; simp only [World.iterPos, HIT.out]; omega
        · have HN : Hid (badRest s 0 = some pos) := Lib.hid (by
            have h1' : (wd : Int) = 1 := by simpa using h1
            rw [← HR.out]
            exact HS1.out (HB.out.2 ⟨by omega, by omega⟩))
          clear hd
          go_wp2_with (go_at_call 81; refine HDR.out.mono ?_; rintro e w1 ⟨rfl, hb1⟩)
          go_ret2
          exact ⟨ret_two (valid_some HN.out).1.symm (valid_some HN.out).2.symm, (HK.out _ hb1).2⟩
    · have HE := Lib.hid (badRest_end s pos hp)
      have hnx : ∀ ty, (Instr.next (.pointer (some ⟨w.heap.size, 0, none⟩)) true ty).run Tryd.prog wr = _ := fun ty => Lib.run_next_end_at wr w.heap.size s pos ty hit hp
      go_wp2
      go_ret2
      have h0 : badRest s 0 = Option.none := by rw [← HR.out, HE.out]
      exact ⟨ret_two (valid_none h0).1.symm (valid_none h0).2.symm, hbw⟩
end

section
open Go.RowKit
set_option maxRecDepth 100000
set_option linter.unusedVariables false

def letters : ByteArray := ⟨#[10, 13]⟩
theorem letters_size : letters.size = 2 := rfl
theorem letters_dec (p : Nat) (h : p < 2) : (Utf8.decode letters p).2 = 1 ∧ (Utf8.decode letters p).1 < 128 := by
  obtain rfl | rfl : p = 0 ∨ p = 1 := by omega
  all_goals exact ⟨by kernel_rfl, by decide +kernel⟩
theorem letters_none (c : UInt8) (h : 128 ≤ c.toNat) (p : Nat) : Lib.indexByte (letters.extract p letters.size).data.toList c = -1 := by
  have key : ∀ l : List UInt8, (∀ x ∈ l, x.toNat < 128) → Lib.indexByte l c = -1 := by
    intro l
    induction l with
    | nil => intro _; rfl
    | cons a l ih =>
      intro hl
      have h1 := ih (fun x hx => hl x (List.mem_cons_of_mem _ hx))
      have h2 := hl a (List.mem_cons_self ..)
      have h3 : (a == c) = false := by
        rw [beq_eq_false_iff_ne]
        rintro rfl
        omega
      simp [Lib.indexByte, h1, h3]
  refine key _ (fun x hx => ?_)
  rw [Lib.extract_data] at hx
  have hm := List.mem_of_mem_drop (List.mem_of_mem_take hx)
  have e : letters.data.toList = [10, 13] := rfl
  rw [e] at hm
  simp at hm
  rcases hm with rfl | rfl <;> decide
theorem letters_index (r : Int) (h0 : 0 ≤ r) (h1 : r < 128) : Lib.indexByte letters.data.toList r.toNat.toUInt8 =
    if r = 10 then 0 else if r = 13 then 1 else -1 := by
  obtain ⟨n, rfl⟩ : ∃ n : Nat, r = (n : Int) := ⟨r.toNat, by omega⟩
  have key : ∀ m : Fin 128, Lib.indexByte letters.data.toList ((m.val : Int).toNat.toUInt8) = if (m.val : Int) = 10 then 0 else if (m.val : Int) = 13 then 1 else -1 := by decide +kernel
  exact key ⟨n, by omega⟩
theorem lenB_1' (s : ByteArray) (i : Nat) (h : byt s i < 128) : lenB s i = 1 := by unfold lenB; rw [if_pos h]
/-- A character's last byte. -/
theorem enc_last (r : Int) (h : 128 ≤ r) (hv : Utf8.valid r = true) : ∃ n, (n = 1 ∨ n = 2 ∨ n = 3) ∧ (Utf8.encode r).size = n + 1 ∧ ∀ h : n < (Utf8.encode r).size, 128 ≤ ((Utf8.encode r)[n]'h).toNat := by
  have e : Utf8.encode r = (if r.toNat < 128 then ⟨#[UInt8.ofNat r.toNat]⟩
    else if r.toNat < 2048 then ⟨#[UInt8.ofNat (192 + r.toNat / 64), UInt8.ofNat (128 + r.toNat % 64)]⟩
    else if r.toNat < 65536 then ⟨#[UInt8.ofNat (224 + r.toNat / 4096), UInt8.ofNat (128 + r.toNat / 64 % 64), UInt8.ofNat (128 + r.toNat % 64)]⟩
    else ⟨#[UInt8.ofNat (240 + r.toNat / 262144), UInt8.ofNat (128 + r.toNat / 4096 % 64), UInt8.ofNat (128 + r.toNat / 64 % 64), UInt8.ofNat (128 + r.toNat % 64)]⟩) := by
    unfold Utf8.encode
    rw [if_pos hv]
  rw [e]
  have hb : (UInt8.ofNat (128 + r.toNat % 64)).toNat = 128 + r.toNat % 64 := by simp; omega
  rw [if_neg (by omega)]
  by_cases h2 : r.toNat < 2048
  · rw [if_pos h2]
    refine ⟨1, by omega, rfl, fun h => ?_⟩
    show 128 ≤ (UInt8.ofNat (128 + r.toNat % 64)).toNat
    omega
  · rw [if_neg h2]
    by_cases h3 : r.toNat < 65536
    · rw [if_pos h3]
      refine ⟨2, by omega, rfl, fun h => ?_⟩
      show 128 ≤ (UInt8.ofNat (128 + r.toNat % 64)).toNat
      omega
    · rw [if_neg h3]
      refine ⟨3, by omega, rfl, fun h => ?_⟩
      show 128 ≤ (UInt8.ofNat (128 + r.toNat % 64)).toNat
      omega

set_option maxHeartbeats 4000000 in
theorem index_err (w : World) :
    Calls Tryd.prog 90 #[.string letters, .int .i32 65533] w fun e w' => e = .returned (.int .i64 (-1)) ∧ Below w.heap.size w w' := by
  have HS := Lib.hid letters_size
  have hs := HS.out
  have HD := Lib.hid letters_dec
  generalize letters = L at *
  go_enter Tryd.func90, Tryd.ntmps90
  go_wp2
  go_loopw [5, 6] (fun _ _ wr => ∃ pos : Nat, pos ≤ L.size ∧ wr.heap[w.heap.size]? = some (.stringIter L pos) ∧ Below w.heap.size w wr) (fun _ _ wr => L.size - wr.iterPos w.heap.size)
  case atStart => exact ⟨0, Nat.zero_le _, World.iter_heap w L 0, (Below.refl _ w).alloc (Nat.le_refl _) _⟩
  case round =>
    obtain ⟨pos, hle, hit, hbw⟩ := hrel
    by_cases hp : pos < L.size
    · have hnx : ∀ ty, (Instr.next (.pointer (some ⟨w.heap.size, 0, none⟩)) true ty).run Tryd.prog wr = _ := fun ty => Lib.run_next_any_at wr w.heap.size L pos ty hit hp
      have hit2 := Lib.iterAt_heap wr w.heap.size L pos (pos + (Utf8.decode L pos).2) hit
      have hbw2 := Lib.below_iterAt hbw (k := w.heap.size) (Nat.le_refl _) L (pos + (Utf8.decode L pos).2)
      obtain ⟨e1, hd1⟩ := HD.out pos (by omega)
      have hd0 := decode_le L pos
      rw [e1] at hnx hit2 hbw2
      generalize (Utf8.decode L pos).1 = d at *
      generalize wr.iterAt w.heap.size L (pos + 1) = W at *
      have HIT := Lib.hid hit
      have HIT2 := Lib.hid hit2
      have HM : Hid (W.iterPos w.heap.size = pos + 1) := Lib.hid (by simp [World.iterPos, hit2])
      have hd2 : d ≠ 65533 := by omega
      clear hit hit2
      go_wp2_with fail
      go_roundw
      case rel => exact ⟨pos + 1, by omega, HIT2.out, hbw2⟩
      case measure => rw [HM.out]; simp only [World.iterPos, HIT.out]; omega
    · have hnx : ∀ ty, (Instr.next (.pointer (some ⟨w.heap.size, 0, none⟩)) true ty).run Tryd.prog wr = _ := fun ty => Lib.run_next_end_at wr w.heap.size L pos ty hit hp
      go_wp2_with fail
      go_ret
      exact ⟨rfl, hbw⟩

theorem below_drew {B : Nat} {w w1 : World} (h : Below B w w1) (n : Nat) : Below B w (w1.drewN n) := Go.Proofs.YthljgiimdcbfpaaDoor.below_drewN h n

set_option maxHeartbeats 4000000 in
theorem index_walk0 (r : Int) (R L : ByteArray) (n : Nat) (w : World) (h : 128 ≤ r) (hne : r ≠ 65533) (hR : Utf8.encode r = R) (hn : n ≤ 3) (hz : R.size = n + 1) (hlt : n < R.size) (hL : L.size ≤ n)
    (HVR : Hid (Calls Tryd.prog 97 #[.int .i32 r] w fun e w' => e = .returned (.bool true) ∧ w = w')) :
    Calls Tryd.prog 90 #[.string L, .int .i32 r] w fun e w' => e = .returned (.int .i64 (-1)) ∧ Below w.heap.size w w' := by
  go_enter Tryd.func90, Tryd.ntmps90
  go_wp2_with (go_at_call 97; refine HVR.out.mono ?_; rintro e w1 ⟨rfl, rfl⟩)
  go_step3
  go_wp2_with fail
  clear hz hR
  go_loop [4, 9] (fun _ x => x = .int .i64 (n : Int)) (fun _ _ => 0)
  case atStart => rfl
  case round =>
    obtain rfl := hrel
    go_wp2_with fail
    go_ret
    exact ⟨rfl, Below.refl _ _⟩

set_option maxHeartbeats 4000000 in
theorem index_walk (r : Int) (R L : ByteArray) (n : Nat) (w : World) (h : 128 ≤ r) (hne : r ≠ 65533) (hR : Utf8.encode r = R) (hn : n ≤ 3) (hz : R.size = n + 1) (hlt : n < R.size) (hL : n < L.size)
    (hx1 : ((L[n]'hL).toNat : Int) < 128) (hx2 : 128 ≤ ((R[n]'hlt).toNat : Int))
    (HVR : Hid (Calls Tryd.prog 97 #[.int .i32 r] w fun e w' => e = .returned (.bool true) ∧ w = w'))
    (HIB : Hid (∀ (w : World) (c : Int), 128 ≤ c → c < 256 → Calls Tryd.prog 96 #[.string (L.extract (n + 1) L.size), .int .u8 c] w fun e w' => e = .returned (.int .i64 (-1)) ∧ w' = w)) :
    Calls Tryd.prog 90 #[.string L, .int .i32 r] w fun e w' => e = .returned (.int .i64 (-1)) ∧ Below w.heap.size w w' := by
  have hcl : ((R[n]'hlt).toNat : Int) < 256 := by have := (R[n]'hlt).toNat_lt; omega
  have hx3 : ((L[n]'hL).toNat : Int) ≠ ((R[n]'hlt).toNat : Int) := by omega
  have HC := fun w => HIB.out w _ hx2 hcl
  have HC' := Lib.hid HC
  clear HC HIB
  go_enter Tryd.func90, Tryd.ntmps90
  go_wp2_with (go_at_call 97; refine HVR.out.mono ?_; rintro e w1 ⟨rfl, rfl⟩)
  go_step3
  go_wp2_with fail
  clear hz hR
  go_loop [4, 9] (fun _ x => x = .int .i64 (n : Int)) (fun _ _ => 0)
  case atStart => rfl
  case round =>
    obtain rfl := hrel
    go_wp2_with fail
    go_step3
    go_wp2_with fail
    go_quiet (fail)
    have hbq : Below w.heap.size w (w.drewN nq) := below_drew (Below.refl _ w) _
    generalize w.drewN nq = w1 at *
    go_wp2_with fail
    have q1 : (0 : Int) ≤ (n : Int) + 1 := by omega
    have q2 : (n : Int) + 1 ≤ (L.size : Int) := by omega
    have q3 : ((n : Int) + 1).toNat = n + 1 := by omega
    have q4 : n + 1 ≤ L.size := by omega
    have q5 : IntKind.i64.wrap ((n : Int) + 1) = (n : Int) + 1 := by rw [IntKind.wrap_i64]; omega
    go_quiet (first | (go_at_call 96; exact Calls.quiet_of_same (HC'.out _)))
    go_wp2_with fail
    simp (config := { zetaDelta := true }) only [Exit.noGoto_ret, Exit.inBlock, Exit.then]
    go_ret
    exact ⟨rfl, below_drew hbq _⟩

theorem index_far (r : Int) (w : World) (h : 128 ≤ r) (hv : Utf8.valid r = true) (hne : r ≠ 65533) :
    Calls Tryd.prog 90 #[.string letters, .int .i32 r] w fun e w' => e = .returned (.int .i64 (-1)) ∧ Below w.heap.size w w' := by
  obtain ⟨n, hn, hz, hb⟩ := enc_last r h hv
  have hvr : Lib.validRune r = true := by
    have := hv
    unfold Utf8.valid at this
    unfold Lib.validRune
    simp at this ⊢
    omega
  have hlt : n < (Utf8.encode r).size := by omega
  have hb' := hb hlt
  by_cases hL : n < letters.size
  · refine index_walk r (Utf8.encode r) letters n w h hne rfl (by omega) hz hlt hL ?_ (by omega) (Lib.hid ((Tryd.utf8_ValidRune r w).mono fun e w' ⟨h1, h2⟩ => ⟨by rw [h1, hvr], h2.symm⟩)) (Lib.hid fun w c hc hc' => (Tryd.strings_IndexByte _ c w).mono fun e w' ⟨h1, h2⟩ => ⟨by rw [h1, letters_none _ (by simp; omega)], h2⟩)
    have key : ∀ m : Fin 2, (letters[m.val]'(by rw [letters_size]; exact m.isLt)).toNat < 128 := by decide +kernel
    have := key ⟨n, by rw [letters_size] at hL; exact hL⟩
    simp only at this
    omega
  · exact index_walk0 r (Utf8.encode r) letters n w h hne rfl (by omega) hz hlt (by omega) (Lib.hid ((Tryd.utf8_ValidRune r w).mono fun e w' ⟨h1, h2⟩ => ⟨by rw [h1, hvr], h2.symm⟩))
/-- Is a character a line's end? -/
def endN (r : Nat) : Bool := r == 10 || r == 13
theorem index_any (r : Nat) (w : World) (hv : Utf8.valid (r : Int) = true) :
    Calls Tryd.prog 90 #[.string letters, .int .i32 (r : Int)] w fun e w' => (∃ i : Int, e = .returned (.int .i64 i) ∧ decide (0 ≤ i) = endN r) ∧ Below w.heap.size w w' := by
  by_cases h1 : (r : Int) < 128
  · refine (Tryd.strings_IndexRune_ascii letters (r : Int) w (by omega) h1).mono fun e w' ⟨a, b⟩ => ?_
    subst b
    refine ⟨⟨_, a, ?_⟩, Below.refl _ _⟩
    rw [letters_index (r : Int) (by omega) h1]
    unfold endN
    rw [Bool.eq_iff_iff]
    simp
    repeat' split
    all_goals omega
  · have hs : endN r = false := by
      unfold endN
      simp
      omega
    rw [hs]
    by_cases h2 : r = 65533
    · subst h2
      exact (index_err w).mono fun e w' ⟨a, b⟩ => ⟨⟨_, a, rfl⟩, b⟩
    · exact (index_far (r : Int) w (by omega) hv (by omega)).mono fun e w' ⟨a, b⟩ => ⟨⟨_, a, rfl⟩, b⟩

/-- Has a text a line's end, from a place on? -/
def endFrom (s : ByteArray) (p : Nat) : Bool := (s.data.toList.drop p).any fun c => c == 10 || c == 13
theorem endFrom_out (s : ByteArray) (p : Nat) (h : ¬ p < s.size) : endFrom s p = false := by
  unfold endFrom
  have := size_list s
  rw [List.drop_of_length_le (by omega)]
  rfl
theorem endFrom_byte (s : ByteArray) (p : Nat) (h : p < s.size) : endFrom s p = (endN (byt s p) || endFrom s (p + 1)) := by
  unfold endFrom
  have hz := size_list s
  have hp : p < s.data.toList.length := by omega
  rw [List.drop_eq_getElem_cons hp, List.any_cons]
  congr 1
  have e : byt s p = (s.data.toList[p]'hp).toNat := by rw [byt_list, List.getElem?_eq_getElem hp]; rfl
  rw [e]
  generalize s.data.toList[p]'hp = c
  unfold endN
  rw [Bool.eq_iff_iff]
  simp [← UInt8.toNat_inj]
theorem endFrom_tail {s : ByteArray} {p : Nat} (h : tailB s p = true) : endFrom s p = endFrom s (p + 1) := by
  have hb := tailB_bd h
  rw [endFrom_byte s p hb.1]
  have : endN (byt s p) = false := by unfold endN; simp; omega
  rw [this]
  rfl
theorem endFrom_step (s : ByteArray) (p : Nat) (h : p < s.size) : endFrom s p = (endN (Utf8.decode s p).1 || endFrom s (p + (Utf8.decode s p).2)) := by
  rw [endFrom_byte s p h]
  have hbig : ∀ r : Nat, 128 ≤ r → endN r = false := fun r hr => by unfold endN; simp; omega
  have hb : ¬ byt s p < 128 → endN (byt s p) = false := fun hx => hbig _ (by omega)
  rcases dec_cases s p with ⟨hl, hd⟩ | ⟨hl, hx, hd⟩ | ⟨hl, t1, hx, hd⟩ | ⟨hl, t1, t2, hx, hd⟩ | ⟨hl, t1, t2, t3, hx, _, hd⟩
  · have : ¬ byt s p < 128 := fun hx => by
      rw [lenB_1' s p hx] at hl
      cases hl
    rw [hd, hb this]
    rfl
  · rw [hd]
  · have : ¬ byt s p < 128 := fun hx => by rw [lenB_1' s p hx] at hl; cases hl
    rw [hb this, hbig _ (by omega), hd, endFrom_tail t1]
    rfl
  · have : ¬ byt s p < 128 := fun hx => by rw [lenB_1' s p hx] at hl; cases hl
    rw [hb this, hbig _ (by omega), hd, endFrom_tail t1, endFrom_tail t2]
    rfl
  · have : ¬ byt s p < 128 := fun hx => by rw [lenB_1' s p hx] at hl; cases hl
    rw [hb this, hbig _ (by omega), hd, endFrom_tail t1, endFrom_tail t2, endFrom_tail t3]
    rfl
/-- What the library's own word says. -/
theorem indexAny_end (l : List UInt8) : decide (0 ≤ Lib.indexAny l [10, 13]) = l.any fun c => c == 10 || c == 13 := by
  induction l with
  | nil => rfl
  | cons c l ih =>
    have hge := Lib.indexAny_ge [10, 13] l
    rw [List.any_cons, ← ih]
    have e : Lib.indexAny (c :: l) [10, 13] = if ([10, 13] : List UInt8).contains c then 0 else if Lib.indexAny l [10, 13] == -1 then -1 else Lib.indexAny l [10, 13] + 1 := rfl
    rw [e]
    by_cases hc : c = 10 ∨ c = 13
    · have h1 : ([10, 13] : List UInt8).contains c = true := by simpa using hc
      have h2 : (c == 10 || c == 13) = true := by simpa using hc
      rw [if_pos h1, h2]
      rfl
    · have h1 : ([10, 13] : List UInt8).contains c = false := by simpa using hc
      have h2 : (c == 10 || c == 13) = false := by simpa using hc
      rw [if_neg (by rw [h1]; decide), h2]
      by_cases h3 : Lib.indexAny l [10, 13] = -1
      · simp [h3]
      · rw [if_neg (by simpa using h3)]
        simp
        omega
theorem decode_valid' (s : ByteArray) (i : Nat) : Utf8.valid ((Utf8.decode s i).1 : Int) = true := by
  rw [decode_eq]
  have hb := byt_lt s i
  have h65 : Utf8.valid (((65533 : Nat)) : Int) = true := by decide
  by_cases c0 : byt s i < 128
  · rw [if_pos c0]
    simp [Utf8.valid]
    omega
  rw [if_neg c0]
  split
  · split
    · simp [Utf8.valid]
      omega
    · exact h65
  · split
    · split
      · rename_i h
        simp only [Bool.and_eq_true] at h
        exact h.2
      · exact h65
    · split
      · split
        · rename_i h
          simp only [Bool.and_eq_true] at h
          exact h.2
        · exact h65
      · exact h65
theorem hv116 : ∀ w, (zeroValue 140).run Tryd.prog w = .ok (.agg (Array.replicate 256 (.bool false))) w := fun w => by kernel_rfl

set_option maxHeartbeats 4000000 in
theorem indexAny_short (s : ByteArray) (w : World) (hs : s.size ≤ 8) :
    Calls Tryd.prog 82 #[.string s, .string letters] w fun e w' => (∃ i : Int, e = .returned (.int .i64 i) ∧ decide (0 ≤ i) = endFrom s 0) ∧ Below w.heap.size w w' := by
  have HL := Lib.hid letters_size
  have HI := Lib.hid index_any
  have hl2 : letters.size = 2 := HL.out
  generalize letters = L at *
  have l1 : ((L.size : Int) == 1) = false := by rw [hl2]; rfl
  have l3 : L.data.toList ≠ [] := by
    intro h
    rw [size_list, h] at hl2
    cases hl2
  have l4 : L.toList.isEmpty = false := by
    cases hx : L.toList with
    | nil => exfalso; rw [ByteArray.toList_eq] at hx; exact l3 hx
    | cons a b => rfl
  clear hl2
  go_enter Tryd.func82, Tryd.ntmps82
  go_wp2_with (go_at_call 91; refine (Tryd.strings_shouldUseASCIISet _ _).mono ?_; rintro e w1 ⟨rfl, rfl⟩)
  go_loopw [4, 9, 10] (fun _ _ _ wr => ∃ pos : Nat, pos ≤ s.size ∧ wr.heap[w1.heap.size]? = some (.stringIter s pos) ∧ Below w1.heap.size w1 wr ∧ endFrom s pos = endFrom s 0) (fun _ _ _ wr => s.size - wr.iterPos w1.heap.size)
  case atStart => exact ⟨0, Nat.zero_le _, World.iter_heap w1 s 0, (Below.refl _ w1).alloc (Nat.le_refl _) _, rfl⟩
  case round =>
    obtain ⟨pos, hle, hit, hbw, hnr⟩ := hrel
    have HR := Lib.hid hnr
    clear hnr
    have hsz : w1.heap.size < wr.heap.size := (Array.getElem?_eq_some_iff.1 hit).1
    by_cases hp : pos < s.size
    · have hin := decode_in s pos hp
      have hps := decode_pos s pos
      have hnx : ∀ ty, (Instr.next (.pointer (some ⟨w1.heap.size, 0, none⟩)) true ty).run Tryd.prog wr = _ := fun ty => Lib.run_next_any_at wr w1.heap.size s pos ty hit hp
      have hit2 := Lib.iterAt_heap wr w1.heap.size s pos (pos + (Utf8.decode s pos).2) hit
      have hbw2 := Lib.below_iterAt hbw (k := w1.heap.size) (Nat.le_refl _) s (pos + (Utf8.decode s pos).2)
      have hsz2 : (wr.iterAt w1.heap.size s (pos + (Utf8.decode s pos).2)).heap.size = wr.heap.size := Lib.iterAt_size _ _ _ _
      have hd0 := decode_le s pos
      have HE := Lib.hid (endFrom_step s pos hp)
      have HC := Lib.hid (HI.out (Utf8.decode s pos).1 (wr.iterAt w1.heap.size s (pos + (Utf8.decode s pos).2)) (decode_valid' s pos))
      generalize hd : (Utf8.decode s pos).1 = d at *
      generalize hwd : (Utf8.decode s pos).2 = wd at *
      generalize hW : wr.iterAt w1.heap.size s (pos + wd) = W at *
      have HIT := Lib.hid hit
      clear hd hwd hit hW
      have HZ := Lib.hid hsz2
      clear hsz2
      have HK : Hid (∀ W2 : World, Below W.heap.size W W2 → W2.heap[w1.heap.size]? = some (.stringIter s (pos + wd)) ∧ Below w1.heap.size w1 W2) := Lib.hid fun W2 hb =>
        ⟨(hb.block _ (by rw [HZ.out]; exact hsz)).trans hit2, hbw2.call hb⟩
      have HM : Hid (∀ W2 : World, W2.heap[w1.heap.size]? = some (.stringIter s (pos + wd)) → W2.iterPos w1.heap.size = pos + wd) := Lib.hid fun W2 hb => by simp [World.iterPos, hb]
      clear hit2 hbw2
      go_wp2_with fail
      refine HC.out.mono ?_
      rintro e w2 ⟨⟨i, rfl, hi⟩, hb2⟩
      have HI2 := Lib.hid hi
      have hk := HK.out w2 hb2
      have HK2 := Lib.hid hk
      clear hi hk hb2
      by_cases h0 : 0 ≤ i
      · have HF : Hid (endFrom s 0 = true) := Lib.hid (by rw [← HR.out, HE.out, ← HI2.out]; simp [h0])
        go_wp2_with fail
        go_ret
        exact ⟨⟨_, rfl, by rw [HF.out]; simp⟩, HK2.out.2⟩
      · have h0' : i < 0 := by omega
        have HF : Hid (endFrom s (pos + wd) = endFrom s 0) := Lib.hid (by rw [← HR.out, HE.out, ← HI2.out]; simp only [h0, decide_false, Bool.false_or])
        go_wp2_with fail
        go_roundw
        case rel => exact ⟨pos + wd, hin, HK2.out.1, HK2.out.2, HF.out⟩
        case measure => rw [HM.out _ HK2.out.1]; simp only [World.iterPos, HIT.out]; omega
    · have HE := Lib.hid (endFrom_out s pos hp)
      have hnx : ∀ ty, (Instr.next (.pointer (some ⟨w1.heap.size, 0, none⟩)) true ty).run Tryd.prog wr = _ := fun ty => Lib.run_next_end_at wr w1.heap.size s pos ty hit hp
      go_wp2_with fail
      go_ret
      exact ⟨⟨_, rfl, by rw [← HR.out, HE.out]; rfl⟩, hbw⟩

/-- strings.ContainsAny AT A LINE's TWO ENDS: of every text. -/
theorem containsEnd_any (s : ByteArray) (w : World) (hs : s.size < 4294967281) :
    Calls Tryd.prog 73 #[.string s, .string ⟨#[10, 13]⟩] w fun e w' => e = .returned (.bool (endFrom s 0)) ∧ Below w.heap.size w w' := by
  have HC : Hid (Calls Tryd.prog 82 #[.string s, .string ⟨#[10, 13]⟩] w fun e w' => (∃ i : Int, e = .returned (.int .i64 i) ∧ decide (0 ≤ i) = endFrom s 0) ∧ Below w.heap.size w w') := Lib.hid (by
    by_cases h8 : s.size ≤ 8
    · exact indexAny_short s w h8
    · refine (Tryd.strings_IndexAny_long hv116 s letters w (by decide) (by omega) hs (by decide) (fun j b hj => ?_)).mono fun e w' ⟨a, b⟩ => ?_
      · have hm := List.mem_of_getElem? hj
        have e : letters.data.toList = [10, 13] := rfl
        rw [e] at hm
        simp at hm
        rcases hm with rfl | rfl <;> decide
      · subst b
        refine ⟨⟨_, a, ?_⟩, ((Below.refl _ w).alloc (Nat.le_refl _) _).alloc (by simp) _⟩
        have e : letters.data.toList = [10, 13] := rfl
        rw [e, indexAny_end]
        unfold endFrom
        rw [List.drop_zero])
  generalize endFrom s 0 = b at *
  go_enter Tryd.func73, Tryd.ntmps73
  go_wp2_with (go_at_call 82; refine HC.out.mono ?_; rintro e w1 ⟨⟨i, rfl, hi⟩, hb1⟩; have HI := Lib.hid hi; clear hi)
  go_ret
  exact ⟨ret_bool HI.out, hb1⟩
end

section
open Go.RowKit
set_option maxRecDepth 100000
set_option linter.unusedVariables false

/-- May it be a text of a document? -/
def textB (s : ByteArray) : Bool := (validCode s == 0) && !endFrom s 0
theorem validCode_two (s : ByteArray) : validCode s = 0 ∨ validCode s = 100 := by
  unfold validCode
  split <;> simp

set_option maxHeartbeats 1000000 in
theorem text_any (s : ByteArray) (w : World) (hs : s.size < 4294967281) (hT : Tabs w) :
    Calls Tryd.prog 65 #[.string s] w fun e w' => e = .returned (.bool (textB s)) ∧ Below w.heap.size w w' := by
  have HT := Lib.hid hT
  have HV := Lib.hid (valid_any s w (by omega) hT)
  have HB : Hid (textB s = ((validCode s == 0) && !endFrom s 0)) := Lib.hid rfl
  clear hT
  rcases validCode_two s with hc | hc
  · rw [hc] at HV HB
    clear hc
    go_enter Tryd.func65, Tryd.ntmps65
    go_wp2_with fail
    refine HV.out.mono ?_
    rintro e w1 ⟨rfl, hb1⟩
    go_wp2_with fail
    refine (containsEnd_any s w1 hs).mono ?_
    rintro e w2 ⟨rfl, hb2⟩
    have HB2 := Lib.hid (hb1.call hb2)
    clear hb1 hb2
    generalize endFrom s 0 = x at *
    go_wp2_with fail
    go_ret
    exact ⟨ret_bool (by rw [HB.out]; simp), HB2.out⟩
  · rw [hc] at HV HB
    clear hc
    go_enter Tryd.func65, Tryd.ntmps65
    go_wp2_with fail
    refine HV.out.mono ?_
    rintro e w1 ⟨rfl, hb1⟩
    go_wp2_with fail
    go_ret
    exact ⟨ret_bool (by rw [HB.out]; simp), hb1⟩
end

section
open Go.RowKit

def formedY (y : Int) : Bool := decide (0 ≤ y) && decide (y ≤ 10000)
/-- May a document be, but for its kids? (kind, text, how many kids, Break, ID, By) -/
def formedF (k : Int) (t : ByteArray) (n : Nat) (b : Bool) (i y : Int) : Bool :=
  if k = 1 then textB t && n == 0 && i == 0 && y == 0 && !b
  else if k = 2 then t.size == 0 && i == 0 && y == 0 && !b
  else if k = 3 ∨ k = 4 ∨ k = 5 ∨ k = 6 ∨ k = 15 ∨ k = 16 then t.size == 0 && n == 0 && i == 0 && y == 0 && !b
  else if k = 7 then t.size == 0 && n == 1 && decide (0 ≤ i) && y == 0
  else if k = 8 then t.size == 0 && decide (1 ≤ n) && i == 0 && y == 0
  else if k = 9 then t.size == 0 && (n == 0 || n % 2 == 1) && i == 0 && y == 0 && !b
  else if k = 10 then t.size == 0 && n == 2 && decide (0 ≤ i) && y == 0 && !b
  else if k = 13 then t.size == 0 && n == 1 && i == 0 && formedY y && !b
  else if k = 11 ∨ k = 14 then t.size == 0 && n == 1 && i == 0 && y == 0 && !b
  else if k = 12 then t.size == 0 && n == 1 && decide (1 ≤ i) && y == 0 && !b
  else false
theorem text_none {t : ByteArray} (h : t.size = 0) : t = ⟨#[]⟩ := by
  obtain ⟨d⟩ := t
  have : d = #[] := Array.eq_empty_of_size_eq_zero h
  rw [this]
theorem text_full {t : ByteArray} (h : ¬ t.size = 0) : t.toList.isEmpty = false := by
  cases hx : t.toList with
  | nil =>
    exfalso
    rw [ByteArray.toList_eq] at hx
    have := size_list t
    rw [hx] at this
    exact h this
  | cons a b => rfl
end
end Go.Proofs.YthljgiimdcbfpaaDoor
