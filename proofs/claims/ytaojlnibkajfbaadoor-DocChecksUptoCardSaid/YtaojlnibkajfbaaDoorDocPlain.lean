/- Documents in plain Lean: their data, how they lie in memory, what stays. -/
import Derived.Test.YtaojlnibkajfbaaDoorKit
namespace Go.Proofs.YtaojlnibkajfbaaDoor
open Go.RowKit

/-- A document. -/
inductive Doc where
  | mk (kind : Int) (text : ByteArray) (kids : List Doc) (brk : Bool) (id : Int) (width : Int)
namespace Doc
def kind : Doc → Int | .mk k _ _ _ _ _ => k
def text : Doc → ByteArray | .mk _ t _ _ _ _ => t
def kids : Doc → List Doc | .mk _ _ ks _ _ _ => ks
def brk : Doc → Bool | .mk _ _ _ b _ _ => b
def id : Doc → Int | .mk _ _ _ _ i _ => i
def width : Doc → Int | .mk _ _ _ _ _ y => y
end Doc
theorem Doc.eta (d : Doc) : d = .mk d.kind d.text d.kids d.brk d.id d.width := by cases d; rfl
theorem Doc.size_kid {d x : Doc} (h : x ∈ d.kids) : SizeOf.sizeOf x < SizeOf.sizeOf d := by
  cases d with
  | mk k t ks b i y =>
    have := List.sizeOf_lt_of_mem (show x ∈ ks from h)
    simp only [Doc.mk.sizeOf_spec]
    omega
/-- INDUCTION: what holds of a document whenever it holds of its kids holds of every one. -/
theorem Doc.ind {P : Doc → Prop} (h : ∀ d : Doc, (∀ x ∈ d.kids, P x) → P d) (d : Doc) : P d := h d fun x _hx => Doc.ind h x
  termination_by SizeOf.sizeOf d
  decreasing_by exact Doc.size_kid _hx

mutual
/-- How many documents it has. -/
def Doc.nodes : Doc → Nat
  | .mk _ _ ks _ _ _ => nodesL ks + 1
def nodesL : List Doc → Nat
  | [] => 0
  | d :: ds => d.nodes + nodesL ds
end
mutual
/-- How deep it is nested. -/
def Doc.depth : Doc → Nat
  | .mk _ _ ks _ _ _ => depthL ks + 1
def depthL : List Doc → Nat
  | [] => 0
  | d :: ds => max d.depth (depthL ds)
end
mutual
/-- Its size: documents and letters. -/
def Doc.bulk : Doc → Nat
  | .mk _ t ks _ _ _ => bulkL ks + t.size + 1
def bulkL : List Doc → Nat
  | [] => 0
  | d :: ds => d.bulk + bulkL ds
end
theorem Doc.nodes_eq (d : Doc) : d.nodes = nodesL d.kids + 1 := by cases d; rfl
theorem Doc.depth_eq (d : Doc) : d.depth = depthL d.kids + 1 := by cases d; rfl
theorem Doc.bulk_eq (d : Doc) : d.bulk = bulkL d.kids + d.text.size + 1 := by cases d; rfl
theorem nodesL_app (a b : List Doc) : nodesL (a ++ b) = nodesL a + nodesL b := by
  induction a with
  | nil => simp [nodesL]
  | cons d a ih => simp only [List.cons_append, nodesL, ih]; omega
theorem bulkL_app (a b : List Doc) : bulkL (a ++ b) = bulkL a + bulkL b := by
  induction a with
  | nil => simp [bulkL]
  | cons d a ih => simp only [List.cons_append, bulkL, ih]; omega
theorem depthL_app (a b : List Doc) : depthL (a ++ b) = max (depthL a) (depthL b) := by
  induction a with
  | nil => simp [depthL]
  | cons d a ih => simp only [List.cons_append, depthL, ih]; omega
theorem nodesL_mem {ks : List Doc} {x : Doc} (h : x ∈ ks) : x.nodes ≤ nodesL ks := by
  induction ks with
  | nil => simp at h
  | cons d ds ih =>
    simp only [nodesL]
    rcases List.mem_cons.1 h with rfl | h
    · omega
    · have := ih h; omega
theorem bulkL_mem {ks : List Doc} {x : Doc} (h : x ∈ ks) : x.bulk ≤ bulkL ks := by
  induction ks with
  | nil => simp at h
  | cons d ds ih =>
    simp only [bulkL]
    rcases List.mem_cons.1 h with rfl | h
    · omega
    · have := ih h; omega
theorem depthL_mem {ks : List Doc} {x : Doc} (h : x ∈ ks) : x.depth ≤ depthL ks := by
  induction ks with
  | nil => simp at h
  | cons d ds ih =>
    simp only [depthL]
    rcases List.mem_cons.1 h with rfl | h
    · omega
    · have := ih h; omega
theorem Doc.nodes_pos (d : Doc) : 0 < d.nodes := by rw [Doc.nodes_eq]; omega
theorem nodesL_len (ks : List Doc) : ks.length ≤ nodesL ks := by
  induction ks with
  | nil => simp [nodesL]
  | cons d ds ih => have := d.nodes_pos; simp only [nodesL, List.length_cons]; omega
theorem Doc.depth_nodes (d : Doc) : d.depth ≤ d.nodes := by
  refine Doc.ind (P := fun d => d.depth ≤ d.nodes) (fun d ih => ?_) d
  rw [Doc.depth_eq, Doc.nodes_eq]
  have : ∀ ks : List Doc, (∀ x ∈ ks, x.depth ≤ x.nodes) → depthL ks ≤ nodesL ks := by
    intro ks
    induction ks with
    | nil => intro _; simp [depthL]
    | cons x xs ih2 =>
      intro h
      have h1 := h x (by simp)
      have h2 := ih2 (fun y hy => h y (by simp [hy]))
      simp only [depthL, nodesL]
      omega
  have := this d.kids ih
  omega
theorem Doc.nodes_bulk (d : Doc) : d.nodes ≤ d.bulk := by
  refine Doc.ind (P := fun d => d.nodes ≤ d.bulk) (fun d ih => ?_) d
  rw [Doc.nodes_eq, Doc.bulk_eq]
  have : ∀ ks : List Doc, (∀ x ∈ ks, x.nodes ≤ x.bulk) → nodesL ks ≤ bulkL ks := by
    intro ks
    induction ks with
    | nil => intro _; simp [nodesL]
    | cons x xs ih2 =>
      intro h
      have h1 := h x (by simp)
      have h2 := ih2 (fun y hy => h y (by simp [hy]))
      simp only [bulkL, nodesL]
      omega
  have := this d.kids ih
  omega
theorem bulkL_bulk {d : Doc} : bulkL d.kids < d.bulk := by rw [Doc.bulk_eq]; omega
theorem Doc.kid_bulk {d x : Doc} (h : x ∈ d.kids) : x.bulk < d.bulk := Nat.lt_of_le_of_lt (bulkL_mem h) bulkL_bulk
theorem Doc.kids_len (d : Doc) : d.kids.length < d.bulk := by
  have h1 := nodesL_len d.kids
  have h2 := d.nodes_bulk
  rw [Doc.nodes_eq] at h2
  omega

/-! ### In memory -/
/-- The six cells of a document, its kids' slice being kv. -/
structure Six (W : World) (g off : Nat) (d : Doc) (kv : Value) : Prop where
  kind : W.cell? ⟨g, off, none⟩ = some (.int .i64 d.kind)
  text : W.cell? ⟨g, off + 1, none⟩ = some (.string d.text)
  kids : W.cell? ⟨g, off + 2, none⟩ = some kv
  brk : W.cell? ⟨g, off + 3, none⟩ = some (.bool d.brk)
  id : W.cell? ⟨g, off + 4, none⟩ = some (.int .i64 d.id)
  width : W.cell? ⟨g, off + 5, none⟩ = some (.int .i64 d.width)
mutual
/-- kv is the slice of this document's kids, all its blocks from lo on, below hi. -/
def KV (W : World) (lo hi : Nat) : Doc → Value → Prop
  | .mk _ _ ks _ _ _, kv => ∃ a cap, kv = .slice a ks.length cap ∧ ks.length ≤ cap ∧ (0 < ks.length → ∃ g off, a = some ⟨g, off, none⟩ ∧ lo ≤ g ∧ g < hi ∧ EV W lo hi g ks off)
/-- At this place lie these documents, one behind the other. -/
def EV (W : World) (lo hi g : Nat) : List Doc → Nat → Prop
  | [], _ => True
  | d :: ds, off => (∃ kv, Six W g off d kv ∧ KV W lo hi d kv) ∧ EV W lo hi g ds (off + 6)
end
theorem KV_iff {W : World} {lo hi : Nat} {d : Doc} {kv : Value} : KV W lo hi d kv ↔ ∃ a cap, kv = .slice a d.kids.length cap ∧ d.kids.length ≤ cap ∧ (0 < d.kids.length → ∃ g off, a = some ⟨g, off, none⟩ ∧ lo ≤ g ∧ g < hi ∧ EV W lo hi g d.kids off) := by
  cases d
  rw [KV]
  rfl
theorem EV_iff {W : World} {lo hi g : Nat} : ∀ {ks : List Doc} {off : Nat}, EV W lo hi g ks off ↔ ∀ j, (h : j < ks.length) → ∃ kv, Six W g (off + j * 6) ks[j] kv ∧ KV W lo hi ks[j] kv
  | [], off => by simp [EV]
  | d :: ds, off => by
    rw [EV, EV_iff]
    constructor
    · rintro ⟨h0, h1⟩ j hj
      cases j with
      | zero => rw [Nat.zero_mul, Nat.add_zero]; exact h0
      | succ j =>
        have := h1 j (by simpa using hj)
        rw [show off + 6 + j * 6 = off + (j + 1) * 6 by omega] at this
        simpa using this
    · intro h
      refine ⟨by have := h 0 (by simp); rw [Nat.zero_mul, Nat.add_zero] at this; exact this, fun j hj => ?_⟩
      have := h (j + 1) (by simpa using hj)
      rw [show off + (j + 1) * 6 = off + 6 + j * 6 by omega] at this
      simpa using this
theorem Six.of {W W' : World} {g off : Nat} {d : Doc} {kv : Value} (h : Six W g off d kv) (hg : W'.heap[g]? = W.heap[g]?) : Six W' g off d kv := by
  have hc : ∀ o, W'.cell? ⟨g, o, none⟩ = W.cell? ⟨g, o, none⟩ := fun o => by simp only [World.cell?, hg]
  exact ⟨(hc _).trans h.kind, (hc _).trans h.text, (hc _).trans h.kids, (hc _).trans h.brk, (hc _).trans h.id, (hc _).trans h.width⟩
/-- WHAT LIES STAYS, where its blocks do. -/
theorem KV.of {W W' : World} {lo hi lo' hi' : Nat} (hlo : lo' ≤ lo) (hhi : hi ≤ hi') (hs : ∀ b, lo ≤ b → b < hi → W'.heap[b]? = W.heap[b]?) : ∀ {d : Doc} {kv : Value}, KV W lo hi d kv → KV W' lo' hi' d kv := by
  intro d kv
  revert kv
  refine Doc.ind (P := fun d => ∀ {kv}, KV W lo hi d kv → KV W' lo' hi' d kv) (fun d ih => ?_) d
  intro kv h
  rw [KV_iff] at h ⊢
  obtain ⟨a, cap, rfl, hcap, h⟩ := h
  refine ⟨a, cap, rfl, hcap, fun h0 => ?_⟩
  obtain ⟨g, off, rfl, h1, h2, h3⟩ := h h0
  refine ⟨g, off, rfl, by omega, by omega, ?_⟩
  rw [EV_iff] at h3 ⊢
  intro j hj
  obtain ⟨kv, h4, h5⟩ := h3 j hj
  exact ⟨kv, h4.of (hs g h1 h2), ih _ (List.getElem_mem hj) h5⟩
theorem KV.below {W W' : World} {lo hi : Nat} {d : Doc} {kv : Value} (h : KV W lo hi d kv) (hb : Below W.heap.size W W') (hh : hi ≤ W.heap.size) : KV W' lo hi d kv :=
  h.of (Nat.le_refl _) (Nat.le_refl _) fun b _ h2 => hb.block b (by omega)
theorem KV.wide {W : World} {lo hi lo' hi' : Nat} {d : Doc} {kv : Value} (h : KV W lo hi d kv) (hlo : lo' ≤ lo) (hhi : hi ≤ hi') : KV W lo' hi' d kv :=
  h.of hlo hhi fun _ _ _ => rfl
theorem EV.of {W W' : World} {lo hi lo' hi' g off : Nat} {ks : List Doc} (h : EV W lo hi g ks off) (hlo : lo' ≤ lo) (hhi : hi ≤ hi') (h1 : lo ≤ g) (h2 : g < hi) (hs : ∀ b, lo ≤ b → b < hi → W'.heap[b]? = W.heap[b]?) : EV W' lo' hi' g ks off := by
  rw [EV_iff] at h ⊢
  intro j hj
  obtain ⟨kv, h4, h5⟩ := h j hj
  exact ⟨kv, h4.of (hs g h1 h2), h5.of hlo hhi hs⟩

/-- A document by value. -/
def docV (d : Doc) (kv : Value) : Value := .agg #[.int .i64 d.kind, .string d.text, kv, .bool d.brk, .int .i64 d.id, .int .i64 d.width]
def docCells (d : Doc) (kv : Value) : List Value := [.int .i64 d.kind, .string d.text, kv, .bool d.brk, .int .i64 d.id, .int .i64 d.width]
/-- What the kids' slice of a document gives at a kid. -/
theorem KV.slice {W : World} {lo hi : Nat} {d : Doc} {kv : Value} (h : KV W lo hi d kv) : ∃ a cap, kv = .slice a d.kids.length cap := by
  rw [KV_iff] at h
  obtain ⟨a, cap, rfl, _⟩ := h
  exact ⟨a, cap, rfl⟩
theorem KV.cap {W : World} {lo hi : Nat} {d : Doc} {a : Option Addr} {n cap : Nat} (h : KV W lo hi d (.slice a n cap)) : n ≤ cap := by
  rw [KV_iff] at h
  obtain ⟨a', cap', e, hc, _⟩ := h
  cases e
  exact hc
theorem KV.kid {W : World} {lo hi : Nat} {d : Doc} {a : Option Addr} {n cap : Nat} (h : KV W lo hi d (.slice a n cap)) {j : Nat} (hj : j < d.kids.length) :
    ∃ g off, a = some ⟨g, off, none⟩ ∧ lo ≤ g ∧ g < hi ∧ ∃ kv, Six W g (off + j * 6) d.kids[j] kv ∧ KV W lo hi d.kids[j] kv := by
  rw [KV_iff] at h
  obtain ⟨a', cap', e, _, h⟩ := h
  cases e
  obtain ⟨g, off, rfl, h1, h2, h3⟩ := h (by omega)
  exact ⟨g, off, rfl, h1, h2, (EV_iff.1 h3) j hj⟩
end Go.Proofs.YtaojlnibkajfbaaDoor
