/- A row of documents of one's own, that grows: each kid's blocks lie in a range of their own. What is asked of each list beside its documents (X) is a parameter. -/
import Derived.Test.YtaojlnibkajfbaaDoorDocAwake
import Derived.Test.YtaojlnibkajfbaaDoorDocKinds
import Derived.Deep.AppendLies
namespace Go.Proofs.YtaojlnibkajfbaaDoor
open Go.RowKit
set_option maxRecDepth 100000
set_option linter.unusedVariables false

/-! ### Documents in memory, each list of kids with a property of its own -/
abbrev SlX := World → Nat → Nat → Nat → Nat → Prop
def SlX.Stab (X : SlX) : Prop := ∀ W W' g off n cap, X W g off n cap → W'.heap[g]? = W.heap[g]? → X W' g off n cap
mutual
/-- As KV, and X of each list (of the empty one too, where Z). -/
def KG (Z : Bool) (X : SlX) (W : World) (lo hi : Nat) : Doc → Value → Prop
  | .mk _ _ ks _ _ _, kv => ∃ a cap, kv = .slice a ks.length cap ∧ ks.length ≤ cap ∧ (Z = true ∨ 0 < ks.length → ∃ g off, a = some ⟨g, off, none⟩ ∧ lo ≤ g ∧ g < hi ∧ X W g off ks.length cap ∧ EG Z X W lo hi g ks off)
def EG (Z : Bool) (X : SlX) (W : World) (lo hi g : Nat) : List Doc → Nat → Prop
  | [], _ => True
  | d :: ds, off => (∃ kv, Six W g off d kv ∧ KG Z X W lo hi d kv) ∧ EG Z X W lo hi g ds (off + 6)
end
theorem KG_iff {Z : Bool} {X : SlX} {W : World} {lo hi : Nat} {d : Doc} {kv : Value} : KG Z X W lo hi d kv ↔ ∃ a cap, kv = .slice a d.kids.length cap ∧ d.kids.length ≤ cap ∧ (Z = true ∨ 0 < d.kids.length → ∃ g off, a = some ⟨g, off, none⟩ ∧ lo ≤ g ∧ g < hi ∧ X W g off d.kids.length cap ∧ EG Z X W lo hi g d.kids off) := by
  cases d
  rw [KG]
  rfl
theorem EG_iff {Z : Bool} {X : SlX} {W : World} {lo hi g : Nat} : ∀ {ks : List Doc} {off : Nat}, EG Z X W lo hi g ks off ↔ ∀ j, (h : j < ks.length) → ∃ kv, Six W g (off + j * 6) ks[j] kv ∧ KG Z X W lo hi ks[j] kv
  | [], off => by simp [EG]
  | d :: ds, off => by
    rw [EG, EG_iff]
    constructor
    · rintro ⟨h0, h1⟩ j hj
      cases j with
      | zero => rw [Nat.zero_mul, Nat.add_zero]; exact h0
      | succ j =>
        have := h1 j (by simpa using hj)
        rw [show off + 6 + j * 6 = off + (j + 1) * 6 by omega] at this
        simpa using this
    · intro h
      refine ⟨by have := h 0 (by simp); rw [Nat.zero_mul, Nat.add_zero] at this; exact this, fun j hj => ?_⟩
      have := h (j + 1) (by simpa using hj)
      rw [show off + (j + 1) * 6 = off + 6 + j * 6 by omega] at this
      simpa using this
theorem KG.of {Z : Bool} {X : SlX} (hX : X.Stab) {W W' : World} {lo hi lo' hi' : Nat} (hlo : lo' ≤ lo) (hhi : hi ≤ hi') (hs : ∀ b, lo ≤ b → b < hi → W'.heap[b]? = W.heap[b]?) : ∀ {d : Doc} {kv : Value}, KG Z X W lo hi d kv → KG Z X W' lo' hi' d kv := by
  intro d kv
  revert kv
  refine Doc.ind (P := fun d => ∀ {kv}, KG Z X W lo hi d kv → KG Z X W' lo' hi' d kv) (fun d ih => ?_) d
  intro kv h
  rw [KG_iff] at h ⊢
  obtain ⟨a, cap, rfl, hcap, h⟩ := h
  refine ⟨a, cap, rfl, hcap, fun h0 => ?_⟩
  obtain ⟨g, off, rfl, h1, h2, hx, h3⟩ := h h0
  refine ⟨g, off, rfl, by omega, by omega, hX _ _ _ _ _ _ hx (hs g h1 h2), ?_⟩
  rw [EG_iff] at h3 ⊢
  intro j hj
  obtain ⟨kv, h4, h5⟩ := h3 j hj
  exact ⟨kv, h4.of (hs g h1 h2), ih _ (List.getElem_mem hj) h5⟩
theorem KG.below {Z : Bool} {X : SlX} (hX : X.Stab) {W W' : World} {lo hi : Nat} {d : Doc} {kv : Value} (h : KG Z X W lo hi d kv) (hb : Below W.heap.size W W') (hh : hi ≤ W.heap.size) : KG Z X W' lo hi d kv :=
  KG.of hX (Nat.le_refl _) (Nat.le_refl _) (fun b _ h2 => hb.block b (by omega)) h
theorem KG.wide {Z : Bool} {X : SlX} (hX : X.Stab) {W : World} {lo hi lo' hi' : Nat} {d : Doc} {kv : Value} (h : KG Z X W lo hi d kv) (hlo : lo' ≤ lo) (hhi : hi ≤ hi') : KG Z X W lo' hi' d kv :=
  KG.of hX hlo hhi (fun _ _ _ => rfl) h
theorem KG.kv {Z : Bool} {X : SlX} {W : World} {lo hi : Nat} : ∀ {d : Doc} {kv : Value}, KG Z X W lo hi d kv → KV W lo hi d kv := by
  intro d kv
  revert kv
  refine Doc.ind (P := fun d => ∀ {kv}, KG Z X W lo hi d kv → KV W lo hi d kv) (fun d ih => ?_) d
  intro kv h
  rw [KG_iff] at h
  rw [KV_iff]
  obtain ⟨a, cap, rfl, hcap, h⟩ := h
  refine ⟨a, cap, rfl, hcap, fun h0 => ?_⟩
  obtain ⟨g, off, rfl, h1, h2, hx, h3⟩ := h (.inr h0)
  refine ⟨g, off, rfl, by omega, by omega, ?_⟩
  rw [EG_iff] at h3
  rw [EV_iff]
  intro j hj
  obtain ⟨kv, h4, h5⟩ := h3 j hj
  exact ⟨kv, h4, ih _ (List.getElem_mem hj) h5⟩
theorem kg_nil {X : SlX} {W : World} {lo hi : Nat} {D : Doc} (hD : D.kids = []) : KG false X W lo hi D (.slice none 0 0) := by
  rw [KG_iff, hD]
  exact ⟨none, 0, rfl, by simp, fun h => by simp at h⟩
/-- What may be written: no cell is frozen. -/
def thawX : SlX := fun W g _ _ _ => ∀ q, W.frozen? ⟨g, q, none⟩ = false
theorem thawX_stab : thawX.Stab := fun W W' g off n cap h e q => (World.frozen?_of_block (w := W) e).trans (h q)
def KW := KG false thawX

/-! ### A whole document stored -/
theorem set6_heap (W : World) (g b : Nat) (v0 v1 v2 v3 v4 v5 : Value) (h : b ≠ g) : ((((((W.setCell ⟨g, 0, none⟩ v0).setCell ⟨g, 1, none⟩ v1).setCell ⟨g, 2, none⟩ v2).setCell ⟨g, 3, none⟩ v3).setCell ⟨g, 4, none⟩ v4).setCell ⟨g, 5, none⟩ v5).heap[b]? = W.heap[b]? :=
  ((((((Below.heap_setCell _ _ _ b h).trans (Below.heap_setCell _ _ _ b h)).trans (Below.heap_setCell _ _ _ b h)).trans (Below.heap_setCell _ _ _ b h)).trans (Below.heap_setCell _ _ _ b h)).trans (Below.heap_setCell _ _ _ b h))
theorem set6_below {n : Nat} {w W : World} (h : Below n w W) (g : Nat) (v0 v1 v2 v3 v4 v5 : Value) (hn : n ≤ g) : Below n w ((((((W.setCell ⟨g, 0, none⟩ v0).setCell ⟨g, 1, none⟩ v1).setCell ⟨g, 2, none⟩ v2).setCell ⟨g, 3, none⟩ v3).setCell ⟨g, 4, none⟩ v4).setCell ⟨g, 5, none⟩ v5) :=
  ((((((h.setCell (p := ⟨g, 0, none⟩) hn _).setCell (p := ⟨g, 1, none⟩) hn _).setCell (p := ⟨g, 2, none⟩) hn _).setCell (p := ⟨g, 3, none⟩) hn _).setCell (p := ⟨g, 4, none⟩) hn _).setCell (p := ⟨g, 5, none⟩) hn _)
theorem set6_blk {W : World} {g : Nat} {cs : List Value} {e : TypeId} (h : Blk W g cs e) (hl : cs.length = 6) (d : Doc) (kv : Value) : Blk ((((((W.setCell ⟨g, 0, none⟩ (.int .i64 d.kind)).setCell ⟨g, 1, none⟩ (.string d.text)).setCell ⟨g, 2, none⟩ kv).setCell ⟨g, 3, none⟩ (.bool d.brk)).setCell ⟨g, 4, none⟩ (.int .i64 d.id)).setCell ⟨g, 5, none⟩ (.int .i64 d.width)) g (docCells d kv) e := by
  have := (((((h.set 0 (.int .i64 d.kind)).set 1 (.string d.text)).set 2 kv).set 3 (.bool d.brk)).set 4 (.int .i64 d.id)).set 5 (.int .i64 d.width)
  match cs, hl with
  | [c0, c1, c2, c3, c4, c5], _ => exact this

/-! ### The row -/
structure RowD (Z : Bool) (X : SlX) (W : World) (B : Nat) (l : List (Doc × Value)) (v : Value) : Prop where
  own : W.ownsRow B 24 6 v l.length (docsCells l)
  kids : ∀ p ∈ l, ∃ lo hi, B ≤ lo ∧ hi ≤ W.heap.size ∧ KG Z X W lo hi p.1 p.2 ∧ ∀ g, v.ownBlock = some g → g < lo ∨ hi ≤ g
section
variable {Z : Bool} {X : SlX}
theorem RowD.nil (W : World) (B : Nat) : RowD Z X W B [] (.slice none 0 0) := ⟨World.ownsRow_nil _ _ _ _, by simp⟩
theorem RowD.below (hX : X.Stab) {W W' : World} {B : Nat} {l : List (Doc × Value)} {v : Value} (h : RowD Z X W B l v) (hb : Below W.heap.size W W') : RowD Z X W' B l v :=
  ⟨own_below h.own hb, fun p hp => by
    obtain ⟨lo, hi, h1, h2, h3, h4⟩ := h.kids p hp
    exact ⟨lo, hi, h1, Nat.le_trans h2 hb.size, h3.below hX hb h2, h4⟩⟩
theorem RowD.set (hX : X.Stab) {W : World} {B : Nat} {l : List (Doc × Value)} {v : Value} (h : RowD Z X W B l v) {a : Addr} (ha : a.block < B) (u : Value) : RowD Z X (W.setCell a u) B l v := by
  refine ⟨?_, fun p hp => ?_⟩
  · exact ownsRow_setCell_other h.own (fun e => by have := (h.own.lt _ e).1; omega) u
  · obtain ⟨lo, hi, h1, h2, h3, h4⟩ := h.kids p hp
    exact ⟨lo, hi, h1, by simpa using h2, KG.of hX (Nat.le_refl _) (Nat.le_refl _) (fun b hb _ => Below.heap_setCell W a u b (by omega)) h3, h4⟩
theorem docsCells_push (l : List (Doc × Value)) (p : Doc × Value) : docsCells (l ++ [p]) = docsCells l ++ docCells p.1 p.2 := by simp [docsCells]
/-- The row grows: its kids stay. -/
theorem RowD.grow (hX : X.Stab) {W W1 W' : World} {B : Nat} {l : List (Doc × Value)} {v v' : Value} {gg : Nat} (h : RowD Z X W B l v) (hb : Below W.heap.size W W1) (o : Obj)
    (hg : (W1.alloc o).grownBy W' v.ownBlock) (hgg : v'.ownBlock = some gg) (hat : v.ownBlock = some gg ∨ gg = W1.heap.size + 1) : ∀ p ∈ l, ∃ lo hi, B ≤ lo ∧ hi ≤ W'.heap.size ∧ KG Z X W' lo hi p.1 p.2 ∧ ∀ g, v'.ownBlock = some g → g < lo ∨ hi ≤ g := by
  intro p hp
  have hsz := hb.size
  have hsz2 := hg.size
  simp at hsz2
  have hkeep : ∀ b, b < W1.heap.size → v.ownBlock ≠ some b → W'.heap[b]? = W1.heap[b]? := fun b hb1 hne => (hg.block b (by simp; omega) (Ne.symm hne)).trans (Below.heap_alloc W1 o b hb1)
  have hnew : ∀ g, v'.ownBlock = some g → g = gg := fun g e => by rw [hgg] at e; cases e; rfl
  obtain ⟨lo1, hi1, h1, h2, h3, h4⟩ := h.kids p hp
  refine ⟨lo1, hi1, h1, by omega, KG.of hX (Nat.le_refl _) (Nat.le_refl _) (fun b hb1 hb2 => hkeep b (by omega) (fun e => by have := h4 b e; omega)) (h3.below hX hb h2), fun g e => ?_⟩
  have := hnew g e
  subst this
  rcases hat with e2 | e2
  · exact h4 g e2
  · right; omega
/-- A kid more: it lies at W1 in blocks from lo on, below hi; the row was at W. -/
theorem RowD.push (hX : X.Stab) {W W1 W' : World} {B : Nat} {l : List (Doc × Value)} {v v' : Value} {K : Doc} {kv : Value} {gg lo hi : Nat} (h : RowD Z X W B l v) (hb : Below W.heap.size W W1) (hBW : B ≤ W.heap.size) (hlo : W.heap.size ≤ lo) (hhi : hi ≤ W1.heap.size) (hk : KG Z X W1 lo hi K kv) (o : Obj)
    (hown : W'.ownsRow B 24 6 v' (l.length + 1) (docsCells l ++ docCells K kv)) (hg : (W1.alloc o).grownBy W' v.ownBlock) (hgg : v'.ownBlock = some gg) (hat : v.ownBlock = some gg ∨ gg = W1.heap.size + 1) : RowD Z X W' B (l ++ [(K, kv)]) v' := by
  have hvo : ∀ x, v.ownBlock = some x → B ≤ x ∧ x < W.heap.size := fun x hx => h.own.lt x hx
  have hsz := hb.size
  have hsz2 := hg.size
  simp at hsz2
  have hkeep : ∀ b, b < W1.heap.size → v.ownBlock ≠ some b → W'.heap[b]? = W1.heap[b]? := fun b hb1 hne => (hg.block b (by simp; omega) (Ne.symm hne)).trans (Below.heap_alloc W1 o b hb1)
  have hnew : ∀ g, v'.ownBlock = some g → g = gg := fun g e => by rw [hgg] at e; cases e; rfl
  refine ⟨by rw [docsCells_push, List.length_append]; exact hown, fun p hp => ?_⟩
  rcases List.mem_append.1 hp with hp | hp
  · exact h.grow hX hb o hg hgg hat p hp
  · simp only [List.mem_cons, List.not_mem_nil, or_false] at hp
    subst hp
    refine ⟨lo, hi, by omega, by omega, KG.of hX (Nat.le_refl _) (Nat.le_refl _) (fun b hb1 hb2 => hkeep b (by omega) (fun e => by have := (hvo b e).2; omega)) hk, fun g e => ?_⟩
    have := hnew g e
    subst this
    rcases hat with e2 | e2
    · left; have := (hvo g e2).2; omega
    · right; omega
theorem RowD.slice {W : World} {B : Nat} {l : List (Doc × Value)} {v : Value} (h : RowD Z X W B l v) : ∃ A c, v = .slice A l.length c := by
  rcases own_cut0 h.own with ⟨rfl, h0⟩ | ⟨g, cap, rfl, _⟩
  · exact ⟨none, 0, by rw [h0]⟩
  · exact ⟨_, _, rfl⟩
end
/-- The kids of such a row: a document's, which may be written. -/
theorem RowD.kw {W : World} {B : Nat} {D : Doc} {l : List (Doc × Value)} {v : Value} (h : RowD false thawX W B l v) (hD : D.kids = l.map Prod.fst) : KW W B W.heap.size D v := by
  rcases own_cut0 h.own with ⟨rfl, h0⟩ | ⟨g, cap, rfl, hcap, hgB, hg⟩
  · exact kg_nil (by rw [hD, List.length_eq_zero_iff.1 h0]; rfl)
  · unfold KW
    rw [KG_iff]
    refine ⟨_, _, by rw [hD, List.length_map], by rw [hD, List.length_map]; exact hcap, fun _ => ⟨g, 0, rfl, hgB, hg, fun q => h.own.frozenAt q, EG_iff.2 fun j hj => ?_⟩⟩
    have hjl : j < l.length := by rw [hD, List.length_map] at hj; exact hj
    have e : D.kids[j] = (l[j]).1 := by simp [hD]
    have hcell : ∀ c, c < 6 → W.cell? ⟨g, 0 + j * 6 + c, none⟩ = (docCells (l[j]).1 (l[j]).2)[c]? := fun c h6 => by
      rw [Nat.zero_add, h.own.cellAt (j * 6 + c) (by omega), docsCells_at l j c hjl h6]
    rw [e]
    obtain ⟨lo, hi, h1, h2, h3, _⟩ := h.kids _ (List.getElem_mem hjl)
    exact ⟨(l[j]).2, ⟨hcell 0 (by omega), hcell 1 (by omega), hcell 2 (by omega), hcell 3 (by omega), hcell 4 (by omega), hcell 5 (by omega)⟩, h3.wide thawX_stab h1 h2⟩
end Go.Proofs.YtaojlnibkajfbaaDoor
