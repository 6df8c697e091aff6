/- Rows that a call owns: an append of a block of the call's own onto them, in one lemma; what stays. -/
import Derived.Test.YtnbadnmmolagfaaDoorKit
import Derived.Laws.AppendOwnNone
namespace Go.Proofs.YtnbadnmmolagfaaDoor
open Go.RowKit

/-- An element type's row of the table, in one word. -/
def ElemOf (P : Program) (t e : TypeId) (size bytes : Nat) : Prop :=
  ∃ (i : TypeInfo) (z : Value), P.underlying t = some (.slice e) ∧ P.info? e = some i ∧ i.zero = some z ∧ i.size = size ∧ i.bytes = bytes ∧ z.cells.size = size ∧ 0 < size
theorem ElemOf.mk' {P : Program} {t e : TypeId} {size bytes : Nat} (z : Value) (ht : P.underlying t = some (.slice e)) (hi : (P.info? e).map (fun i => (i.zero, i.size, i.bytes)) = some (some z, size, bytes)) (hz : z.cells.size = size) (h0 : 0 < size) : ElemOf P t e size bytes := by
  cases h : P.info? e with
  | none => rw [h] at hi; cases hi
  | some i =>
    rw [h] at hi
    simp only [Option.map_some, Option.some.injEq, Prod.mk.injEq] at hi
    exact ⟨i, z, ht, h, hi.1, hi.2.1, hi.2.2, hz, h0⟩

/-- A block of the call's own, whole. -/
def Blk (W : World) (g : Nat) (cs : List Value) (e : TypeId) : Prop := W.heap[g]? = some (.cells cs.toArray e (0, 0))
theorem Blk.new (W : World) (cs : List Value) (e : TypeId) : Blk (W.alloc (.cells cs.toArray e)) W.heap.size cs e := Array.getElem?_push_size
theorem Blk.new' {W : World} {g : Nat} (cs : List Value) (e : TypeId) (hg : g = W.heap.size) : Blk (W.alloc (.cells cs.toArray e)) g cs e := by rw [hg]; exact Blk.new W cs e
theorem Blk.lt {W : World} {g : Nat} {cs : List Value} {e : TypeId} (h : Blk W g cs e) : g < W.heap.size := (Array.getElem?_eq_some_iff.1 h).1
theorem Blk.below {W W' : World} {g : Nat} {cs : List Value} {e : TypeId} (h : Blk W g cs e) (hb : Below W.heap.size W W') : Blk W' g cs e := (hb.block g h.lt).trans h
theorem Blk.alloc {W : World} {g : Nat} {cs : List Value} {e : TypeId} (h : Blk W g cs e) (o : Obj) : Blk (W.alloc o) g cs e := (Below.heap_alloc W o g h.lt).trans h
theorem Blk.drew {W : World} {g : Nat} {cs : List Value} {e : TypeId} (h : Blk W g cs e) (n : Nat) : Blk (W.drewN n) g cs e := h
theorem Blk.grown {W W' : World} {g : Nat} {cs : List Value} {e : TypeId} {row : Option Nat} (h : Blk W g cs e) (hg : W.grownBy W' row) (hne : some g ≠ row) : Blk W' g cs e := (hg.block g h.lt hne).trans h
theorem Blk.cell {W : World} {g : Nat} {cs : List Value} {e : TypeId} (h : Blk W g cs e) (j : Nat) : W.cell? ⟨g, j, none⟩ = cs[j]? := by
  unfold Blk at h
  simp [World.cell?, h]
theorem Blk.frozen {W : World} {g : Nat} {cs : List Value} {e : TypeId} (h : Blk W g cs e) (j : Nat) : W.frozen? ⟨g, j, none⟩ = false := by
  unfold Blk at h
  simp [World.frozen?, h]
theorem Blk.set {W : World} {g : Nat} {cs : List Value} {e : TypeId} (h : Blk W g cs e) (j : Nat) (v : Value) : Blk (W.setCell ⟨g, j, none⟩ v) g (cs.set j v) e := by
  have := heap_setCell_same W g j cs.toArray e v h
  unfold Blk
  rw [this]
  simp
theorem Blk.set_other {W : World} {g : Nat} {cs : List Value} {e : TypeId} (h : Blk W g cs e) {a : Addr} (ha : g ≠ a.block) (v : Value) : Blk (W.setCell a v) g cs e := (Below.heap_setCell W a v g ha).trans h

theorem own_below {w w' : World} {base e size n : Nat} {v : Value} {xs : List Value} (h : w.ownsRow base e size v n xs) (hb : Below w.heap.size w w') : w'.ownsRow base e size v n xs := by
  refine ⟨h.1, ?_⟩
  rcases h.2 with h2 | ⟨g, cap, cur, h1, h2, h3, h4⟩
  · exact .inl h2
  · exact .inr ⟨g, cap, cur, h1, h2, (hb.block g (Array.getElem?_eq_some_iff.1 h3).1).trans h3, h4⟩
theorem own_low {w : World} {base base' e size n : Nat} {v : Value} {xs : List Value} (h : w.ownsRow base e size v n xs) (hb : base' ≤ base) : w.ownsRow base' e size v n xs := by
  refine ⟨h.1, ?_⟩
  rcases h.2 with h2 | ⟨g, cap, cur, h1, h2, h3⟩
  · exact .inl h2
  · exact .inr ⟨g, cap, cur, h1, by omega, h3⟩

/-- AN APPEND OF A BLOCK OF THE CALL's OWN ONTO A ROW OF THE CALL's OWN. The row was owned in an earlier world wr. -/
theorem wpList_append_blk {P : Program} {W : World} {ops : Array Oper} {rest : List Oper} {o : Oper} {a : Act} {Q : Exit → Act → World → Prop} (hgd : o.guard = none) (s x : Operand) (t e : TypeId) (size bytes : Nat)
    (ho : o.op = .call { callee := .builtin .append, args := #[s, x], argTypes := #[t, t] }) (hE : ElemOf P t e size bytes)
    (w wr : World) (B : Nat) (hbw : Below B w wr) (hBr : B ≤ wr.heap.size) (hbr : Below wr.heap.size wr W)
    (v : Value) (n : Nat) (xs : List Value) (hs : a.eval s = v) (hown : wr.ownsRow B e size v n xs)
    (g m : Nat) (cs : List Value) (hx : a.eval x = .slice (some ⟨g, 0, none⟩) m m) (hblk : Blk W g cs e) (hl : cs.length = m * size) (h1 : ∀ u ∈ cs, u.oneCell' = true)
    (h63 : n + m ≤ maxLen) (hbytes : (n + m) * bytes ≤ 140737488355328)
    (h : ∀ v' W', W'.ownsRow B e size v' (n + m) (xs ++ cs) → Below B w W' → W.grownBy W' v.ownBlock → (∀ k, v.ownBlock = some k → B ≤ k ∧ k < wr.heap.size) → wpList P ops Q rest (a.put o.dst v') W') : wpList P ops Q (o :: rest) a W := by
  obtain ⟨i, z, ht, hi, hz, hsize, hby, hzs, h0⟩ := hE
  have hsz := hbr.size
  refine wpList_append_own W hgd s x t ho B e i z size bytes ht hi hz hsize hby hzs h0 v n xs hs (own_below hown hbr) ⟨g, 0, none⟩ m m cs hx hl ?_ h1 h63 hbytes (by omega) ?_
  · intro j u hu
    have e2 : (⟨g, 0, none⟩ : Addr).add j = ⟨g, j, none⟩ := by unfold Addr.add; split <;> simp_all
    rw [e2, hblk.cell]
    exact hu
  · intro v' W' ho' hg' _
    have hlt := hown.lt
    exact h v' W' ho' ((hbw.trans (hbr.mono hBr)).grown hg' (by omega) (fun k hk => (hlt k hk).1)) hg' hlt
end Go.Proofs.YtnbadnmmolagfaaDoor
