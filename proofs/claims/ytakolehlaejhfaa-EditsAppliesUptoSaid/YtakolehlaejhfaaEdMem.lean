/- Rows of texts and of edits in memory: what a slice reads as. -/
import Derived.Test.YtakolehlaejhfaaKit
import Derived.Test.YtakolehlaejhfaaOwn
import Derived.Test.YtakolehlaejhfaaEdPlain
namespace Go.Proofs.Ytakolehlaejhfaa
open Go.RowKit

theorem cell_alloc (w : World) (o : Obj) (a : Addr) (h : a.block < w.heap.size) : (w.alloc o).cell? a = w.cell? a := World.cell?_of_block (Below.heap_alloc w o _ h)
theorem frozen_alloc (w : World) (o : Obj) (a : Addr) (h : a.block < w.heap.size) : (w.alloc o).frozen? a = w.frozen? a := World.frozen?_of_block (Below.heap_alloc w o _ h)
theorem str_ne {x y : Ln} (h : x ≠ y) : ((strOf x).toList == (strOf y).toList) = false := by
  rw [ByteArray.toList_eq, ByteArray.toList_eq]
  simpa [strOf] using h
def strVal (l : Ln) : Value := .string (strOf l)
theorem strVals_one (ls : List Ln) : ∀ u ∈ ls.map strVal, u.oneCell' = true := by
  intro u hu
  obtain ⟨l, _, rfl⟩ := List.mem_map.1 hu
  rfl
/-- At the address A lie these texts, in a block from lo on, below hi. -/
def TxtAt (w : World) (lo hi : Nat) (A : Option Addr) (ls : List Ln) : Prop :=
  ls ≠ [] → ∃ b off, A = some ⟨b, off, none⟩ ∧ lo ≤ b ∧ b < hi ∧ ∀ j, (hj : j < ls.length) → w.cell? ⟨b, off + j, none⟩ = some (.string (strOf ls[j]))
theorem TxtAt.nil (w : World) (lo hi : Nat) (A : Option Addr) : TxtAt w lo hi A [] := fun h => absurd rfl h
theorem TxtAt.below {w w' : World} {lo hi n : Nat} {A : Option Addr} {ls : List Ln} (h : TxtAt w lo hi A ls) (hb : Below n w w') (hn : hi ≤ n) : TxtAt w' lo hi A ls := fun hne => by
  obtain ⟨b, off, e, h1, h2, h3⟩ := h hne
  exact ⟨b, off, e, h1, h2, fun j hj => (hb.cell (p := ⟨b, off + j, none⟩) (Nat.lt_of_lt_of_le h2 hn)).trans (h3 j hj)⟩
theorem TxtAt.of {w w' : World} {lo hi : Nat} {A : Option Addr} {ls : List Ln} (h : TxtAt w lo hi A ls) (hb : ∀ b, lo ≤ b → b < hi → w'.heap[b]? = w.heap[b]?) : TxtAt w' lo hi A ls := fun hne => by
  obtain ⟨b, off, e, h1, h2, h3⟩ := h hne
  exact ⟨b, off, e, h1, h2, fun j hj => (World.cell?_of_block (w := w) (hb b h1 h2)).trans (h3 j hj)⟩
theorem TxtAt.wide {w : World} {lo hi lo' hi' : Nat} {A : Option Addr} {ls : List Ln} (h : TxtAt w lo hi A ls) (hl : lo' ≤ lo) (hh : hi ≤ hi') : TxtAt w lo' hi' A ls := fun hne => by
  obtain ⟨b, off, e, h1, h2, h3⟩ := h hne
  exact ⟨b, off, e, by omega, by omega, h3⟩
theorem TxtAt.at_ {w : World} {lo hi : Nat} {A : Option Addr} {ls : List Ln} (h : TxtAt w lo hi A ls) {k : Nat} (hk : k < ls.length) : ∃ b off, A = some ⟨b, off, none⟩ ∧ lo ≤ b ∧ b < hi ∧ w.cell? ⟨b, off + k, none⟩ = some (.string (strOf ls[k])) := by
  obtain ⟨b, off, e, h1, h2, h3⟩ := h (by intro e; subst e; simp at hk)
  exact ⟨b, off, e, h1, h2, h3 k hk⟩
/-- Cut from k on: the address as the model gives it. -/
theorem TxtAt.cut {w : World} {lo hi : Nat} {A : Option Addr} {ls : List Ln} (h : TxtAt w lo hi A ls) {k m : Nat} (c : Nat) (hc : ls.length ≤ c) : TxtAt w lo hi (if c = k then A else A.map (·.add (k * 1))) ((ls.drop k).take m) := by
  intro hne
  have hk : k < ls.length := by
    rcases Nat.lt_or_ge k ls.length with h' | h'
    · exact h'
    · exact absurd (by rw [List.drop_eq_nil_of_le h']; simp) hne
  obtain ⟨b, off, rfl, h1, h2, h3⟩ := h (by intro e; subst e; simp at hk)
  rw [if_neg (by omega)]
  refine ⟨b, off + k, by simp only [Option.map_some, Nat.mul_one]; unfold Addr.add; split <;> simp_all, h1, h2, fun j hj => ?_⟩
  rw [List.length_take, List.length_drop] at hj
  rw [Nat.add_assoc, h3 (k + j) (by omega)]
  simp
theorem own_form {w : World} {base e size n : Nat} {v : Value} {xs : List Value} (h : w.ownsRow base e size v n xs) (hn : 0 < n) : ∃ g cap, v = .slice (some ⟨g, 0, none⟩) n cap ∧ base ≤ g ∧ g < w.heap.size := by
  rcases h.2 with ⟨_, h2⟩ | ⟨g, cap, cur, h1, h2, h3, _⟩
  · omega
  · exact ⟨g, cap, h1, h2, (Array.getElem?_eq_some_iff.1 h3).1⟩
/-- A row of one's own reads as its texts. -/
theorem TxtAt.of_own {w : World} {base e n c : Nat} {A : Option Addr} {ls : List Ln} (h : w.ownsRow base e 1 (.slice A n c) n (ls.map strVal)) : TxtAt w base w.heap.size A ls ∧ n = ls.length ∧ ls.length ≤ c := by
  have hn : n = ls.length := by have := h.1; simp at this; omega
  subst hn
  refine ⟨fun hne => ?_, rfl, ?_⟩
  · obtain ⟨g, cap, hv, hb, hlt⟩ := own_form h (List.length_pos_iff.2 hne)
    injection hv with e1 e2 e3
    subst e1
    refine ⟨g, 0, rfl, hb, hlt, fun j hj => ?_⟩
    have := h.cells (g := g) rfl j (strVal ls[j]) (by simp [hj])
    rw [show (⟨g, 0, none⟩ : Addr).add j = ⟨g, 0 + j, none⟩ by unfold Addr.add; split <;> simp_all] at this
    exact this
  · rcases h.2 with ⟨h1, h2⟩ | ⟨g, cap, cur, h1, _, _, h4, _⟩
    · injection h1 with e1 e2 e3; omega
    · injection h1 with e1 e2 e3; omega

/-- At the address A lie these edits. -/
def EdsAt (w : World) (lo hi : Nat) (A : Option Addr) (es : List Ed) : Prop :=
  es ≠ [] → ∃ b off, A = some ⟨b, off, none⟩ ∧ lo ≤ b ∧ b < hi ∧ ∀ j, (hj : j < es.length) →
    w.cell? ⟨b, off + j * 3, none⟩ = some (.int .i64 es[j].keep) ∧ w.cell? ⟨b, off + j * 3 + 1, none⟩ = some (.int .i64 es[j].drop) ∧
    ∃ PA pc, w.cell? ⟨b, off + j * 3 + 2, none⟩ = some (.slice PA es[j].put.length pc) ∧ es[j].put.length ≤ pc ∧ TxtAt w lo hi PA es[j].put
theorem EdsAt.nil (w : World) (lo hi : Nat) (A : Option Addr) : EdsAt w lo hi A [] := fun h => absurd rfl h
theorem EdsAt.of {w w' : World} {lo hi : Nat} {A : Option Addr} {es : List Ed} (h : EdsAt w lo hi A es) (hb : ∀ b, lo ≤ b → b < hi → w'.heap[b]? = w.heap[b]?) : EdsAt w' lo hi A es := fun hne => by
  obtain ⟨b, off, e, h1, h2, h3⟩ := h hne
  have hc := fun o => World.cell?_of_block (w := w) (w' := w') (a := ⟨b, o, none⟩) (hb b h1 h2)
  refine ⟨b, off, e, h1, h2, fun j hj => ?_⟩
  obtain ⟨c1, c2, PA, pc, c3, c4, c5⟩ := h3 j hj
  exact ⟨(hc _).trans c1, (hc _).trans c2, PA, pc, (hc _).trans c3, c4, c5.of hb⟩
theorem EdsAt.below {w w' : World} {lo hi n : Nat} {A : Option Addr} {es : List Ed} (h : EdsAt w lo hi A es) (hb : Below n w w') (hn : hi ≤ n) : EdsAt w' lo hi A es := h.of fun b _ h2 => hb.block b (by omega)
theorem EdsAt.wide {w : World} {lo hi lo' hi' : Nat} {A : Option Addr} {es : List Ed} (h : EdsAt w lo hi A es) (hl : lo' ≤ lo) (hh : hi ≤ hi') : EdsAt w lo' hi' A es := fun hne => by
  obtain ⟨b, off, e, h1, h2, h3⟩ := h hne
  refine ⟨b, off, e, by omega, by omega, fun j hj => ?_⟩
  obtain ⟨c1, c2, PA, pc, c3, c4, c5⟩ := h3 j hj
  exact ⟨c1, c2, PA, pc, c3, c4, c5.wide hl hh⟩
theorem EdsAt.at_ {w : World} {lo hi : Nat} {A : Option Addr} {es : List Ed} (h : EdsAt w lo hi A es) {j : Nat} (hj : j < es.length) : ∃ b off, A = some ⟨b, off, none⟩ ∧ lo ≤ b ∧ b < hi ∧
    w.cell? ⟨b, off + j * 3, none⟩ = some (.int .i64 es[j].keep) ∧ w.cell? ⟨b, off + j * 3 + 1, none⟩ = some (.int .i64 es[j].drop) ∧
    ∃ PA pc, w.cell? ⟨b, off + j * 3 + 2, none⟩ = some (.slice PA es[j].put.length pc) ∧ es[j].put.length ≤ pc ∧ TxtAt w lo hi PA es[j].put := by
  obtain ⟨b, off, e, h1, h2, h3⟩ := h (by intro e; subst e; simp at hj)
  exact ⟨b, off, e, h1, h2, h3 j hj⟩

/-- An edit and the slice that holds its lines; its three cells. -/
abbrev EdV := Ed × Value
def edCells (p : EdV) : List Value := [.int .i64 p.1.keep, .int .i64 p.1.drop, p.2]
def edsCells (l : List EdV) : List Value := l.flatMap edCells
theorem edsCells_len (l : List EdV) : (edsCells l).length = l.length * 3 := by
  induction l with
  | nil => rfl
  | cons x l ih => simp only [edsCells, List.flatMap_cons, List.length_append, List.length_cons, List.length_nil, edCells] at ih ⊢; omega
theorem edsCells_snoc (l : List EdV) (x : EdV) : edsCells (l ++ [x]) = edsCells l ++ edCells x := by simp [edsCells]
/-- The slice holds the edit's lines. -/
def PutAt (w : World) (lo hi : Nat) (p : EdV) : Prop := ∃ PA pc, p.2 = .slice PA p.1.put.length pc ∧ p.1.put.length ≤ pc ∧ TxtAt w lo hi PA p.1.put
theorem PutAt.of {w w' : World} {lo hi : Nat} {p : EdV} (h : PutAt w lo hi p) (hb : ∀ b, lo ≤ b → b < hi → w'.heap[b]? = w.heap[b]?) : PutAt w' lo hi p := by
  obtain ⟨PA, pc, e, h1, h2⟩ := h
  exact ⟨PA, pc, e, h1, h2.of hb⟩
theorem PutAt.wide {w : World} {lo hi lo' hi' : Nat} {p : EdV} (h : PutAt w lo hi p) (hl : lo' ≤ lo) (hh : hi ≤ hi') : PutAt w lo' hi' p := by
  obtain ⟨PA, pc, e, h1, h2⟩ := h
  exact ⟨PA, pc, e, h1, h2.wide hl hh⟩
theorem edsCells_at : ∀ (l : List EdV) (j : Nat) (hj : j < l.length), (edsCells l)[j * 3]? = some (.int .i64 l[j].1.keep) ∧ (edsCells l)[j * 3 + 1]? = some (.int .i64 l[j].1.drop) ∧ (edsCells l)[j * 3 + 2]? = some l[j].2
  | [], j, hj => absurd hj (by simp)
  | x :: l, 0, _ => by simp [edsCells, edCells]
  | x :: l, j + 1, hj => by
    have ih := edsCells_at l j (by simpa using hj)
    have e : edsCells (x :: l) = edCells x ++ edsCells l := by simp [edsCells]
    rw [e]
    refine ⟨?_, ?_, ?_⟩
    · rw [List.getElem?_append_right (by simp [edCells]; omega), show (j + 1) * 3 - (edCells x).length = j * 3 by simp [edCells]; omega]; simpa using ih.1
    · rw [List.getElem?_append_right (by simp [edCells]; omega), show (j + 1) * 3 + 1 - (edCells x).length = j * 3 + 1 by simp [edCells]; omega]; simpa using ih.2.1
    · rw [List.getElem?_append_right (by simp [edCells]; omega), show (j + 1) * 3 + 2 - (edCells x).length = j * 3 + 2 by simp [edCells]; omega]; simpa using ih.2.2
/-- A row of one's own, of edits. -/
theorem EdsAt.of_own {w : World} {base e n c hi : Nat} {A : Option Addr} {l : List EdV} (h : w.ownsRow base e 3 (.slice A n c) n (edsCells l)) (hp : ∀ p ∈ l, PutAt w base hi p) (hhi : w.heap.size ≤ hi) : EdsAt w base hi A (l.map (·.1)) ∧ n = l.length ∧ l.length ≤ c := by
  have hn : n = l.length := by have := h.1; rw [edsCells_len] at this; omega
  subst hn
  refine ⟨fun hne => ?_, rfl, ?_⟩
  · have hne' : l ≠ [] := fun e => hne (by rw [e]; rfl)
    obtain ⟨g, cap, hv, hb, hlt⟩ := own_form h (List.length_pos_iff.2 hne')
    injection hv with e1 e2 e3
    subst e1
    refine ⟨g, 0, rfl, hb, by omega, fun j hj => ?_⟩
    rw [List.length_map] at hj
    have hc := fun o u hu => by
      have := h.cells (g := g) rfl o u hu
      rwa [show (⟨g, 0, none⟩ : Addr).add o = ⟨g, 0 + o, none⟩ by unfold Addr.add; split <;> simp_all] at this
    obtain ⟨h1, h2, h3⟩ := edsCells_at l j hj
    obtain ⟨PA, pc, e, h4, h5⟩ := hp l[j] (List.getElem_mem hj)
    simp only [List.getElem_map]
    exact ⟨hc _ _ h1, hc _ _ h2, PA, pc, by rw [← e]; exact hc _ _ h3, h4, h5⟩
  · rcases h.2 with ⟨h1, h2⟩ | ⟨g, cap, cur, h1, _, _, h4, _⟩
    · injection h1 with e1 e2 e3; omega
    · injection h1 with e1 e2 e3; omega
end Go.Proofs.Ytakolehlaejhfaa
