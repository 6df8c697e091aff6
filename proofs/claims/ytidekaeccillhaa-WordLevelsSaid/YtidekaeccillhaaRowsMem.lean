/- Rows of texts in memory: what a row that was just built holds; a list of such rows. -/
import Derived.Test.YtidekaeccillhaaKit
import Derived.Test.YtidekaeccillhaaWordPlain
namespace Go.Proofs.Ytidekaeccillhaa
open Go.RowKit

theorem heap_alloc_at (w : World) (o : Obj) : (w.alloc o).heap[w.heap.size]? = some o := by
  show (w.heap.push _)[w.heap.size]? = _
  simp
theorem cells_newS (w : World) (t : TypeId) (vs : List ByteArray) (j : Nat) (hj : j < vs.length) : (w.alloc (.cells (vs.map Value.string).toArray t)).cell? ⟨w.heap.size, j, none⟩ = some (.string (vs.getD j default)) := by
  rw [cell_of_row _ _ _ _ _ _ (heap_alloc_at _ _)]
  simp [hj]

/-- A world in which row behind row has been built. -/
def buildRows (t : TypeId) : World → List (List ByteArray) → World
  | w, [] => w
  | w, r :: rs => buildRows t (w.alloc (.cells (r.map Value.string).toArray t)) rs
theorem buildRows_below (t : TypeId) : ∀ (rows : List (List ByteArray)) (w : World), Below w.heap.size w (buildRows t w rows) ∧ (buildRows t w rows).heap.size = w.heap.size + rows.length
  | [], w => ⟨Below.refl _ w, rfl⟩
  | r :: rs, w => by
    have ih := buildRows_below t rs (w.alloc (.cells (r.map Value.string).toArray t))
    have hz : (w.alloc (.cells (r.map Value.string).toArray t)).heap.size = w.heap.size + 1 := by simp
    refine ⟨((Below.refl _ w).alloc (Nat.le_refl _) _).call ih.1, ?_⟩
    show (buildRows t (w.alloc _) rs).heap.size = _
    rw [ih.2, hz, List.length_cons]
    omega
theorem buildRows_cell (t : TypeId) : ∀ (rows : List (List ByteArray)) (w : World) (k j : Nat), k < rows.length → j < (rows.getD k []).length →
    (buildRows t w rows).cell? ⟨w.heap.size + k, j, none⟩ = some (.string ((rows.getD k []).getD j default))
  | [], _, k, _, hk, _ => by simp at hk
  | r :: rs, w, 0, j, _, hj => by
    have hb := (buildRows_below t rs (w.alloc (.cells (r.map Value.string).toArray t))).1
    have hj' : j < r.length := by simpa using hj
    have e := hb.cell (p := ⟨w.heap.size, j, none⟩) (by simp)
    show (buildRows t (w.alloc _) rs).cell? ⟨w.heap.size, j, none⟩ = _
    rw [e, cells_newS w t r j hj']
    simp
  | r :: rs, w, k + 1, j, hk, hj => by
    have hz : (w.alloc (.cells (r.map Value.string).toArray t)).heap.size = w.heap.size + 1 := by simp
    have ih := buildRows_cell t rs (w.alloc (.cells (r.map Value.string).toArray t)) k j (by simpa using hk) (by simpa using hj)
    rw [hz] at ih
    show (buildRows t (w.alloc _) rs).cell? ⟨w.heap.size + (k + 1), j, none⟩ = _
    rw [show w.heap.size + (k + 1) = w.heap.size + 1 + k by omega, ih]
    simp

/-- A table of rows of texts: block B holds the rows' slices, the rows lie one behind the other from block D on. -/
def RowsAt (w : World) (B D : Nat) (rows : List (List ByteArray)) : Prop :=
  ∀ k, k < rows.length → w.cell? ⟨B, k, none⟩ = some (.slice (some ⟨D + k, 0, none⟩) (rows.getD k []).length (rows.getD k []).length) ∧
    ∀ j, j < (rows.getD k []).length → w.cell? ⟨D + k, j, none⟩ = some (.string ((rows.getD k []).getD j default))
/-- The slices of the rows. -/
def rowSlices (D : Nat) : List (List ByteArray) → List Value
  | [] => []
  | r :: rs => .slice (some ⟨D, 0, none⟩) r.length r.length :: rowSlices (D + 1) rs
theorem rowSlices_get : ∀ (rows : List (List ByteArray)) (D k : Nat), k < rows.length → (rowSlices D rows)[k]? = some (.slice (some ⟨D + k, 0, none⟩) (rows.getD k []).length (rows.getD k []).length)
  | [], _, _, h => by simp at h
  | r :: rs, D, 0, _ => by simp [rowSlices]
  | r :: rs, D, k + 1, h => by
    have ih := rowSlices_get rs (D + 1) k (by simpa using h)
    simp only [rowSlices, List.getElem?_cons_succ, ih]
    rw [show D + (k + 1) = D + 1 + k by omega]
    simp
theorem rowsAt_build (t t' : TypeId) (w : World) (rows : List (List ByteArray)) :
    RowsAt ((buildRows t w rows).alloc (.cells (rowSlices w.heap.size rows).toArray t')) (w.heap.size + rows.length) w.heap.size rows := by
  obtain ⟨hb, hz⟩ := buildRows_below t rows w
  intro k hk
  constructor
  · rw [← hz, cell_of_row _ _ _ _ _ _ (heap_alloc_at _ _)]
    simpa using rowSlices_get rows w.heap.size k hk
  · intro j hj
    rw [World.cell?_alloc_lt _ _ _ (by show w.heap.size + k < (buildRows t w rows).heap.size; rw [hz]; omega)]
    exact buildRows_cell t rows w k j hk hj
end Go.Proofs.Ytidekaeccillhaa
