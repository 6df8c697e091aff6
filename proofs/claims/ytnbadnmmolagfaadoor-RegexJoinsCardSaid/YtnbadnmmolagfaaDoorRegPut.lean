/- Package regex: escaped (printed by gen_regesd.py). -/
import Derived.Test.YtnbadnmmolagfaaDoorRegState
import Derived.Test.YtnbadnmmolagfaaDoorRegion
namespace Go.Proofs.YtnbadnmmolagfaaDoor
open Go.RowKit
set_option maxRecDepth 100000
set_option linter.unusedVariables false
set_option linter.unusedSimpArgs false

theorem infoAsk : (Tryd.prog.info? 52).map (fun i => (i.zero, i.size, i.bytes)) = some (some (.agg #[.int .i64 0, .string ⟨#[]⟩]), 2, 24) := by kernel_rfl
theorem info_parts {P : Program} {t : TypeId} {x : Option Value × Nat × Nat} (h : (P.info? t).map (fun i => (i.zero, i.size, i.bytes)) = some x) : ∃ i, P.info? t = some i ∧ i.zero = x.1 ∧ i.size = x.2.1 ∧ i.bytes = x.2.2 := by
  cases hi : P.info? t with
  | none => rw [hi] at h; cases h
  | some i =>
    rw [hi] at h
    injection h with h
    exact ⟨i, rfl, by rw [← h], by rw [← h], by rw [← h]⟩
theorem info_ask : ∃ i, Tryd.prog.info? 52 = some i ∧ i.zero = some (.agg #[.int .i64 0, .string ⟨#[]⟩]) ∧ i.size = 2 ∧ i.bytes = 24 := info_parts infoAsk
theorem Rd.xs {b : Nat} {l : Ln} {u : Bool} {xs : List Value} {r : Ln} {w : World} (h : Rd b l u xs r w) (j : Nat) (v : Value) : Rd b l u (xs.set j v) r (w.setCell ⟨b, j + 3, none⟩ v) := by
  obtain ⟨k, h1, h2, h3⟩ := h
  exact ⟨k, h1, h2, h3.set (j + 3) v⟩
theorem cell_alloc (w : World) (o : Obj) (a : Addr) (h : a.block < w.heap.size) : (w.alloc o).cell? a = w.cell? a := World.cell?_of_block (Below.heap_alloc w o a.block h)
theorem frozen_alloc' (w : World) (o : Obj) (a : Addr) (h : a.block < w.heap.size) : (w.alloc o).frozen? a = w.frozen? a := World.frozen?_of_block (Below.heap_alloc w o a.block h)


set_option maxHeartbeats 16000000 in
theorem nu_put (B b M : Nat) (l : Ln) (u : Bool) (s : St) (vn vd : Value) (es : Array MapEntry) (clock : Nat) (w wt w2 : World) (r2 t : Ln) (k : Nat) (h : Rs B b M l u s vn vd es clock w) (hk : (k : Int) = (l.length : Int) - (s.r.length : Int))
    (h1 : Rd b l u [.int .i64 (s.g : Int), .map (some M), vn, vd] r2 wt) (h2 : Below B w wt) (hn : Rs B b M l u { s with r := r2 } vn vd es clock wt) (o : Obj)
    (gg cap : Nat) (hown : w2.ownsRow B 52 2 (.slice (some ⟨gg, 0, none⟩) (s.nu.length + 1) cap) (s.nu.length + 1) (askCells l.length s.nu ++ [.int .i64 (k : Int), .string (strOf t)]))
    (hg : (wt.alloc o).grownBy w2 vn.ownBlock) (hat : vn.ownBlock = some gg ∨ gg = wt.heap.size + 1) (hlt : gg < w2.heap.size) (hbw : B ≤ w.heap.size) :
    Below B w (w2.setCell ⟨b, 5, none⟩ (.slice (some ⟨gg, 0, none⟩) (s.nu.length + 1) cap)) ∧ ∃ vn vd es clock, Rs B b M l u { s with r := r2, nu := s.nu ++ [(s.r.length, t)] } vn vd es clock (w2.setCell ⟨b, 5, none⟩ (.slice (some ⟨gg, 0, none⟩) (s.nu.length + 1) cap)) := by
  obtain ⟨n1, n2, n3⟩ := hn.ne
  have hbl : b < wt.heap.size := by obtain ⟨_, _, _, q⟩ := h1; exact q.lt
  have hMl : M < wt.heap.size := (Array.getElem?_eq_some_iff.1 hn.mp).1
  have hown' : ∀ k, vn.ownBlock = some k → B ≤ k := fun q hq => (hn.nu.lt q hq).1
  have hgl : gg ≠ b ∧ gg ≠ M ∧ (∀ q, vd.ownBlock = some q → q ≠ gg) := by
    rcases hat with h | h
    · refine ⟨(n2 gg h).1, (n2 gg h).2, fun q hq e => ?_⟩
      subst e
      exact hn.ap _ h hq
    · refine ⟨by omega, by omega, fun q hq e => ?_⟩
      have := (hn.nd.lt q hq).2
      omega
  have ha := hn.below ((Below.refl _ wt).alloc (Nat.le_refl _) o)
  have hbw2 : B ≤ (wt.alloc o).heap.size := Nat.le_trans hbw (Nat.le_trans h2.size (by simp))
  refine ⟨((h2.alloc (Nat.le_trans hbw h2.size) o).grown hg hbw2 hown').setCell (p := ⟨b, 5, none⟩) h.hb _, .slice (some ⟨gg, 0, none⟩) (s.nu.length + 1) cap, vd, es, clock, ?_⟩
  have hrd : Rd b l u [.int .i64 (s.g : Int), .map (some M), vn, vd] r2 w2 := by
    obtain ⟨k', a1, a2, a3⟩ := ha.rd
    exact ⟨k', a1, a2, a3.grown hg (fun e => (n2 b e.symm).1 rfl)⟩
  have hset : w2.grownBy (w2.setCell ⟨b, 5, none⟩ (.slice (some ⟨gg, 0, none⟩) (s.nu.length + 1) cap)) (some b) := grown_set (grown_refl _ _) _ _
  have hcells : askCells l.length (s.nu ++ [(s.r.length, t)]) = askCells l.length s.nu ++ [.int .i64 (k : Int), .string (strOf t)] := by
    rw [hk]
    simp [askCells]
  have hoth : w2.ownsRow B 52 2 vd s.nd.length (askCells l.length s.nd) := own_grown ha.nd hg (fun q hq e => hn.ap q e.symm hq)
  refine ⟨hrd.xs 2 _, ?_, ?_, ?_, hn.nm, ?_, h.hb, h.hM⟩
  · show World.ownsRow _ _ _ _ _ (s.nu ++ [_]).length _
    rw [List.length_append, List.length_singleton, hcells]
    exact own_grown hown hset (fun q hq => by have e : gg = q := by simpa [Value.ownBlock] using hq
                                              have := hgl.1
                                              simp; omega)
  · exact own_grown hoth hset (fun q hq => by simpa using (n3 q hq).1)
  · rw [hset.block M (Nat.lt_of_lt_of_le (by simp; omega) hg.size) (by simpa using n1.symm)]
    exact (hg.block M (by simp; omega) (fun e => (n2 M e.symm).2 rfl)).trans ha.mp
  · intro q hq e
    have e2 : gg = q := by simpa [Value.ownBlock] using hq
    exact hgl.2.2 q e e2.symm

set_option maxHeartbeats 16000000 in
theorem nd_put (B b M : Nat) (l : Ln) (u : Bool) (s : St) (vn vd : Value) (es : Array MapEntry) (clock : Nat) (w wt w2 : World) (r2 t : Ln) (k : Nat) (h : Rs B b M l u s vn vd es clock w) (hk : (k : Int) = (l.length : Int) - (s.r.length : Int))
    (h1 : Rd b l u [.int .i64 (s.g : Int), .map (some M), vn, vd] r2 wt) (h2 : Below B w wt) (hn : Rs B b M l u { s with r := r2 } vn vd es clock wt) (o : Obj)
    (gg cap : Nat) (hown : w2.ownsRow B 52 2 (.slice (some ⟨gg, 0, none⟩) (s.nd.length + 1) cap) (s.nd.length + 1) (askCells l.length s.nd ++ [.int .i64 (k : Int), .string (strOf t)]))
    (hg : (wt.alloc o).grownBy w2 vd.ownBlock) (hat : vd.ownBlock = some gg ∨ gg = wt.heap.size + 1) (hlt : gg < w2.heap.size) (hbw : B ≤ w.heap.size) :
    Below B w (w2.setCell ⟨b, 6, none⟩ (.slice (some ⟨gg, 0, none⟩) (s.nd.length + 1) cap)) ∧ ∃ vn vd es clock, Rs B b M l u { s with r := r2, nd := s.nd ++ [(s.r.length, t)] } vn vd es clock (w2.setCell ⟨b, 6, none⟩ (.slice (some ⟨gg, 0, none⟩) (s.nd.length + 1) cap)) := by
  obtain ⟨n1, n2, n3⟩ := hn.ne
  have hbl : b < wt.heap.size := by obtain ⟨_, _, _, q⟩ := h1; exact q.lt
  have hMl : M < wt.heap.size := (Array.getElem?_eq_some_iff.1 hn.mp).1
  have hown' : ∀ k, vd.ownBlock = some k → B ≤ k := fun q hq => (hn.nd.lt q hq).1
  have hgl : gg ≠ b ∧ gg ≠ M ∧ (∀ q, vn.ownBlock = some q → q ≠ gg) := by
    rcases hat with h | h
    · refine ⟨(n3 gg h).1, (n3 gg h).2, fun q hq e => ?_⟩
      subst e
      exact hn.ap _ hq h
    · refine ⟨by omega, by omega, fun q hq e => ?_⟩
      have := (hn.nu.lt q hq).2
      omega
  have ha := hn.below ((Below.refl _ wt).alloc (Nat.le_refl _) o)
  have hbw2 : B ≤ (wt.alloc o).heap.size := Nat.le_trans hbw (Nat.le_trans h2.size (by simp))
  refine ⟨((h2.alloc (Nat.le_trans hbw h2.size) o).grown hg hbw2 hown').setCell (p := ⟨b, 6, none⟩) h.hb _, vn, .slice (some ⟨gg, 0, none⟩) (s.nd.length + 1) cap, es, clock, ?_⟩
  have hrd : Rd b l u [.int .i64 (s.g : Int), .map (some M), vn, vd] r2 w2 := by
    obtain ⟨k', a1, a2, a3⟩ := ha.rd
    exact ⟨k', a1, a2, a3.grown hg (fun e => (n3 b e.symm).1 rfl)⟩
  have hset : w2.grownBy (w2.setCell ⟨b, 6, none⟩ (.slice (some ⟨gg, 0, none⟩) (s.nd.length + 1) cap)) (some b) := grown_set (grown_refl _ _) _ _
  have hcells : askCells l.length (s.nd ++ [(s.r.length, t)]) = askCells l.length s.nd ++ [.int .i64 (k : Int), .string (strOf t)] := by
    rw [hk]
    simp [askCells]
  have hoth : w2.ownsRow B 52 2 vn s.nu.length (askCells l.length s.nu) := own_grown ha.nu hg (fun q hq e => hn.ap q hq e.symm)
  refine ⟨hrd.xs 3 _, ?_, ?_, ?_, hn.nm, ?_, h.hb, h.hM⟩
  · exact own_grown hoth hset (fun q hq => by simpa using (n2 q hq).1)
  · show World.ownsRow _ _ _ _ _ (s.nd ++ [_]).length _
    rw [List.length_append, List.length_singleton, hcells]
    exact own_grown hown hset (fun q hq => by have e : gg = q := by simpa [Value.ownBlock] using hq
                                              have := hgl.1
                                              simp; omega)
  · rw [hset.block M (Nat.lt_of_lt_of_le (by simp; omega) hg.size) (by simpa using n1.symm)]
    exact (hg.block M (by simp; omega) (fun e => (n3 M e.symm).2 rfl)).trans ha.mp
  · intro q hq e
    have e2 : gg = q := by simpa [Value.ownBlock] using e
    exact hgl.2.2 q hq e2.symm
end Go.Proofs.YtnbadnmmolagfaaDoor
