/- Slices of ints as arguments: what the walks want of them, and the last step of a row that reads one. -/
import Derived.Test.YtnbadnmmolagfaaDoorKit
import Derived.Carry
import Derived.SizedLaws
namespace Go.Proofs.YtnbadnmmolagfaaDoor
open Go.RowKit Go.WideShapes Go.ChangeShapes

/-- The slice value v reads as these ints, below block number B. -/
def IntsIn (w : World) (B : Nat) (v : Value) (zs : List Int) : Prop :=
  (∃ A c, v = .slice A 0 c ∧ zs = []) ∨
  ∃ b off c, v = .slice (some ⟨b, off, none⟩) zs.length c ∧ b < B ∧ 0 < zs.length ∧ ∀ j, j < zs.length → w.cell? ⟨b, off + j, none⟩ = some (.int .i64 (zs.getD j 0))
theorem IntsIn.len {w : World} {B : Nat} {v : Value} {zs : List Int} (h : IntsIn w B v zs) : ∃ A c, v = .slice A zs.length c := by
  rcases h with ⟨A, c, rfl, rfl⟩ | ⟨b, off, c, rfl, _⟩
  · exact ⟨A, c, rfl⟩
  · exact ⟨_, c, rfl⟩
theorem IntsIn.below {w w' : World} {B B' : Nat} {v : Value} {zs : List Int} (h : IntsIn w B v zs) (hb : Below B' w w') (hB : B ≤ B') : IntsIn w' B v zs := by
  rcases h with h | ⟨b, off, c, e, hlt, hp, hc⟩
  · exact .inl h
  · exact .inr ⟨b, off, c, e, hlt, hp, fun j hj => (hb.cell (p := ⟨b, off + j, none⟩) (Nat.lt_of_lt_of_le hlt hB)).trans (hc j hj)⟩

section
variable {H : Type} {enc : TypeId × Value → H} {P : Program}
/-- An argument of type []int, opened. -/
theorem ints_open {w : World} {t e : TypeId} {v : Value} {d : DataW H} {ps : List MemPlace} (ht : P.underlying t = some (.slice e)) (he : P.underlying e = some (.int .i64)) (hc : P.cellsOf e = 1)
    {base : Nat} (hv : Value.okWide P w .any base t v) (h : DataW.Trod enc P w 0 (fun _ => true) true t v d ps) :
    ∃ zs : List Int, IntsIn w w.heap.size v zs ∧ (∀ n ∈ zs, (Lit.int .i64 n).wf = true) ∧ zs.length ≤ maxLen := by
  obtain ⟨a0, len, cap, rfl⟩ := okWide_slice ht hv
  obtain ⟨fuel, hf⟩ := h
  rcases open_ints ht he hc hf with ⟨hcs, _⟩ | ⟨a, len', cap', zs, hcs, _, hl, hm, hz, hx, hcell, hwf⟩
  · simp [Value.cells] at hcs
    obtain ⟨rfl, rfl, rfl⟩ := hcs
    exact ⟨[], .inl ⟨_, _, rfl, rfl⟩, by simp, by simp⟩
  · simp [Value.cells] at hcs
    obtain ⟨rfl, rfl, rfl⟩ := hcs
    simp only [if_true] at hz
    by_cases h0 : len = 0
    · subst h0
      exact ⟨[], .inl ⟨_, _, rfl, rfl⟩, by simp, by simp⟩
    · obtain ⟨b, off, rfl, hcell'⟩ := ints_at hcell (by omega)
      have htl : (zs.take len).length = len := by rw [List.length_take]; omega
      refine ⟨zs.take len, .inr ⟨b, off, cap, by rw [htl], ?_, by omega, fun j hj => ?_⟩, fun n hn => hwf n (List.mem_of_mem_take hn), by rw [htl]; omega⟩
      · have := World.block_lt_of_cell? w _ (hcell' 0 (by omega))
        exact this
      · rw [hcell' j (by omega)]
        congr 2
        simp [List.getD, show j < len by omega]

/-- The last step of a law's row, whatever its arguments: what was read reads as it did. -/
theorem law_post_any {f : Func} {s : ChangeSpec} {apart fresh handsOn : Bool} {W W' : World} {args : Array Value} {ds gs : List (DataW H)} {pa pv : List MemPlace} {t : TypeId}
    (ht : P.underlying t = some .bool) (hrt : f.resultTypes = #[t])
    (hW : DataW.Whole enc P f.params.toList s.vars apart W args.toList ds gs (pa ++ pv))
    (hres : (s.fn H (ds ++ gs)).results = [.lit (.bool true)])
    (hargs : DataW.TrodAll enc P W' 0 (fun b => decide (b < W.heap.size)) true f.params.toList args.toList (s.fn H (ds ++ gs)).args pa)
    (hvars : DataW.TrodVars enc P W' (fun b => decide (b < W.heap.size)) s.vars (s.fn H (ds ++ gs)).vars pv)
    (hb : Below W.heap.size W W') :
    s.post enc P f apart fresh handsOn false W args (.bool true) W' := by
  have res : ∀ (b : Nat) (sp : Nat → Bool) (hd : Bool), DataW.TrodAll enc P W' b sp hd f.resultTypes.toList ((Value.bool true).resultList f.resultTypes.size) (s.fn H (ds ++ gs)).results [] := fun b sp hd => by
    rw [hres, hrt]
    exact trodAll_mk1 (shut_bool ht true)
  exact ⟨ds, gs, pa ++ pv, [], pa, pv, hW, res _ _ _, hargs, hvars, World.keptBut_mono (fun p hp => ⟨hp, Or.inr (List.mem_append.1 hp)⟩) (hb.frame (· ∈ pa ++ pv)), fun h => by cases h⟩
end
end Go.Proofs.YtnbadnmmolagfaaDoor
