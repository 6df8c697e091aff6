/- The reference's All: the units of a literal; SpoilInts: a slice of one's own written over. -/
import Derived.Test.YtcjnlbelgmcpeaaDoorRefStrParts
import Derived.Test.YtcjnlbelgmcpeaaDoorStrLaw
namespace Go.Proofs.YtcjnlbelgmcpeaaDoor
open Go.RowKit
set_option maxRecDepth 100000
set_option linter.unusedVariables false
set_option linter.unusedSimpArgs false

theorem own_rparts {W : World} {B : Nat} {v : Value} {rs : List RPt} (h : W.ownsRow B 55 4 v rs.length (rCells rs)) :
    ∃ a cap, v = .slice a rs.length cap ∧ (0 < rs.length → ∃ g, a = some ⟨g, 0, none⟩ ∧ g < W.heap.size ∧ B ≤ g) := by
  rcases h.2 with ⟨rfl, h0⟩ | ⟨g, cap, cur, rfl, hb, hg, _⟩
  · exact ⟨none, 0, by rw [h0], fun h => by omega⟩
  · exact ⟨some ⟨g, 0, none⟩, cap, rfl, fun _ => ⟨g, rfl, (Array.getElem?_eq_some_iff.1 hg).1, hb⟩⟩
theorem rCells_at (rs : List RPt) (k j : Nat) (hk : k < rs.length) (hj : j < 4) : (rCells rs)[k * 4 + j]? = (rCells1 rs[k])[j]? := by
  induction rs generalizing k with
  | nil => simp at hk
  | cons p rs ih =>
    simp only [rCells, List.flatMap_cons] at ih ⊢
    cases k with
    | zero =>
      rw [List.getElem?_append_left (by simp [rCells1]; omega)]
      simp
    | succ k =>
      rw [List.getElem?_append_right (by simp [rCells1]; omega)]
      have e : (k + 1) * 4 + j - (rCells1 p).length = k * 4 + j := by simp [rCells1]; omega
      rw [e, ih k (by simpa using hk)]
      simp
theorem own_rpart_cells {W : World} {B g cap : Nat} {rs : List RPt} (h : W.ownsRow B 55 4 (.slice (some ⟨g, 0, none⟩) rs.length cap) rs.length (rCells rs)) (k : Nat) (hk : k < rs.length) :
    W.cell? ⟨g, k * 4, none⟩ = some (.int .i64 (rs[k].p.fr : Int)) ∧ W.cell? ⟨g, k * 4 + 1, none⟩ = some (.int .i64 (rs[k].p.to : Int)) ∧ W.cell? ⟨g, k * 4 + 2, none⟩ = some (.slice rs[k].a rs[k].n rs[k].n) ∧ W.cell? ⟨g, k * 4 + 3, none⟩ = some (.int .i64 rs[k].ch) := by
  have c := fun j (hj : j < 4) => (h.cellAt (k * 4 + j) (by omega)).trans (rCells_at rs k j hk hj)
  exact ⟨c 0 (by decide), c 1 (by decide), c 2 (by decide), c 3 (by decide)⟩
def flatR (rs : List RPt) : List Int := flatU (rs.map RPt.p)
theorem flatR_snoc (rs : List RPt) (r : RPt) : flatR (rs ++ [r]) = flatR rs ++ unitsOf r.p.val := by
  unfold flatR
  rw [List.map_append, List.map_singleton, flatU_snoc]

set_option maxHeartbeats 4000000 in
theorem rall_any (s : ByteArray) (w : World) (hs : s.size ≤ 1048580) :
    Calls Tryd.prog 15 #[.string s] w fun e w' => UnitsOut s w e w' ∧ Below w.heap.size w w' := by
  have HC := Lib.hid (rparts_any s w hs)
  cases hp : partsB s with
  | ok ps =>
    have HP := Lib.hid hp
    clear hp
    obtain ⟨i0, z0, he1, he2, he3, he4, he5, he6, he7⟩ := intE
    have HE2 := Lib.hid he2
    clear he2 he3 he4 he5 he6 he7 he1
    go_enter Tryd.func15, Tryd.ntmps15
    go_wp2_with (go_at_call 21; refine HC.out.mono ?_; rintro e w1 ⟨he, hb1⟩; unfold RPartsOut at he; rw [HP.out] at he; obtain ⟨v, rs, rfl, hm, ho, hgd, hl⟩ := he; obtain ⟨a, cap, rfl, hv⟩ := own_rparts ho; have HM := Lib.hid hm; have HO := Lib.hid ho; have HV := Lib.hid hv; have HGD := Lib.hid hgd; clear ho hv hgd hm)
    go_loopw [6, 7] (fun out i wr => ∃ k : Nat, k ≤ rs.length ∧ i = .int .i64 (k : Int) ∧ wr.ownsRow w1.heap.size 3 1 out (flatR (rs.take k)).length (intCells (flatR (rs.take k))) ∧ Below w1.heap.size w1 wr) (fun _ i _ => rs.length - (intOf i).toNat)
    case atStart => exact ⟨0, by omega, rfl, World.ownsRow_nil _ _ _ _, Below.refl _ w1⟩
    case round =>
      obtain ⟨k, hk, rfl, hown, hbr⟩ := hrel
      have HW := Lib.hid hown
      clear hown
      by_cases hlt : k < rs.length
      · obtain ⟨g, rfl, hg1, hg2⟩ := HV.out (by omega)
        obtain ⟨c0, c1, c2, c3⟩ := own_rpart_cells (own_below HO.out hbr) k hlt
        obtain ⟨hu, hch⟩ := (HGD.out rs[k] (List.getElem_mem hlt)).below hbr
        have HT := Lib.hid (take_succ_of rs k hlt)
        have hfl := flatU_len ((rs.take k).map RPt.p)
        have htl : (rs.take k).length ≤ k := List.length_take_le _ _
        rw [List.length_map] at hfl
        change (flatR (rs.take k)).length ≤ _ at hfl
        generalize rs[k] = r at *
        obtain ⟨p, ch, a, n⟩ := r
        simp only at c0 c1 c2 c3 hu
        clear hch
        have hul := unitsOf_len p.val
        rcases hu with ⟨hu1, hu2⟩ | ⟨q, hu1, hu2, hu3, hu4, hu5⟩
        · simp only [Value.slice.injEq] at hu1
          obtain ⟨rfl, rfl, _⟩ := hu1
          have HU := Lib.hid hu2
          clear hu2
          go_wp2_with (at_builtin; refine wpList_append_own_none rfl (.tmp 21) (.tmp 26) _ rfl w1.heap.size 3 i0 1 Tryd.underlying30 HE2.out u6 (flatR (rs.take k)).length _ rfl HW.out rfl ?_)
          go_roundw
          case rel => exact ⟨k + 1, by omega, by go_num, by rw [HT.out, flatR_snoc, HU.out, List.append_nil]; exact HW.out, hbr⟩
          case measure => simp [intOf]; omega
        · simp only [Value.slice.injEq] at hu1
          obtain ⟨rfl, hn, _⟩ := hu1
          have HU : Hid (flatR (rs.take k ++ [⟨p, ch, some ⟨q, 0, none⟩, n⟩]) = flatR (rs.take k) ++ unitsOf p.val) := Lib.hid (flatR_snoc _ _)
          generalize unitsOf p.val = us at *
          subst hn
          have HUB := Lib.hid hu3
          clear hu3
          go_wp2_with (
            at_builtin
            refine wpList_append_blk rfl (.tmp 21) (.tmp 26) _ _ 1 8 rfl intE w1 wr w1.heap.size hbr hbr.size (Below.refl _ _) u6 (flatR (rs.take k)).length (intCells (flatR (rs.take k))) rfl HW.out q us.length (intCells us) rfl HUB.out (by rw [intCells_len, Nat.mul_one]) (intCells_one _) (by unfold maxLen; omega) (by omega) ?_
            intro v' W' ho' hb' hg' hlt'
            have HO2 := Lib.hid (own_snoc ho')
            clear ho')
          go_roundw
          case rel => exact ⟨k + 1, by omega, by go_num, by rw [HT.out, HU.out]; exact HO2.out, hb'⟩
          case measure => simp [intOf]; omega
      · have HE : Hid (flatR (rs.take k) = flatU ps) := Lib.hid (by rw [List.take_of_length_le (by omega), ← HM.out]; rfl)
        go_wp2_with fail
        go_ret2
        have hl2 := flatU_len ps
        have hl3 : ps.length = rs.length := by rw [← HM.out, List.length_map]
        have HW2 := HW.out
        rw [HE.out] at HW2
        exact ⟨unitsOut_ok HP.out rfl (own_low HW2 hb1.size) (by omega), hb1.trans (hbr.mono hb1.size)⟩
  | error p =>
    have HP := Lib.hid hp
    clear hp
    go_enter Tryd.func15, Tryd.ntmps15
    go_wp2_with (go_at_call 21; refine HC.out.mono ?_; rintro e w1 ⟨he, hb1⟩; unfold RPartsOut at he; rw [HP.out] at he; subst he)
    go_ret2
    exact ⟨unitsOut_err HP.out rfl, hb1⟩

theorem cell_set_off (w : World) (g i j : Nat) (v : Value) (h : i ≠ j) : (w.setCell ⟨g, i, none⟩ v).cell? ⟨g, j, none⟩ = w.cell? ⟨g, j, none⟩ := by
  unfold World.setCell World.cell?
  simp only [Array.getElem?_modify]
  cases hh : w.heap[g]? with
  | none => simp
  | some o =>
    cases o with
    | cells c e fz => simp [Array.getElem?_setIfInBounds, h]
    | _ => simp
theorem grown_set {w wr : World} {g k : Nat} {v : Value} (h : w.grownBy wr (some g)) : w.grownBy (wr.setCell ⟨g, k, none⟩ v) (some g) := by
  refine ⟨h.os, h.tape, h.output, ?_, fun b hb hne => ?_⟩
  · simpa using h.size
  · rw [Below.heap_setCell wr _ v b (fun e => hne (by rw [e]))]
    exact h.block b hb hne

set_option maxHeartbeats 4000000 in
theorem spoil_own (xs : List Int) (v : Value) (B : Nat) (w : World) (hx : xs.length ≤ 4294967296) (ho : w.ownsRow B 3 1 v xs.length (intCells xs)) (hb : ∀ j, 0 ≤ xs.getD j 0 ∧ xs.getD j 0 ≤ 65535) :
    Calls Tryd.prog 17 #[v] w fun e w' => e = .returned (.tuple #[]) ∧ w.grownBy w' v.ownBlock := by
  have hcells := fun g cap (e : v = .slice (some ⟨g, 0, none⟩) xs.length cap) (j : Nat) (hj : j < xs.length) => (e ▸ ho : w.ownsRow B 3 1 (.slice (some ⟨g, 0, none⟩) xs.length cap) xs.length (intCells xs)).cellAt j (by omega)
  have hfro := fun g cap (e : v = .slice (some ⟨g, 0, none⟩) xs.length cap) (j : Nat) => (e ▸ ho : w.ownsRow B 3 1 (.slice (some ⟨g, 0, none⟩) xs.length cap) xs.length (intCells xs)).frozenAt j
  rcases ho.2 with ⟨rfl, h0⟩ | ⟨g, cap, cur, rfl, hbg, hg, hcap, _, hsz, _⟩
  · have hz : w.grownBy w (Value.ownBlock (.slice none 0 0)) := ⟨rfl, rfl, rfl, Nat.le_refl _, fun _ _ _ => rfl⟩
    have HZ := Lib.hid hz
    clear hcells hfro hz ho hb
    clear h0
    go_enter Tryd.func17, Tryd.ntmps17
    go_wp2_with fail
    go_loop [2] (fun i => i = .int .i64 0) (fun i => 0)
    case atStart => rfl
    case round =>
      subst hrel
      go_wp2_with fail
      go_end0
      exact ⟨rfl, HZ.out⟩
  · have HC := Lib.hid (hcells g cap rfl)
    have HF := Lib.hid (hfro g cap rfl)
    have HBD := Lib.hid hb
    have hgl : g < w.heap.size := (Array.getElem?_eq_some_iff.1 hg).1
    clear hcells hfro hb ho hg hsz
    go_enter Tryd.func17, Tryd.ntmps17
    go_wp2_with fail
    go_loopw [2] (fun i wr => ∃ k : Nat, k ≤ xs.length ∧ i = .int .i64 (k : Int) ∧ (∀ j, k ≤ j → j < xs.length → wr.cell? ⟨g, j, none⟩ = some (.int .i64 (xs.getD j 0))) ∧ (∀ j, wr.frozen? ⟨g, j, none⟩ = false) ∧ w.grownBy wr (some g)) (fun i _ => xs.length - (intOf i).toNat)
    case atStart => exact ⟨0, by omega, rfl, fun j _ hj => by rw [HC.out j hj]; simp [intCells, hj], HF.out, ⟨rfl, rfl, rfl, Nat.le_refl _, fun _ _ _ => rfl⟩⟩
    case round =>
      obtain ⟨k, hk, rfl, hc, hf, hgr⟩ := hrel
      have HGR := Lib.hid hgr
      have HC2 := Lib.hid hc
      have HF2 := Lib.hid hf
      clear hgr hc hf
      by_cases hlt : k < xs.length
      · have c0 := HC2.out k (Nat.le_refl _) hlt
        have f0 := HF2.out k
        have hbd := HBD.out k
        generalize hx0 : xs.getD k 0 = x at *
        clear hx0
        go_wp2_with fail
        go_roundw
        case rel => exact ⟨k + 1, by omega, by go_num, fun j hj hj2 => (cell_set_off wr g k j _ (by omega)).trans (HC2.out j (by omega) hj2), fun j => (World.frozen?_setCell wr _ _ _).trans (HF2.out j), grown_set HGR.out⟩
        case measure => simp [intOf]; omega
      · go_wp2_with fail
        go_end0
        exact ⟨rfl, HGR.out⟩
end Go.Proofs.YtcjnlbelgmcpeaaDoor
