/- The walks of package str's Check and Units. -/
import Derived.Test.YtcjnlbelgmcpeaaDoorStrParts
import Derived.Test.YtcjnlbelgmcpeaaDoorStrPlain2
namespace Go.Proofs.YtcjnlbelgmcpeaaDoor
open Go.RowKit
set_option maxRecDepth 100000
set_option linter.unusedVariables false
set_option linter.unusedSimpArgs false

set_option maxHeartbeats 1000000 in
theorem check_any (s : ByteArray) (w : World) (hs : s.size ≤ 4194304) (hT : Tabs w) :
    Calls Tryd.prog 10 #[.string s] w fun e w' => e = .returned (.tuple #[.int .i64 (checkPos s), .int .i64 (checkCode s)]) ∧ Below w.heap.size w w' := by
  have HC := Lib.hid (parts_any s w hs hT)
  clear hT
  cases hp : partsB s with
  | ok ps =>
    have H1 : Hid (checkPos s = 0 ∧ checkCode s = 0) := Lib.hid (by unfold checkPos checkCode; rw [hp]; exact ⟨rfl, rfl⟩)
    have HP := Lib.hid hp
    clear hp
    go_enter Tryd.func10, Tryd.ntmps10
    go_wp2_with (go_at_call 20; refine HC.out.mono ?_; rintro e w1 ⟨he, hb1⟩; unfold PartsOut at he; rw [HP.out] at he; obtain ⟨v, rfl, ho, hl⟩ := he; have HO := Lib.hid ho; clear ho)
    go_ret2
    exact ⟨by rw [H1.out.1, H1.out.2]; rfl, hb1⟩
  | error p =>
    have H1 : Hid (checkPos s = (p : Int) ∧ checkCode s = 300) := Lib.hid (by unfold checkPos checkCode; rw [hp]; exact ⟨rfl, rfl⟩)
    have HP := Lib.hid hp
    clear hp
    go_enter Tryd.func10, Tryd.ntmps10
    go_wp2_with (go_at_call 20; refine HC.out.mono ?_; rintro e w1 ⟨he, hb1⟩; unfold PartsOut at he; rw [HP.out] at he; subst he)
    go_ret2
    exact ⟨by rw [H1.out.1, H1.out.2]; rfl, hb1⟩

def intCells (l : List Int) : List Value := l.map (Value.int .i64)
theorem intCells_len (l : List Int) : (intCells l).length = l.length := by simp [intCells]
theorem intE : ElemOf Tryd.prog 30 3 1 8 := .mk' (.int .i64 0) Tryd.underlying30 (by kernel_rfl) rfl (by decide)
theorem intCells_one (l : List Int) : ∀ u ∈ intCells l, u.oneCell' = true := by
  intro u hu
  simp only [intCells, List.mem_map] at hu
  obtain ⟨x, _, rfl⟩ := hu
  rfl

theorem own_snoc {W : World} {B : Nat} {v : Value} {xs ys : List Int} (h : W.ownsRow B 3 1 v (xs.length + ys.length) (intCells xs ++ intCells ys)) : W.ownsRow B 3 1 v (xs ++ ys).length (intCells (xs ++ ys)) := by
  rw [List.length_append]
  have e : intCells (xs ++ ys) = intCells xs ++ intCells ys := by simp [intCells]
  rw [e]
  exact h
theorem and10 (x : Int) (h0 : 0 ≤ x) (h1 : x < 4294967296) : bits .and .i64 x 1023 = x % 1024 := by
  obtain ⟨r, rfl⟩ := Int.eq_ofNat_of_zero_le h0
  have h2 : (BitVec.ofInt 64 (r : Int)).toNat = r := by
    rw [BitVec.ofInt_natCast, BitVec.toNat_ofNat]; exact Nat.mod_eq_of_lt (by omega)
  have h3 : (BitVec.ofInt 64 (1023 : Int)).toNat = 1023 := by decide
  show IntKind.i64.wrap ((BitVec.ofInt 64 (r : Int) &&& BitVec.ofInt 64 (1023 : Int)).toNat : Int) = _
  rw [BitVec.toNat_and, h2, h3, show (1023 : Nat) = 2 ^ 10 - 1 from rfl, Nat.and_two_pow_sub_one_eq_mod, IntKind.wrap_i64]
  omega
/-- What Units hands out. -/
def UnitsOut (s : ByteArray) (w : World) (e : Ending) (w' : World) : Prop :=
  match partsB s with
  | .ok ps => ∃ v, e = .returned (.tuple #[v, .int .i64 0]) ∧ w'.ownsRow w.heap.size 3 1 v (flatU ps).length (intCells (flatU ps)) ∧ (flatU ps).length ≤ 2 * s.size
  | .error p => e = .returned (.tuple #[.slice none 0 0, .int .i64 300])
theorem unitsOut_ok {s : ByteArray} {w w' : World} {e : Ending} {ps : List Pt} {v : Value} (h : partsB s = .ok ps) (he : e = .returned (.tuple #[v, .int .i64 0])) (ho : w'.ownsRow w.heap.size 3 1 v (flatU ps).length (intCells (flatU ps))) (hl : (flatU ps).length ≤ 2 * s.size) : UnitsOut s w e w' := by
  unfold UnitsOut
  rw [h]
  exact ⟨v, he, ho, hl⟩
theorem unitsOut_err {s : ByteArray} {w w' : World} {e : Ending} {p : Nat} (h : partsB s = .error p) (he : e = .returned (.tuple #[.slice none 0 0, .int .i64 300])) : UnitsOut s w e w' := by
  unfold UnitsOut
  rw [h]
  exact he

/-- A row of parts: its value, and a part's cells. -/
theorem own_parts {W : World} {B : Nat} {v : Value} {ps : List Pt} (h : W.ownsRow B 53 4 v ps.length (rowCells ps)) :
    ∃ a cap, v = .slice a ps.length cap ∧ (0 < ps.length → ∃ g, a = some ⟨g, 0, none⟩ ∧ g < W.heap.size ∧ B ≤ g) := by
  rcases h.2 with ⟨rfl, h0⟩ | ⟨g, cap, cur, rfl, hb, hg, _⟩
  · exact ⟨none, 0, by rw [h0], fun h => by omega⟩
  · exact ⟨some ⟨g, 0, none⟩, cap, rfl, fun _ => ⟨g, rfl, (Array.getElem?_eq_some_iff.1 hg).1, hb⟩⟩
theorem rowCells_at (ps : List Pt) (k j : Nat) (hk : k < ps.length) (hj : j < 4) : (rowCells ps)[k * 4 + j]? = (ptCells ps[k])[j]? := by
  induction ps generalizing k with
  | nil => simp at hk
  | cons p ps ih =>
    simp only [rowCells, List.flatMap_cons] at ih ⊢
    cases k with
    | zero =>
      rw [List.getElem?_append_left (by simp [ptCells]; omega)]
      simp
    | succ k =>
      rw [List.getElem?_append_right (by simp [ptCells]; omega)]
      have e : (k + 1) * 4 + j - (ptCells p).length = k * 4 + j := by simp [ptCells]; omega
      rw [e, ih k (by simpa using hk)]
      simp
theorem own_part_cells {W : World} {B g cap : Nat} {ps : List Pt} (h : W.ownsRow B 53 4 (.slice (some ⟨g, 0, none⟩) ps.length cap) ps.length (rowCells ps)) (k : Nat) (hk : k < ps.length) :
    W.cell? ⟨g, k * 4, none⟩ = some (.int .i64 (ps[k].fr : Int)) ∧ W.cell? ⟨g, k * 4 + 1, none⟩ = some (.int .i64 (ps[k].to : Int)) ∧ W.cell? ⟨g, k * 4 + 2, none⟩ = some (.bool ps[k].esc) ∧ W.cell? ⟨g, k * 4 + 3, none⟩ = some (.int .i64 ps[k].val) := by
  have c := fun j (hj : j < 4) => (h.cellAt (k * 4 + j) (by omega)).trans (rowCells_at ps k j hk hj)
  exact ⟨c 0 (by decide), c 1 (by decide), c 2 (by decide), c 3 (by decide)⟩

set_option maxHeartbeats 4000000 in
theorem units_any (s : ByteArray) (w : World) (hs : s.size ≤ 4194304) (hT : Tabs w) :
    Calls Tryd.prog 14 #[.string s] w fun e w' => UnitsOut s w e w' ∧ Below w.heap.size w w' := by
  have HC := Lib.hid (parts_any s w hs hT)
  clear hT
  cases hp : partsB s with
  | ok ps =>
    have HOK := Lib.hid (partsB_ok hp)
    have HP := Lib.hid hp
    clear hp
    go_enter Tryd.func14, Tryd.ntmps14
    go_wp2_with (go_at_call 20; refine HC.out.mono ?_; rintro e w1 ⟨he, hb1⟩; unfold PartsOut at he; rw [HP.out] at he; obtain ⟨v, rfl, ho, hl⟩ := he; obtain ⟨a, cap, rfl, hv⟩ := own_parts ho; have HO := Lib.hid ho; have HV := Lib.hid hv; clear ho hv)
    go_loopw [7, 21] (fun out i wr => ∃ k : Nat, k ≤ ps.length ∧ i = .int .i64 (k : Int) ∧ wr.ownsRow w1.heap.size 3 1 out (flatU (ps.take k)).length (intCells (flatU (ps.take k))) ∧ Below w1.heap.size w1 wr) (fun _ i _ => ps.length - (intOf i).toNat)
    case atStart => exact ⟨0, by omega, rfl, World.ownsRow_nil _ _ _ _, Below.refl _ w1⟩
    case round =>
      obtain ⟨k, hk, rfl, hown, hbr⟩ := hrel
      have HW := Lib.hid hown
      clear hown
      by_cases hlt : k < ps.length
      · obtain ⟨g, rfl, hg1, hg2⟩ := HV.out (by omega)
        obtain ⟨c0, c1, c2, c3⟩ := own_part_cells (own_below HO.out hbr) k hlt
        have hok := HOK.out ps[k] (List.getElem_mem hlt)
        obtain ⟨ok1, ok2, ok3, ok4, ok5⟩ := hok
        have HT := Lib.hid (take_succ_of ps k hlt)
        have hfl := flatU_len (ps.take k)
        have htl : (ps.take k).length ≤ k := List.length_take_le _ _
        generalize ps[k] = p at *
        obtain ⟨pf, pt, pe, pv⟩ := p
        simp only at c0 c1 c2 c3 ok1 ok2 ok3 ok4 ok5
        clear ok1 ok2 ok3
        have hsz := hbr.size
        by_cases h1 : pv < 0
        · have HU : Hid (unitsOf pv = []) := Lib.hid (by unfold unitsOf; rw [if_pos h1])
          go_wp2_with fail
          go_roundw
          case rel => exact ⟨k + 1, by omega, by go_num, by rw [HT.out, flatU_snoc, HU.out, List.append_nil]; exact own_below HW.out ((Below.refl _ _).alloc (Nat.le_refl _) _), hbr.alloc hsz _⟩
          case measure => simp [intOf]; omega
        · by_cases h2 : pv ≤ 65535
          · have HU : Hid (unitsOf pv = [pv]) := Lib.hid (by unfold unitsOf; rw [if_neg h1, if_neg (by omega)])
            go_wp2_with (
              at_builtin
              refine wpList_append_blk rfl (.tmp 25) (.tmp 28) _ _ 1 8 rfl intE w1 wr w1.heap.size hbr hbr.size (((Below.refl wr.heap.size wr).alloc (Nat.le_refl _) _).alloc (by simp) _) u7 (flatU (ps.take k)).length (intCells (flatU (ps.take k))) rfl HW.out _ 1 (intCells [pv]) rfl (Blk.new' (intCells [pv]) _ (by simp)) rfl (intCells_one _) (by unfold maxLen; omega) (by omega) ?_
              intro v' W' ho' hb' hg' hlt'
              have HO2 := Lib.hid (own_snoc ho')
              clear ho')
            go_roundw
            case rel => exact ⟨k + 1, by omega, by go_num, by rw [HT.out, flatU_snoc, HU.out]; exact HO2.out, hb'⟩
            case measure => simp [intOf]; omega
          · have HU : Hid (unitsOf pv = [55296 + (pv - 65536) / 1024, 56320 + (pv - 65536) % 1024]) := Lib.hid (by unfold unitsOf; rw [if_neg h1, if_pos (by omega)])
            have hand := and10 (pv - 65536) (by omega) (by omega)
            go_wp2_with (
              at_builtin
              refine wpList_append_blk rfl (.tmp 41) (.tmp 48) _ _ 1 8 rfl intE w1 wr w1.heap.size hbr hbr.size (((Below.refl wr.heap.size wr).alloc (Nat.le_refl _) _).alloc (by simp) _) u7 (flatU (ps.take k)).length (intCells (flatU (ps.take k))) rfl HW.out _ 2 (intCells [55296 + (pv - 65536) / 1024, 56320 + (pv - 65536) % 1024]) rfl (Blk.new' (intCells [55296 + (pv - 65536) / 1024, 56320 + (pv - 65536) % 1024]) _ (by simp)) rfl (intCells_one _) (by unfold maxLen; omega) (by omega) ?_
              intro v' W' ho' hb' hg' hlt'
              have HO2 := Lib.hid (own_snoc ho')
              clear ho')
            go_roundw
            case rel => exact ⟨k + 1, by omega, by go_num, by rw [HT.out, flatU_snoc, HU.out]; exact HO2.out, hb'⟩
            case measure => simp [intOf]; omega
      · have HE : Hid (ps.take k = ps) := Lib.hid (List.take_of_length_le (by omega))
        go_wp2_with fail
        go_ret2
        have hl2 := flatU_len ps
        have HW2 := HW.out
        rw [HE.out] at HW2
        exact ⟨unitsOut_ok HP.out rfl (own_low HW2 hb1.size) (by omega), hb1.trans (hbr.mono hb1.size)⟩
  | error p =>
    have HP := Lib.hid hp
    clear hp
    go_enter Tryd.func14, Tryd.ntmps14
    go_wp2_with (go_at_call 20; refine HC.out.mono ?_; rintro e w1 ⟨he, hb1⟩; unfold PartsOut at he; rw [HP.out] at he; subst he)
    go_ret2
    exact ⟨unitsOut_err HP.out rfl, hb1⟩
end Go.Proofs.YtcjnlbelgmcpeaaDoor
