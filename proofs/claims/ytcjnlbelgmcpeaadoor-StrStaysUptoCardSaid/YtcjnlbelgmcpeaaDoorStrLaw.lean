/- What the laws of the strings share: SameInts, SpoilInts, awake. -/
import Derived.Test.YtcjnlbelgmcpeaaDoorStrQuote
namespace Go.Proofs.YtcjnlbelgmcpeaaDoor
open Go.RowKit
set_option maxRecDepth 100000
set_option linter.unusedVariables false
set_option linter.unusedSimpArgs false

/-- A slice reads as a list of ints. -/
def IntsAt (W : World) (v : Value) (xs : List Int) : Prop :=
  ∃ a cap, v = .slice a xs.length cap ∧ (0 < xs.length → ∃ g, a = some ⟨g, 0, none⟩ ∧ g < W.heap.size ∧ ∀ j, j < xs.length → W.cell? ⟨g, j, none⟩ = some (.int .i64 (xs.getD j 0)))
theorem IntsAt.of_own {W : World} {B : Nat} {v : Value} {xs : List Int} (h : W.ownsRow B 3 1 v xs.length (intCells xs)) : IntsAt W v xs := by
  rcases h.2 with ⟨rfl, h0⟩ | ⟨g, cap, cur, rfl, hb, hg, _⟩
  · exact ⟨none, 0, by rw [h0], fun h => by omega⟩
  · refine ⟨some ⟨g, 0, none⟩, cap, rfl, fun _ => ⟨g, rfl, (Array.getElem?_eq_some_iff.1 hg).1, fun j hj => ?_⟩⟩
    rw [h.cellAt j (by omega)]
    simp [intCells, hj]
theorem IntsAt.below {W W' : World} {v : Value} {xs : List Int} (h : IntsAt W v xs) (hb : Below W.heap.size W W') : IntsAt W' v xs := by
  obtain ⟨a, cap, rfl, hv⟩ := h
  refine ⟨a, cap, rfl, fun h0 => ?_⟩
  obtain ⟨g, rfl, hg, hc⟩ := hv h0
  exact ⟨g, rfl, Nat.lt_of_lt_of_le hg hb.size, fun j hj => (hb.cell hg).trans (hc j hj)⟩
theorem IntsAt.nil (W : World) : IntsAt W (.slice none 0 0) [] := ⟨none, 0, rfl, fun h => by simp at h⟩
theorem take_eq_step {xs ys : List Int} {k : Nat} (h : xs.take k = ys.take k) (hx : k < xs.length) (hl : xs.length = ys.length) : (xs.take (k + 1) = ys.take (k + 1)) ↔ xs.getD k 0 = ys.getD k 0 := by
  have hy : k < ys.length := by omega
  rw [take_succ_of xs k hx, take_succ_of ys k hy, h, List.append_cancel_left_eq]
  simp [hx, hy]

set_option maxHeartbeats 4000000 in
theorem sameInts_any (xs ys : List Int) (a b : Value) (w : World) (hx : xs.length ≤ 4294967296) (hy : ys.length ≤ 4294967296) (ha : IntsAt w a xs) (hb : IntsAt w b ys) :
    Calls Tryd.prog 16 #[a, b] w fun e w' => e = .returned (.bool (xs == ys)) ∧ Below w.heap.size w w' := by
  obtain ⟨pa, ca, rfl, hva⟩ := ha
  obtain ⟨pb, cb, rfl, hvb⟩ := hb
  have HA := Lib.hid hva
  have HB := Lib.hid hvb
  clear hva hvb
  by_cases hl : xs.length = ys.length
  · have HL := Lib.hid hl
    have hl1 : ((xs.length : Int) != (ys.length : Int)) = false := by rw [bne_eq_false_iff_eq]; omega
    clear hl
    go_enter Tryd.func16, Tryd.ntmps16
    go_wp2_with fail
    go_loopw [5] (fun i wr => ∃ k : Nat, k ≤ xs.length ∧ i = .int .i64 (k : Int) ∧ xs.take k = ys.take k ∧ Below w.heap.size w wr) (fun i _ => xs.length - (intOf i).toNat)
    case atStart => exact ⟨0, by omega, rfl, rfl, Below.refl _ w⟩
    case round =>
      obtain ⟨k, hk, rfl, hke, hbw⟩ := hrel
      have HK := Lib.hid hke
      clear hke
      by_cases hlt : k < xs.length
      · obtain ⟨g, rfl, hg, hca⟩ := HA.out (by omega)
        obtain ⟨g', rfl, hg', hcb⟩ := HB.out (by have := HL.out; omega)
        have hlt2 : k < ys.length := by have := HL.out; omega
        have c1 := (hbw.cell (p := ⟨g, k, none⟩) hg).trans (hca k hlt)
        have c2 := (hbw.cell (p := ⟨g', k, none⟩) hg').trans (hcb k hlt2)
        have HS := Lib.hid (take_eq_step HK.out hlt HL.out)
        have HHK := Lib.hid (HK.out)
        clear hca hcb
        generalize xs.getD k 0 = x at *
        generalize ys.getD k 0 = y at *
        by_cases hxy : x = y
        · subst hxy
          have hne : (x != x) = false := by simp
          go_wp2_with fail
          go_quiet (fail)
          go_wp2_with fail
          go_roundw
          case rel => exact ⟨k + 1, by omega, by go_num, HS.out.2 (by simp), below_drewN hbw _⟩
          case measure => simp [intOf]; omega
        · have hne : (x != y) = true := by rw [bne_iff_ne]; exact hxy
          have HF : Hid ((xs == ys) = false) := Lib.hid (by
            rw [beq_eq_false_iff_ne]
            intro e
            exact hxy (HS.out.1 (by rw [e])))
          clear hxy
          go_wp2_with fail
          go_quiet (fail)
          go_wp2_with fail
          go_ret
          exact ⟨ret_bool HF.out.symm, below_drewN hbw _⟩
      · have HT : Hid ((xs == ys) = true) := Lib.hid (by
          have := HK.out
          rw [List.take_of_length_le (by omega), List.take_of_length_le (by have := HL.out; omega)] at this
          simpa using this)
        go_wp2_with fail
        go_ret
        exact ⟨ret_bool HT.out.symm, hbw⟩
  · have hl1 : ((xs.length : Int) != (ys.length : Int)) = true := by rw [bne_iff_ne]; omega
    have HF : Hid ((xs == ys) = false) := Lib.hid (by
      rw [beq_eq_false_iff_ne]
      intro e
      exact hl (by rw [e]))
    clear hl
    go_enter Tryd.func16, Tryd.ntmps16
    go_wp2_with fail
    go_ret
    exact ⟨ret_bool HF.out.symm, Below.refl _ w⟩

/-- What Units hands out, as the laws use it. -/
theorem units_ints {s : ByteArray} {w w' : World} {e : Ending} (h : UnitsOut s w e w') : ∃ v us, e = .returned (.tuple #[v, .int .i64 (checkCode s)]) ∧ IntsAt w' v us ∧ us.length ≤ 2 * s.size ∧ (∀ ps, partsB s = .ok ps → us = flatU ps) ∧ (∀ p, partsB s = .error p → us = []) := by
  unfold UnitsOut at h
  unfold checkCode
  cases hp : partsB s with
  | ok ps =>
    rw [hp] at h
    obtain ⟨v, rfl, ho, hl⟩ := h
    exact ⟨v, flatU ps, rfl, .of_own ho, hl, fun ps' h => (by cases h; rfl), fun p h => (by cases h)⟩
  | error p =>
    rw [hp] at h
    subst h
    exact ⟨.slice none 0 0, [], rfl, .nil w', by simp, fun ps h => (by cases h), fun p h => rfl⟩

def lit1 : ByteArray := ⟨#[39, 97, 92, 120, 52, 49, 39]⟩
def lit2 : ByteArray := ⟨#[39, 105, 116, 92, 39, 115, 39]⟩
def lit3 : ByteArray := ⟨#[39, 97]⟩
theorem lit1_parts : partsB lit1 = .ok [⟨1, 2, false, 97⟩, ⟨2, 6, true, 65⟩] := by kernel_rfl
theorem lit2_quote : quoteS lit2 true = ⟨#[34, 105, 116, 39, 115, 34]⟩ ∧ checkCode lit2 = 0 := ⟨by kernel_rfl, by kernel_rfl⟩
theorem lit3_check : checkPos lit3 = 2 ∧ checkCode lit3 = 300 := ⟨by kernel_rfl, by kernel_rfl⟩

set_option maxHeartbeats 4000000 in
theorem awake_any (w : World) (hT : Tabs w) :
    Calls Tryd.prog 13 #[] w fun e w' => e = .returned (.bool true) ∧ Below w.heap.size w w' := by
  have HT := Lib.hid hT
  have H1 := Lib.hid lit1_parts
  have H1c : Hid (checkCode lit1 = 0) := Lib.hid (by unfold checkCode; rw [lit1_parts])
  have H2 := Lib.hid lit2_quote
  have H3 := Lib.hid lit3_check
  clear hT
  go_enter Tryd.func13, Tryd.ntmps13
  go_wp2_with fail
  refine (units_any lit1 w (by decide) HT.out).mono ?_
  rintro e w1 ⟨hu, hb1⟩
  obtain ⟨v, us, rfl, hi, hl, hp, hq⟩ := units_ints hu
  obtain rfl := hp _ H1.out
  have HI := Lib.hid hi
  have HB1 := Lib.hid hb1
  rw [H1c.out]
  clear hu hi hp hq hl hb1
  go_wp2_with fail
  refine (quote_any lit2 true w1 (by decide) (HT.out.below HB1.out)).mono ?_
  rintro e w2 ⟨rfl, hb2⟩
  rw [H2.out.1, H2.out.2]
  have HB2 := Lib.hid (HB1.out.call hb2)
  have HI2 := Lib.hid (HI.out.below hb2)
  clear hb2
  go_wp2_with fail
  refine (check_any lit3 w2 (by decide) (HT.out.below HB2.out)).mono ?_
  rintro e w3 ⟨rfl, hb3⟩
  rw [H3.out.1, H3.out.2]
  have HB3 := Lib.hid (HB2.out.call hb3)
  have HI3 := Lib.hid (HI2.out.below hb3)
  clear hb3
  go_wp2_with (go_at_call 12; refine (num_any _ _).mono ?_; rintro e w9 ⟨rfl, rfl⟩)
  refine (sameInts_any [97, 65] [97, 65] _ _ _ (by decide) (by decide) (HI3.out.below ((Below.refl _ _).alloc (Nat.le_refl _) _)) ⟨some ⟨w3.heap.size, 0, none⟩, 2, rfl, fun _ => ⟨w3.heap.size, rfl, by simp, fun j hj => (Blk.new w3 (intCells [97, 65]) 3).cell j |>.trans (by rcases (by simp at hj; omega : j = 0 ∨ j = 1) with rfl | rfl <;> rfl)⟩⟩).mono ?_
  rintro e w4 ⟨rfl, hb4⟩
  have HB4 := Lib.hid ((HB3.out.alloc HB3.out.size _).call hb4)
  clear hb4
  go_wp2_with (go_at_call 12; refine (num_any _ _).mono ?_; rintro e w9 ⟨rfl, rfl⟩)
  go_ret
  exact ⟨rfl, HB4.out⟩
end Go.Proofs.YtcjnlbelgmcpeaaDoor
