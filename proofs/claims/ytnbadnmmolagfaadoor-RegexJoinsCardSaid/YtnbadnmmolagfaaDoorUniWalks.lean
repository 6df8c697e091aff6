/- The walks of package uni's row functions: each contract once. -/
import Derived.Test.YtnbadnmmolagfaaDoorRows
import Derived.Test.YtnbadnmmolagfaaDoorKit
import Derived.Test.YtnbadnmmolagfaaDoorUniPlain
namespace Go.Proofs.YtnbadnmmolagfaaDoor
open Go.RowKit
set_option maxRecDepth 100000
set_option linter.unusedVariables false


theorem in_any (r : Int) (b n c : Nat) (xs : List Int) (w : World) (hn : xs.length = n) (hbig : n ≤ 1000) (hc : ∀ j, j < n → w.cell? ⟨b, j, none⟩ = some (.int .i64 (xs.getD j 0))) :
    Calls Tryd.prog 49 #[.int .i64 r, .slice (some ⟨b, 0, none⟩) n c] w fun e w' => e = .returned (.bool (inB r xs)) ∧ Below w.heap.size w w' := by
  have HN := Lib.hid hn
  have HC := Lib.hid hc
  clear hn hc
  go_enter Tryd.func49, Tryd.ntmps49
  go_wp2
  go_loop [5] (fun i => ∃ k : Nat, 2 * k ≤ n + 1 ∧ i = .int .i64 (2 * (k : Int)) ∧ inB r (xs.drop (2 * k)) = inB r xs) (fun i => n + 2 - (intOf i).toNat)
  case atStart => exact ⟨0, by omega, rfl, by simp⟩
  case round =>
    obtain ⟨k, hk, rfl, hin⟩ := hrel
    have HIN := Lib.hid hin
    clear hin
    by_cases hlt : 2 * k + 1 < n
    · have c0 : w.cell? ⟨b, 2 * k, none⟩ = some (.int .i64 (xs.getD (2 * k) 0)) := HC.out _ (by omega)
      have c1 : w.cell? ⟨b, 2 * k + 1, none⟩ = some (.int .i64 (xs.getD (2 * k + 1) 0)) := HC.out _ (by omega)
      have HS := Lib.hid (inB_drop r k xs (by rw [HN.out]; exact hlt))
      by_cases h0 : xs[2 * k]?.getD 0 ≤ r
      · by_cases h1 : r ≤ xs[2 * k + 1]?.getD 0
        · go_wp2
          go_ret
          refine ⟨ret_bool ?_, Below.refl _ _⟩
          rw [← HIN.out, HS.out]
          simp [h0, h1]
        · go_wp2
          go_round
          case rel => exact ⟨k + 1, by omega, by go_num, by rw [← HIN.out, HS.out]; simp [h0, h1]⟩
          case measure => simp [intOf]; omega
      · go_wp2
        go_round
        case rel => exact ⟨k + 1, by omega, by go_num, by rw [← HIN.out, HS.out]; simp [h0]⟩
        case measure => simp [intOf]; omega
    · go_wp2
      go_ret
      refine ⟨ret_bool ?_, Below.refl _ _⟩
      rw [← HIN.out, inB_short]
      have := HN.out
      simp
      omega

theorem one_any (r : Int) (b n c : Nat) (xs : List Int) (w : World) (hn : xs.length = n) (hbig : n ≤ 1000) (hc : ∀ j, j < n → w.cell? ⟨b, j, none⟩ = some (.int .i64 (xs.getD j 0))) :
    Calls Tryd.prog 50 #[.int .i64 r, .slice (some ⟨b, 0, none⟩) n c] w fun e w' => e = .returned (.bool (oneB r xs)) ∧ Below w.heap.size w w' := by
  have HN := Lib.hid hn
  have HC := Lib.hid hc
  clear hn hc
  go_enter Tryd.func50, Tryd.ntmps50
  go_wp2
  go_loop [9] (fun i => ∃ k : Nat, k ≤ n ∧ i = .int .i64 (k : Int) ∧ oneB r (xs.drop k) = oneB r xs) (fun i => n - (intOf i).toNat)
  case atStart => exact ⟨0, by omega, rfl, by simp⟩
  case round =>
    obtain ⟨k, hk, rfl, hin⟩ := hrel
    have HIN := Lib.hid hin
    clear hin
    by_cases hlt : k < n
    · have c0 : w.cell? ⟨b, k, none⟩ = some (.int .i64 (xs.getD k 0)) := HC.out _ (by omega)
      have HS := Lib.hid (oneB_drop r k xs (by rw [HN.out]; exact hlt))
      cases h0 : (r == xs[k]?.getD 0)
      · go_wp2
        go_round
        case rel => exact ⟨k + 1, by omega, by go_num, by rw [← HIN.out, HS.out]; simp [h0]⟩
        case measure => simp [intOf]; omega
      · go_wp2
        go_ret
        refine ⟨ret_bool ?_, Below.refl _ _⟩
        rw [← HIN.out, HS.out]
        simp [h0]
    · go_wp2
      go_ret
      refine ⟨ret_bool ?_, Below.refl _ _⟩
      rw [← HIN.out, List.drop_of_length_le (by rw [HN.out]; omega)]
      rfl

/-- The cells of a row of numbers that was just built. -/
theorem cells_new (w : World) (t : TypeId) (vs : List Int) (j : Nat) (hj : j < vs.length) : (w.alloc (.cells (vs.map (Value.int .i64)).toArray t)).cell? ⟨w.heap.size, j, none⟩ = some (.int .i64 (vs.getD j 0)) := by
  have e : (w.alloc (.cells (vs.map (Value.int .i64)).toArray t)).heap[w.heap.size]? = some (.cells (vs.map (Value.int .i64)).toArray t) := by
    show (w.heap.push _)[w.heap.size]? = _
    simp
  rw [cell_of_row _ _ _ _ _ _ e]
  simp [hj]

theorem start_any (r : Int) (w : World) :
    Calls Tryd.prog 41 #[.int .i64 r] w fun e w' => e = .returned (.bool (startB r)) ∧ Below w.heap.size w w' := by
  by_cases h : r < 128
  · have HS : Hid (startB r = (oneB r [36, 95] || inB r [65, 90, 97, 122])) := Lib.hid (by unfold startB; rw [if_pos h])
    cases hq : oneB r [36, 95]
    · go_enter Tryd.func41, Tryd.ntmps41
      go_wp2_with (first
        | (go_at_call 50; refine (one_any r w.heap.size 2 2 [36, 95] _ rfl (by decide) (by exact cells_new _ _ [36, 95])).mono ?_; rintro e w1 ⟨rfl, hb1⟩)
        | (go_at_call 49; refine (in_any r w1.heap.size 4 4 [65, 90, 97, 122] _ rfl (by decide) (by exact cells_new _ _ [65, 90, 97, 122])).mono ?_; rintro e w2 ⟨rfl, hb2⟩))
      go_ret
      exact ⟨ret_bool (by rw [HS.out, hq]; rfl), ((Below.refl _ w).ac hb1).ac hb2⟩
    · go_enter Tryd.func41, Tryd.ntmps41
      go_wp2_with (first
        | (go_at_call 50; refine (one_any r w.heap.size 2 2 [36, 95] _ rfl (by decide) (by exact cells_new _ _ [36, 95])).mono ?_; rintro e w1 ⟨rfl, hb1⟩))
      go_ret
      exact ⟨ret_bool (by rw [HS.out, hq]; rfl), (Below.refl _ w).ac hb1⟩
  · have HS : Hid (startB r = (oneB r [0xaa, 0xb5, 0xba, 0x386] || inB r startRows)) := Lib.hid (by unfold startB; rw [if_neg h])
    cases hq : oneB r [0xaa, 0xb5, 0xba, 0x386]
    · go_enter Tryd.func41, Tryd.ntmps41
      go_wp2_with (first
        | (go_at_call 50; refine (one_any r w.heap.size 4 4 [0xaa, 0xb5, 0xba, 0x386] _ rfl (by decide) (by exact cells_new _ _ [0xaa, 0xb5, 0xba, 0x386])).mono ?_; rintro e w1 ⟨rfl, hb1⟩)
        | (go_at_call 49; refine (in_any r w1.heap.size 38 38 startRows _ rfl (by decide) (by exact cells_new _ _ startRows)).mono ?_; rintro e w2 ⟨rfl, hb2⟩))
      go_ret
      exact ⟨ret_bool (by rw [HS.out, hq]; rfl), ((Below.refl _ w).ac hb1).ac hb2⟩
    · go_enter Tryd.func41, Tryd.ntmps41
      go_wp2_with (first
        | (go_at_call 50; refine (one_any r w.heap.size 4 4 [0xaa, 0xb5, 0xba, 0x386] _ rfl (by decide) (by exact cells_new _ _ [0xaa, 0xb5, 0xba, 0x386])).mono ?_; rintro e w1 ⟨rfl, hb1⟩))
      go_ret
      exact ⟨ret_bool (by rw [HS.out, hq]; rfl), (Below.refl _ w).ac hb1⟩

theorem part_any (r : Int) (w : World) :
    Calls Tryd.prog 40 #[.int .i64 r] w fun e w' => e = .returned (.bool (partB r)) ∧ Below w.heap.size w w' := by
  cases hq : startB r
  · have HS : Hid (partB r = inB r partRows) := Lib.hid (by unfold partB; rw [hq]; rfl)
    go_enter Tryd.func40, Tryd.ntmps40
    go_wp2_with (first
      | (go_at_call 41; refine (start_any r w).mono ?_; rintro e w1 ⟨rfl, hb1⟩)
      | (go_at_call 49; refine (in_any r w1.heap.size 14 14 partRows _ rfl (by decide) (by exact cells_new _ _ partRows)).mono ?_; rintro e w2 ⟨rfl, hb2⟩))
    go_ret
    exact ⟨ret_bool HS.out.symm, hb1.ac hb2⟩
  · have HS : Hid (partB r = true) := Lib.hid (by unfold partB; rw [hq]; rfl)
    go_enter Tryd.func40, Tryd.ntmps40
    go_wp2_with (first
      | (go_at_call 41; refine (start_any r w).mono ?_; rintro e w1 ⟨rfl, hb1⟩))
    go_ret
    exact ⟨ret_bool HS.out.symm, hb1⟩
end Go.Proofs.YtnbadnmmolagfaaDoor
