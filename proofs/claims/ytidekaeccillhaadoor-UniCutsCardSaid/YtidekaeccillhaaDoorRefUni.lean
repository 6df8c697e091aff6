/- The walks of the reference's row functions: within, Start, Part. -/
import Derived.Test.YtidekaeccillhaaDoorUniWalks
namespace Go.Proofs.YtidekaeccillhaaDoor
open Go.RowKit
set_option maxRecDepth 100000
set_option linter.unusedVariables false

theorem within_any (r : Int) (b n c : Nat) (xs : List Int) (w : World) (hn : xs.length = n) (hbig : n ≤ 1000) (hc : ∀ j, j < n → w.cell? ⟨b, j, none⟩ = some (.int .i64 (xs.getD j 0))) :
    Calls Tryd.prog 32 #[.int .i64 r, .slice (some ⟨b, 0, none⟩) n c] w fun e w' => e = .returned (.bool (inB r xs)) ∧ Below w.heap.size w w' := by
  have HN := Lib.hid hn
  have HC := Lib.hid hc
  clear hn hc
  go_enter Tryd.func32, Tryd.ntmps32
  go_wp2
  go_loop [5] (fun i => ∃ k : Nat, 2 * k ≤ n + 1 ∧ i = .int .i64 (2 * (k : Int)) ∧ inB r (xs.drop (2 * k)) = inB r xs) (fun i => n + 2 - (intOf i).toNat)
  case atStart => exact ⟨0, by omega, rfl, by simp⟩
  case round =>
    obtain ⟨k, hk, rfl, hin⟩ := hrel
    have HIN := Lib.hid hin
    clear hin
    by_cases hlt : 2 * k + 1 < n
    · have c0 : w.cell? ⟨b, 2 * k, none⟩ = some (.int .i64 (xs.getD (2 * k) 0)) := HC.out _ (by omega)
      have c1 : w.cell? ⟨b, 2 * k + 1, none⟩ = some (.int .i64 (xs.getD (2 * k + 1) 0)) := HC.out _ (by omega)
      have HS := Lib.hid (inB_drop r k xs (by rw [HN.out]; exact hlt))
      by_cases h0 : xs[2 * k]?.getD 0 ≤ r
      · by_cases h1 : r ≤ xs[2 * k + 1]?.getD 0
        · go_wp2
          go_ret
          refine ⟨ret_bool ?_, Below.refl _ _⟩
          rw [← HIN.out, HS.out]
          simp [h0, h1]
        · go_wp2
          go_round
          case rel => exact ⟨k + 1, by omega, by go_num, by rw [← HIN.out, HS.out]; simp [h0, h1]⟩
          case measure => simp [intOf]; omega
      · go_wp2
        go_round
        case rel => exact ⟨k + 1, by omega, by go_num, by rw [← HIN.out, HS.out]; simp [h0]⟩
        case measure => simp [intOf]; omega
    · go_wp2
      go_ret
      refine ⟨ret_bool ?_, Below.refl _ _⟩
      rw [← HIN.out, inB_short]
      have := HN.out
      simp
      omega

def refStartRows : List Int := [65, 90, 97, 122, 0xaa, 0xaa, 0xb5, 0xb5, 0xba, 0xba, 0xc0, 0xd6, 0xd8, 0xf6, 0xf8, 0x2c1, 0x370, 0x373, 0x386, 0x386, 0x388, 0x3ff, 0x400, 0x481, 0x48a, 0x52f, 0x531, 0x556, 0x5d0, 0x5ea, 0x620, 0x64a, 0x904, 0x939, 0xe01, 0xe30, 0x1e00, 0x1fff, 0x3041, 0x3096, 0x30a1, 0x30fa, 0x3400, 0x4dbf, 0x4e00, 0x9fff, 0xac00, 0xd7a3, 0x20000, 0x2a6df]
/-- The reference's rows say what the program's say. -/
theorem refStart_eq (r : Int) : ((r == 36 || r == 95) || inB r refStartRows) = startB r := by
  unfold startB startRows refStartRows
  by_cases h : r < 128
  · rw [if_pos h]
    have k : ∀ a b : Int, 128 ≤ a → (decide (a ≤ r) && decide (r ≤ b)) = false := fun a b ha => by
      have : ¬ a ≤ r := by omega
      simp [this]
    simp (disch := decide) only [inB, oneB, k, Bool.or_false]
  · rw [if_neg h]
    have k1 : ∀ a b : Int, b < 128 → (decide (a ≤ r) && decide (r ≤ b)) = false := fun a b ha => by
      have : ¬ r ≤ b := by omega
      simp [this]
    have k2 : ∀ a : Int, a < 128 → (r == a) = false := fun a ha => by simp; omega
    have k3 : ∀ a : Int, (decide (a ≤ r) && decide (r ≤ a)) = (r == a) := fun a => by
      rw [Bool.eq_iff_iff]; simp; omega
    simp only [inB, oneB, k1 65 90 (by decide), k1 97 122 (by decide), k2 36 (by decide), k2 95 (by decide), k3, Bool.or_false, Bool.false_or]
    ac_rfl

theorem refStart_any (r : Int) (w : World) :
    Calls Tryd.prog 16 #[.int .i64 r] w fun e w' => e = .returned (.bool (startB r)) ∧ Below w.heap.size w w' := by
  have HS := Lib.hid (refStart_eq r)
  cases h1 : (r == 36)
  · cases h2 : (r == 95)
    · go_enter Tryd.func16, Tryd.ntmps16
      go_wp2_with (first
        | (go_at_call 32; refine (within_any r w.heap.size 50 50 refStartRows _ rfl (by decide) (by exact cells_new _ _ refStartRows)).mono ?_; rintro e w1 ⟨rfl, hb1⟩))
      go_ret
      exact ⟨ret_bool (by rw [← HS.out, h1, h2]; rfl), (Below.refl _ w).ac hb1⟩
    · go_enter Tryd.func16, Tryd.ntmps16
      go_wp2_with fail
      go_ret
      exact ⟨ret_bool (by rw [← HS.out, h1, h2]; rfl), Below.refl _ w⟩
  · go_enter Tryd.func16, Tryd.ntmps16
    go_wp2_with fail
    go_ret
    exact ⟨ret_bool (by rw [← HS.out, h1]; rfl), Below.refl _ w⟩

theorem refPart_any (r : Int) (w : World) :
    Calls Tryd.prog 18 #[.int .i64 r] w fun e w' => e = .returned (.bool (partB r)) ∧ Below w.heap.size w w' := by
  cases hq : startB r
  · have HS : Hid (partB r = inB r partRows) := Lib.hid (by unfold partB; rw [hq]; rfl)
    go_enter Tryd.func18, Tryd.ntmps18
    go_wp2_with (first
      | (go_at_call 16; refine (refStart_any r w).mono ?_; rintro e w1 ⟨rfl, hb1⟩)
      | (go_at_call 32; refine (within_any r w1.heap.size 14 14 partRows _ rfl (by decide) (by exact cells_new _ _ partRows)).mono ?_; rintro e w2 ⟨rfl, hb2⟩))
    go_ret
    exact ⟨ret_bool HS.out.symm, hb1.ac hb2⟩
  · have HS : Hid (partB r = true) := Lib.hid (by unfold partB; rw [hq]; rfl)
    go_enter Tryd.func18, Tryd.ntmps18
    go_wp2_with (first
      | (go_at_call 16; refine (refStart_any r w).mono ?_; rintro e w1 ⟨rfl, hb1⟩))
    go_ret
    exact ⟨ret_bool HS.out.symm, hb1⟩
end Go.Proofs.YtidekaeccillhaaDoor
