/- platenref15.text. -/
import Derived.Test.YtaojlnibkajfbaaDoorDocRow
namespace Go.Proofs.YtaojlnibkajfbaaDoor
open Go.RowKit
set_option maxRecDepth 100000
set_option linter.unusedVariables false
set_option linter.unusedSimpArgs false

theorem sz0 : (⟨#[]⟩ : ByteArray).size = 0 := rfl
set_option maxHeartbeats 2000000 in
theorem refText_any (s : ByteArray) (w : World) (hs : s.size ≤ 4294967280) :
    Calls Tryd.prog 53 #[.string s] w fun e w' => e = .returned (.bool (textB s)) ∧ Below w.heap.size w w' := by
  have HV := Lib.hid (refValid_any s w (by omega))
  have HB : Hid (textB s = ((validCode s == 0) && !endFrom s 0)) := Lib.hid rfl
  go_enter Tryd.func53, Tryd.ntmps53
  go_wp2_with fail
  go_loop [3] (fun i => ∃ j : Nat, j ≤ s.size ∧ i = .int .i64 (j : Int) ∧ endFrom s j = endFrom s 0) (fun i => s.size - (intOf i).toNat)
  case atStart => exact ⟨0, Nat.zero_le _, rfl, rfl⟩
  case round =>
    obtain ⟨j, hj, rfl, he⟩ := hrel
    by_cases hlt : j < s.size
    · have hji : (j : Int) < (s.size : Int) := by omega
      have hstep := endFrom_byte s j hlt
      have hby : byt s j = (s[j]'hlt).toNat := by
        unfold byt
        have h2 : j < s.data.size := hlt
        show (s.data[j]!).toNat = _
        rw [getElem!_pos s.data j h2]
        rfl
      rw [hby] at hstep
      have hgl : ∀ (p : j < s.size), s[j]'p = s[j]'hlt := fun p => rfl
      generalize s[j]'hlt = c at *
      have HSTEP := Lib.hid hstep
      have HE := Lib.hid he
      have hc : c.toNat = 10 ∨ c.toNat = 13 ∨ (c.toNat ≠ 10 ∧ c.toNat ≠ 13) := by omega
      clear hstep he hby
      rcases hc with hc | hc | ⟨hc1, hc2⟩
      · have e1 : ((c.toNat : Int) == 10) = true := by rw [beq_iff_eq]; omega
        have hend : textB s = false := by rw [HB.out, ← HE.out, HSTEP.out]; simp [endN, hc]
        have HEND := Lib.hid hend
        clear hend hc
        go_wp2_with fail
        go_ret
        exact ⟨ret_bool HEND.out.symm, Below.refl _ _⟩
      · have e1 : ((c.toNat : Int) == 10) = false := by rw [beq_eq_false_iff_ne]; omega
        have e2 : ((c.toNat : Int) == 13) = true := by rw [beq_iff_eq]; omega
        have hend : textB s = false := by rw [HB.out, ← HE.out, HSTEP.out]; simp [endN, hc]
        have HEND := Lib.hid hend
        clear hend hc
        go_wp2_with fail
        go_ret
        exact ⟨ret_bool HEND.out.symm, Below.refl _ _⟩
      · have e1 : ((c.toNat : Int) == 10) = false := by rw [beq_eq_false_iff_ne]; omega
        have e2 : ((c.toNat : Int) == 13) = false := by rw [beq_eq_false_iff_ne]; omega
        have hend : endFrom s (j + 1) = endFrom s 0 := by rw [← HE.out, HSTEP.out]; simp [endN, hc1, hc2]
        have HEND := Lib.hid hend
        clear hend hc1 hc2
        go_wp2_with fail
        go_round
        case rel => exact ⟨j + 1, by omega, by go_num, HEND.out⟩
        case measure => simp [intOf]; omega
    · have hji : (s.size : Int) ≤ (j : Int) := by omega
      have hend : textB s = (validCode s == 0) := by rw [HB.out, ← he, endFrom_out s j hlt]; simp
      have HEND := Lib.hid hend
      clear hend he
      go_wp2_with fail
      refine HV.out.mono ?_
      rintro e w1 ⟨rfl, hb1⟩
      have HB1 := Lib.hid hb1
      clear hb1
      go_wp2_with fail
      go_ret
      exact ⟨ret_bool HEND.out.symm, HB1.out⟩
end Go.Proofs.YtaojlnibkajfbaaDoor
