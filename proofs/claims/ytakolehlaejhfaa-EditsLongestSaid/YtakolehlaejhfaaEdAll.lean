/- EditsAll: the walk. -/
import Derived.Test.YtakolehlaejhfaaEdAwake
import Derived.Test.YtakolehlaejhfaaEdEdit
import Derived.Test.YtakolehlaejhfaaDecimal
namespace Go.Proofs.Ytakolehlaejhfaa
open Go.RowKit
set_option maxRecDepth 100000
set_option linter.unusedVariables false
set_option linter.unusedSimpArgs false

theorem dec_any (i : Nat) (hi : i ≤ 100) (w : World) : Calls Try.prog 22 #[.int .i64 (i : Int)] w fun e w' => e = .returned (.string (strOf (decB (i : Int)))) ∧ Below w.heap.size w w' :=
  decimal_any (i : Int) (by omega) (by omega) w
theorem join_dl (L : Ln) (i : Nat) : strOf L ++ strOf (decB (i : Int)) ++ (⟨#[10]⟩ : ByteArray) = strOf (L ++ dl i) := by
  rw [strOf_app, show (⟨#[10]⟩ : ByteArray) = strOf [10] from rfl, strOf_app, dl, List.append_assoc]
set_option maxHeartbeats 4000000 in
theorem editsAll_walk (z1 z2 z3 z4 : Int) (m k d p : Nat) (hm : m ≤ 15) (hk : k ≤ 15) (hd : d ≤ 15) (hp : p ≤ 3) (b1 : bits .and .i64 z1 15 = (m : Int)) (b2 : bits .and .i64 z2 15 = (k : Int)) (b3 : bits .and .i64 z3 15 = (d : Int)) (b4 : bits .and .i64 z4 3 = (p : Int)) (w : World) :
    Calls Try.prog 8 #[.int .i64 z1, .int .i64 z2, .int .i64 z3, .int .i64 z4] w fun e w' => e = .returned (.bool true) ∧ Below w.heap.size w w' := by
  go_enter Try.func8, Try.ntmps8
  go_wp2_with (go_at_call 14; refine (awake_any _).mono ?_; rintro e w1 ⟨rfl, hb1⟩; have HB1 := Lib.hid hb1; clear hb1)
  go_loopw [10, 12] (fun st i wr => ∃ j : Nat, j ≤ m ∧ i = .int .i64 (j : Int) ∧ st = .string (strOf (numsB j).flatten) ∧ Below w.heap.size w wr) (fun _ i _ => m - (intOf i).toNat)
  case atStart => exact ⟨0, Nat.zero_le _, rfl, rfl, HB1.out⟩
  case round =>
    obtain ⟨j, hj, rfl, rfl, hb⟩ := hrel
    have HB := Lib.hid hb
    have hsz := numsB_small j (by omega)
    have hsz2 : (strOf (numsB j).flatten).size ≤ 64 := by rw [strOf_size]; exact hsz
    clear hb
    by_cases hlt : j < m
    · have hji : (j : Int) < (m : Int) := by omega
      have hdz : (strOf (decB (j : Int))).size ≤ 30 := by rw [strOf_size]; exact decB_small j (by omega)
      have HN := Lib.hid (numsB_succ j)
      have HJ := Lib.hid (join_dl (numsB j).flatten j)
      have HD := Lib.hid (dec_any j (by omega) wr)
      clear hsz
      generalize hx : strOf (numsB j).flatten = x at *
      go_wp2_with (go_at_call 22; refine HD.out.mono ?_; rintro e w5 ⟨rfl, hb5⟩; have HB5 := Lib.hid hb5; clear hb5)
      go_roundw
      case rel =>
        refine ⟨j + 1, by omega, by go_num, ?_, HB.out.call HB5.out⟩
        rw [HJ.out, HN.out]
        congr 2
        simp
      case measure => simp [intOf]; omega
    · have hje : j = m := by omega
      rw [hje] at hsz hsz2
      have hji : (m : Int) ≤ (j : Int) := by omega
      have hjd : decide (j < m) = false := by simpa using hlt
      rw [hje]
      have HSZ := Lib.hid hsz
      clear hsz hlt hje
      generalize hx : strOf (numsB m).flatten = x at *
      have HX := Lib.hid hx
      clear hx
      go_wp2_with fail
      clear hjd hj
      obtain ⟨M, hM⟩ : ∃ M, M = min k m := ⟨_, rfl⟩
      go_loopw [11, 16] (fun st i wr => ∃ j : Nat, j ≤ M ∧ i = .int .i64 (j : Int) ∧ st = .string (strOf (numsB j).flatten) ∧ Below w.heap.size w wr) (fun _ i _ => M - (intOf i).toNat)
      case atStart => exact ⟨0, Nat.zero_le _, rfl, rfl, HB.out⟩
      case round =>
        obtain ⟨j, hj, rfl, rfl, hb⟩ := hrel
        have HB2 := Lib.hid hb
        have hsz2 : (strOf (numsB j).flatten).size ≤ 64 := by rw [strOf_size]; exact numsB_small j (by omega)
        clear hb
        by_cases hlt : j < M
        · have hji : (j : Int) < (k : Int) := by omega
          have hji2 : (j : Int) < (m : Int) := by omega
          have hdz : (strOf (decB (j : Int))).size ≤ 30 := by rw [strOf_size]; exact decB_small j (by omega)
          have HN := Lib.hid (numsB_succ j)
          have HJ := Lib.hid (join_dl (numsB j).flatten j)
          have HD := Lib.hid (dec_any j (by omega) wr)
          generalize hy : strOf (numsB j).flatten = y at *
          have HY := Lib.hid hy
          have HM := Lib.hid hM
          clear hy hM
          go_wp2_with (go_at_call 22; refine HD.out.mono ?_; rintro e w5 ⟨rfl, hb5⟩; have HB5 := Lib.hid hb5; clear hb5)
          go_roundw
          case rel =>
            refine ⟨j + 1, by omega, by go_num, ?_, HB2.out.call HB5.out⟩
            rw [HJ.out, HN.out]
            congr 2
            simp
          case measure => simp [intOf]; omega
        · have hje : j = M := by omega
          rw [hje] at hsz2
          rw [hje]
          have hcase : ((k : Int) ≤ (M : Int)) ∨ ((M : Int) < (k : Int) ∧ (m : Int) ≤ (M : Int)) := by omega
          have HM := Lib.hid hM
          clear hlt hje hM
          generalize hy : strOf (numsB M).flatten = y at *
          have HY := Lib.hid hy
          clear hy hj
          rcases hcase with h1 | ⟨h1, h2⟩
          all_goals
            go_wp2_with fail
            obtain ⟨wq, rfl⟩ : ∃ wo : World, wo = wr := ⟨_, rfl⟩
            go_loopw [11, 17] (fun st i wr => ∃ j : Nat, j ≤ p ∧ i = .int .i64 (j : Int) ∧ st = .string (strOf ((numsB M).flatten ++ List.replicate j 120)) ∧ Below w.heap.size w wr) (fun _ i _ => p - (intOf i).toNat)
            case atStart => exact ⟨0, Nat.zero_le _, rfl, by rw [← HY.out]; simp, HB2.out⟩
            case round =>
              obtain ⟨j, hj, rfl, rfl, hb⟩ := hrel
              have HB3 := Lib.hid hb
              have hsz3 : (strOf ((numsB M).flatten ++ List.replicate j 120)).size ≤ 80 := by
                rw [strOf_size, List.length_append, List.length_replicate]
                rw [← HY.out, strOf_size] at hsz2
                omega
              clear hb
              by_cases hlt : j < p
              · have hji : (j : Int) < (p : Int) := by omega
                have HJ : Hid (strOf ((numsB M).flatten ++ List.replicate j 120) ++ (⟨#[120]⟩ : ByteArray) = strOf ((numsB M).flatten ++ List.replicate (j + 1) 120)) := Lib.hid (by
                  rw [show (⟨#[120]⟩ : ByteArray) = strOf [120] from rfl, strOf_app, List.replicate_succ', List.append_assoc])
                generalize hz : strOf ((numsB M).flatten ++ List.replicate j 120) = z at *
                have HZ := Lib.hid hz
                clear hz
                go_wp2_with fail
                go_roundw
                case rel => exact ⟨j + 1, by omega, by go_num, by rw [HJ.out], HB3.out⟩
                case measure => simp [intOf]; omega
              · have hje : j = p := by omega
                rw [hje] at hsz3
                rw [hje]
                have hpi : (p : Int) ≤ (p : Int) := Int.le_refl _
                clear hlt hje
                generalize hz : strOf ((numsB M).flatten ++ List.replicate p 120) = z at *
                have HZ := Lib.hid hz
                clear hz hj
                have HED := Lib.hid (edit_any (k : Int) (d : Int) p (by omega) wr)
                go_wp2_with (go_at_call 24; refine HED.out.mono ?_; rintro e w6 ⟨A, n, c, rfl, hpo, hb6⟩; have HPO := Lib.hid hpo; have HB6 := Lib.hid hb6; clear hpo hb6)
                obtain ⟨W7, hW7⟩ : ∃ W7, w6.alloc (.cells #[.int .i64 (k : Int), .int .i64 (d : Int), .slice A n c] 43) = W7 := ⟨_, rfl⟩
                rw [hW7]
                have hz7 : W7.heap.size = w6.heap.size + 1 := by rw [← hW7]; simp
                have hb7 : Below w6.heap.size w6 W7 := by rw [← hW7]; exact (Below.refl _ w6).alloc (Nat.le_refl _) _
                have hk7 : Blk W7 w6.heap.size [.int .i64 (k : Int), .int .i64 (d : Int), .slice A n c] 43 := by rw [← hW7]; exact Blk.new w6 _ _
                have hEa : EdsAt W7 0 W7.heap.size (some ⟨w6.heap.size, 0, none⟩) [⟨(k : Int), (d : Int), List.replicate p [120]⟩] := by
                  intro _
                  refine ⟨w6.heap.size, 0, rfl, Nat.zero_le _, by omega, fun j hj => ?_⟩
                  obtain rfl : j = 0 := by simpa using hj
                  obtain ⟨PA, pc, e1, e2, e3⟩ := HPO.out.at_ (Nat.le_refl w6.heap.size)
                  refine ⟨hk7.cell 0, hk7.cell 1, PA, pc, ?_, e2, (e3.below hb7 (Nat.le_refl _)).wide (Nat.zero_le _) (by omega)⟩
                  have e4 := hk7.cell 2
                  simp only [List.getElem?_cons_zero, List.getElem?_cons_succ] at e4
                  rw [e4]
                  exact congrArg some e1
                have hxl : x.data.toList = (numsB m).flatten := by rw [← HX.out, strOf_data]
                have hxs : x.size ≤ 1048576 := by omega
                have hA := apply_any x (some ⟨w6.heap.size, 0, none⟩) 1 [⟨(k : Int), (d : Int), List.replicate p [120]⟩] W7 hEa hxs (by simp [putSum, rep_flat]; omega) (by simp) (by simp; omega)
                rw [hxl, numsB_lines m (by omega), apply_one, numsB_len, rep_flat, numsB_take] at hA
                have HB7 := Lib.hid (((HB3.out.call HB6.out).call hb7))
                by_cases hkd : k + d = m
                · have hMk : min k m = M := HM.out.symm
                  rw [if_pos hkd, hMk] at hA
                  have hval : applyV (some ((numsB M).flatten ++ List.replicate p 120)) = .tuple #[.string z, .int .i64 0] := by
                    unfold applyV
                    rw [← HZ.out]
                    rfl
                  rw [hval] at hA
                  have HA := Lib.hid hA
                  have hkd2 : ((k : Int) + (d : Int) != (m : Int)) = false := by simp; omega
                  have hse : (z.toList == z.toList) = true := by simp
                  have HKD := Lib.hid hkd
                  clear hA hval hkd hEa hk7 hb7 hW7 hxl hMk
                  refine HA.out.mono ?_
                  rintro e w8 ⟨rfl, hb8⟩
                  have HB8 := Lib.hid (HB7.out.call hb8)
                  clear hb8
                  go_wp2_with (go_at_call 12; refine (num_any _ _).mono ?_; rintro e w9 ⟨rfl, rfl⟩)
                  go_ret
                  exact ⟨rfl, HB8.out⟩
                · rw [if_neg hkd] at hA
                  have hval : applyV none = .tuple #[.string ⟨#[]⟩, .int .i64 2401] := rfl
                  rw [hval] at hA
                  have HA := Lib.hid hA
                  have hkd2 : ((k : Int) + (d : Int) != (m : Int)) = true := by simp only [bne_iff_ne, ne_eq]; omega
                  have HKD := Lib.hid hkd
                  clear hA hval hkd hEa hk7 hb7 hW7 hxl
                  refine HA.out.mono ?_
                  rintro e w8 ⟨rfl, hb8⟩
                  have HB8 := Lib.hid (HB7.out.call hb8)
                  clear hb8
                  go_wp2_with (go_at_call 12; refine (num_any _ _).mono ?_; rintro e w9 ⟨rfl, rfl⟩)
                  go_ret
                  exact ⟨rfl, HB8.out⟩
theorem editsAll_call (z1 z2 z3 z4 : Int) (w : World) (h1 : (Lit.int .i64 z1).wf = true) (h2 : (Lit.int .i64 z2).wf = true) (h3 : (Lit.int .i64 z3).wf = true) (h4 : (Lit.int .i64 z4).wf = true) :
    Calls Try.prog 8 #[.int .i64 z1, .int .i64 z2, .int .i64 z3, .int .i64 z4] w fun e w' => e = .returned (.bool true) ∧ Below w.heap.size w w' := by
  obtain ⟨m, hm, b1⟩ := and_small z1 15 (by omega)
  obtain ⟨k, hk, b2⟩ := and_small z2 15 (by omega)
  obtain ⟨d, hd, b3⟩ := and_small z3 15 (by omega)
  obtain ⟨p, hp, b4⟩ := and_small z4 3 (by omega)
  exact editsAll_walk z1 z2 z3 z4 m k d p hm hk hd hp b1 b2 b3 b4 w
end Go.Proofs.Ytakolehlaejhfaa
