/- The walks of the reference's words and operators. -/
import Derived.Test.YtidekaeccillhaaRows
import Derived.Test.YtidekaeccillhaaRowsMem
namespace Go.Proofs.Ytidekaeccillhaa
open Go.RowKit
set_option maxRecDepth 100000
set_option linter.unusedVariables false

theorem has_any (s : ByteArray) (b n c : Nat) (xs : List ByteArray) (w : World) (hn : xs.length = n) (hbig : n ≤ 1000) (hc : ∀ j, j < n → w.cell? ⟨b, j, none⟩ = some (.string (xs.getD j default))) :
    Calls Try.prog 18 #[.slice (some ⟨b, 0, none⟩) n c, .string s] w fun e w' => e = .returned (.bool (hasB xs s)) ∧ w = w' := by
  have HN := Lib.hid hn
  have HC := Lib.hid hc
  clear hn hc
  go_enter Try.func18, Try.ntmps18
  go_wp2
  go_loop [5] (fun i => ∃ k : Nat, k ≤ n ∧ i = .int .i64 (k : Int) ∧ hasB (xs.drop k) s = hasB xs s) (fun i => n - (intOf i).toNat)
  case atStart => exact ⟨0, by omega, rfl, by simp⟩
  case round =>
    obtain ⟨k, hk, rfl, hin⟩ := hrel
    have HIN := Lib.hid hin
    clear hin
    by_cases hlt : k < n
    · have c0 : w.cell? ⟨b, k, none⟩ = some (.string (xs.getD k default)) := HC.out _ (by omega)
      have HS := hasB_drop s k xs (by rw [HN.out]; exact hlt)
      rw [← ByteArray.toList_eq, ← ByteArray.toList_eq] at HS
      have HS := Lib.hid HS
      generalize xs.getD k default = x at *
      cases h0 : (x.toList == s.toList)
      · go_wp2
        go_round
        case rel => exact ⟨k + 1, by omega, by go_num, by rw [← HIN.out, HS.out, h0]; rfl⟩
        case measure => simp [intOf]; omega
      · go_wp2
        go_ret
        refine ⟨ret_bool ?_, rfl⟩
        rw [← HIN.out, HS.out, h0]; rfl
    · go_wp2
      go_ret
      refine ⟨ret_bool ?_, rfl⟩
      rw [← HIN.out, List.drop_of_length_le (by rw [HN.out]; omega)]
      rfl

set_option maxHeartbeats 4000000 in
theorem refReserved_any (s : ByteArray) (m : Bool) (w : World) :
    Calls Try.prog 8 #[.string s, .bool m] w fun e w' => e = .returned (.bool (resB s m)) ∧ Below w.heap.size w w' := by
  have hw : (s.toList == [97, 119, 97, 105, 116]) = (s.data.toList == awaitB.data.toList) := by rw [ByteArray.toList_eq]; rfl
  have HR : Hid (resB s m = ((m && (s.data.toList == awaitB.data.toList)) || hasB words s)) := Lib.hid rfl
  cases m
  · have HR : Hid (resB s false = hasB words s) := Lib.hid (by rw [HR.out]; rfl)
    clear hw
    go_enter Try.func8, Try.ntmps8
    go_wp2_with (go_at_call 18; refine (has_any s w.heap.size 45 45 words _ rfl (by decide) (by exact cells_newS _ _ words)).mono ?_; rintro e w1 ⟨rfl, rfl⟩)
    go_ret
    exact ⟨ret_bool HR.out.symm, (Below.refl _ w).alloc (Nat.le_refl _) _⟩
  · rw [← hw] at HR
    clear hw
    cases ha : (s.toList == [97, 119, 97, 105, 116])
    · have HR : Hid (resB s true = hasB words s) := Lib.hid (by rw [HR.out, ha]; rfl)
      go_enter Try.func8, Try.ntmps8
      go_wp2_with (go_at_call 18; refine (has_any s w.heap.size 45 45 words _ rfl (by decide) (by exact cells_newS _ _ words)).mono ?_; rintro e w1 ⟨rfl, rfl⟩)
      go_ret
      exact ⟨ret_bool HR.out.symm, (Below.refl _ w).alloc (Nat.le_refl _) _⟩
    · have HR : Hid (resB s true = true) := Lib.hid (by rw [HR.out, ha]; rfl)
      go_enter Try.func8, Try.ntmps8
      go_wp2_with fail
      go_ret
      exact ⟨ret_bool HR.out.symm, Below.refl _ w⟩

theorem refRight_any (s : ByteArray) (w : World) :
    Calls Try.prog 12 #[.string s] w fun e w' => e = .returned (.bool (rightB s)) ∧ w = w' := by
  go_enter Try.func12, Try.ntmps12
  go_wp2
  go_ret
  exact ⟨ret_bool (by rw [ByteArray.toList_eq]; rfl), rfl⟩

theorem levels_any (w : World) :
    Calls Try.prog 19 #[] w fun e w' => e = .returned (.slice (some ⟨w.heap.size + 12, 0, none⟩) 12 12) ∧ RowsAt w' (w.heap.size + 12) w.heap.size levRows ∧ Below w.heap.size w w' := by
  go_enter Try.func19, Try.ntmps19
  go_wp2
  go_ret
  refine ⟨rfl, rowsAt_build 9 26 w levRows, ?_⟩
  exact (buildRows_below 9 levRows w).1.alloc (by rw [(buildRows_below 9 levRows w).2]; omega) _

theorem refLevel_any (s : ByteArray) (w : World) :
    Calls Try.prog 10 #[.string s] w fun e w' => e = .returned (.int .i64 (levB s : Nat)) ∧ Below w.heap.size w w' := by
  go_enter Try.func10, Try.ntmps10
  go_wp2_with (go_at_call 19; refine (levels_any w).mono ?_; rintro e w1 ⟨rfl, hrow, hb1⟩; have HROW := Lib.hid hrow; clear hrow)
  go_loop [4] (fun i => ∃ k : Nat, k ≤ 12 ∧ i = .int .i64 (k : Int) ∧ levFrom s (levRows.drop k) k = levB s) (fun i => 12 - (intOf i).toNat)
  case atStart => exact ⟨0, by omega, rfl, rfl⟩
  case round =>
    obtain ⟨k, hk, rfl, hin⟩ := hrel
    have HIN := Lib.hid hin
    clear hin
    by_cases hlt : k < 12
    · obtain ⟨c0, c1⟩ := HROW.out k hlt
      have HS := Lib.hid (levFrom_drop s k k levRows hlt)
      have hlen : ∀ k, k < 12 → (levRows.getD k []).length ≤ 1000 := by decide
      have hl := hlen k hlt
      clear hlen
      generalize levRows.getD k [] = row at *
      have HC := Lib.hid c1
      clear c1
      cases h0 : hasB row s
      · go_wp2_with (go_at_call 18; refine (has_any s (w.heap.size + k) row.length row.length row _ rfl hl HC.out).mono ?_; rintro e w1 ⟨rfl, rfl⟩)
        go_round
        case rel => exact ⟨k + 1, by omega, by go_num, by rw [← HIN.out, HS.out, h0]; rfl⟩
        case measure => simp [intOf]; omega
      · go_wp2_with (go_at_call 18; refine (has_any s (w.heap.size + k) row.length row.length row _ rfl hl HC.out).mono ?_; rintro e w1 ⟨rfl, rfl⟩)
        go_ret
        exact ⟨ret_int (by rw [← HIN.out, HS.out, h0]; rfl), hb1⟩
    · go_wp2
      go_ret
      refine ⟨ret_int ?_, hb1⟩
      rw [← HIN.out, show k = 12 by omega]
      rfl
end Go.Proofs.Ytidekaeccillhaa
