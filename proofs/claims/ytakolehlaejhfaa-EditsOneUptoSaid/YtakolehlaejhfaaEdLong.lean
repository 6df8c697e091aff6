/- platenlaw24.kept, longest. -/
import Derived.Test.YtakolehlaejhfaaEdSame
import Derived.Test.YtakolehlaejhfaaEdLongPlain
import Derived.LoopTactic
namespace Go.Proofs.Ytakolehlaejhfaa
open Go.RowKit
set_option maxRecDepth 100000
set_option linter.unusedVariables false
set_option linter.unusedSimpArgs false

theorem keptB_snoc (es : List Ed) (e : Ed) : keptB (es ++ [e]) = keptB es + e.keep := by simp [keptB]
theorem keptB_bd : ∀ (es : List Ed), (∀ e ∈ es, 0 ≤ e.keep ∧ e.keep ≤ 2000000) → 0 ≤ keptB es ∧ keptB es ≤ 2000000 * es.length
  | [], _ => by simp [keptB]
  | e :: es, h => by
    have h1 := keptB_bd es (fun x hx => h x (by simp [hx]))
    have h2 := h e (by simp)
    simp only [keptB, List.map_cons, List.sum_cons, List.length_cons] at h1 ⊢
    omega
set_option maxHeartbeats 1000000 in
theorem kept_any (A : Option Addr) (c : Nat) (es : List Ed) (lo hi : Nat) (w : World) (hE : EdsAt w lo hi A es) (hb : ∀ e ∈ es, 0 ≤ e.keep ∧ e.keep ≤ 2000000) (hl : es.length ≤ 2000000) :
    Calls Try.prog 19 #[.slice A es.length c] w fun e w' => e = .returned (.int .i64 (keptB es)) ∧ w = w' := by
  have HE := Lib.hid hE
  have HB := Lib.hid hb
  clear hE hb
  go_enter Try.func19, Try.ntmps19
  go_wp2_with fail
  go_loop [3, 4] (fun s i => ∃ j : Nat, j ≤ es.length ∧ i = .int .i64 (j : Int) ∧ s = .int .i64 (keptB (es.take j))) (fun _ i => es.length - (intOf i).toNat)
  case atStart => exact ⟨0, Nat.zero_le _, rfl, by simp [keptB]⟩
  case round =>
    obtain ⟨j, hj, rfl, rfl⟩ := hrel
    have hbd := keptB_bd (es.take j) (fun e he => HB.out e (List.mem_of_mem_take he))
    have hln : ((es.take j).length : Int) ≤ 2000000 := by rw [List.length_take]; omega
    by_cases hlt : j < es.length
    · obtain ⟨b, o, eA, _, _, k1, _⟩ := HE.out.at_ hlt
      have hx := HB.out _ (List.getElem_mem hlt)
      have hsn : keptB (es.take (j + 1)) = keptB (es.take j) + (es[j]'hlt).keep := by rw [List.take_succ_eq_append_getElem hlt, keptB_snoc]
      have HSN := Lib.hid hsn
      generalize es[j]'hlt = x at *
      subst eA
      have hji : (j : Int) < (es.length : Int) := by omega
      have h1 : 0 ≤ keptB (es.take j) := hbd.1
      have h2 : keptB (es.take j) ≤ 4000000000000 := by omega
      obtain ⟨h3, h4⟩ := hx
      clear hsn hbd hln
      generalize keptB (es.take j) = S at *
      go_wp2_with fail
      go_round
      case rel => exact ⟨j + 1, by omega, by go_num, by rw [HSN.out]⟩
      case measure => simp [intOf]; omega
    · have hje : j = es.length := by omega
      have hji : (es.length : Int) ≤ (j : Int) := by omega
      have HJ := Lib.hid hje
      clear hje hbd hln
      go_wp2_with fail
      go_ret
      exact ⟨ret_int (by rw [HJ.out, List.take_length]), rfl⟩

/-- At the address A lie these numbers. -/
def NumAt (w : World) (A : Option Addr) (zs : List Nat) : Prop :=
  zs ≠ [] → ∃ b off, A = some ⟨b, off, none⟩ ∧ ∀ j, (hj : j < zs.length) → w.cell? ⟨b, off + j, none⟩ = some (.int .i64 (zs[j] : Int))
theorem NumAt.tail {w : World} {A : Option Addr} {x : Nat} {xs : List Nat} (h : NumAt w A (x :: xs)) (c : Nat) (hc : xs.length + 1 ≤ c) : NumAt w (if c = 1 then A else A.map (·.add (1 * 1))) xs := by
  intro hne
  obtain ⟨b, off, rfl, h1⟩ := h (by simp)
  have hl := List.length_pos_iff.2 hne
  rw [if_neg (by omega)]
  refine ⟨b, off + 1, by simp only [Option.map_some, Nat.mul_one]; unfold Addr.add; split <;> simp_all, fun j hj => ?_⟩
  have := h1 (j + 1) (by simp; omega)
  rw [Nat.add_assoc, Nat.add_comm 1 j]
  simpa using this
theorem NumAt.drewN {w : World} {A : Option Addr} {zs : List Nat} (h : NumAt w A zs) (n : Nat) : NumAt (w.drewN n) A zs := h

set_option maxHeartbeats 4000000 in
theorem longest_any : ∀ (f : Nat) (xs ys : List Nat) (A1 A2 : Option Addr) (c1 c2 : Nat) (w : World), xs.length + ys.length ≤ f → xs.length ≤ c1 → ys.length ≤ c2 → xs.length ≤ 100 → ys.length ≤ 100 → NumAt w A1 xs → NumAt w A2 ys →
    Calls Try.prog 23 #[.slice A1 xs.length c1, .slice A2 ys.length c2] w fun e w' => e = .returned (.int .i64 (lng xs ys : Nat)) ∧ ∃ n, w' = w.drewN n := by
  intro f
  induction f with
  | zero =>
    intro xs ys A1 A2 c1 c2 w hf h1 h2 h3 h4 hA hB
    have e1 : xs = [] := List.length_eq_zero_iff.1 (by omega)
    subst e1
    have hz : ([] : List Nat).length = 0 := rfl
    rw [hz]
    go_enter Try.func23, Try.ntmps23
    go_wp2_with fail
    go_ret
    exact ⟨rfl, 0, rfl⟩
  | succ f ih =>
    intro xs ys A1 A2 c1 c2 w hf h1 h2 h3 h4 hA hB
    cases xs with
    | nil =>
      have hz : ([] : List Nat).length = 0 := rfl
      rw [hz]
      clear ih hA hB
      go_enter Try.func23, Try.ntmps23
      go_wp2_with fail
      go_ret
      exact ⟨rfl, 0, rfl⟩
    | cons x xs =>
      cases ys with
      | nil =>
        rw [show (x :: xs).length = xs.length + 1 from rfl, show ([] : List Nat).length = 0 from rfl]
        have hp : ((xs.length : Int) + 1 == 0) = false := by simp; omega
        clear ih hA hB
        go_enter Try.func23, Try.ntmps23
        go_wp2_with fail
        go_ret
        exact ⟨rfl, 0, rfl⟩
      | cons y ys =>
        simp only [List.length_cons] at *
        obtain ⟨b1, o1, e1, k1⟩ := hA (by simp)
        obtain ⟨b2, o2, e2, k2⟩ := hB (by simp)
        have m1 := k1 0 (by simp)
        have m2 := k2 0 (by simp)
        simp only [List.getElem_cons_zero, Nat.add_zero] at m1 m2
        obtain ⟨A1', hA1'⟩ : ∃ A', A' = (if c1 = 1 then A1 else A1.map (·.add (1 * 1))) := ⟨_, rfl⟩
        obtain ⟨A2', hA2'⟩ : ∃ A', A' = (if c2 = 1 then A2 else A2.map (·.add (1 * 1))) := ⟨_, rfl⟩
        have t1 : NumAt w A1' xs := by rw [hA1']; exact hA.tail c1 h1
        have t2 : NumAt w A2' ys := by rw [hA2']; exact hB.tail c2 h2
        have hel : Try.prog.elem 46 = 3 := by kernel_rfl
        have s1 : ∀ W, (Instr.slice 46 (.slice A1 (xs.length + 1) c1) (some (.int .i64 1)) none none).run Try.prog W = .ok (.slice A1' xs.length (c1 - 1)) W := by
          intro W
          rw [run_slice_l _ _ _ _ _ (by kernel_rfl) _ _ (by omega) (by omega), hel, Try.sizeOf3]
          simp [sliced, Result.andThen, hA1']
        have s2 : ∀ W, (Instr.slice 46 (.slice A2 (ys.length + 1) c2) (some (.int .i64 1)) none none).run Try.prog W = .ok (.slice A2' ys.length (c2 - 1)) W := by
          intro W
          rw [run_slice_l _ _ _ _ _ (by kernel_rfl) _ _ (by omega) (by omega), hel, Try.sizeOf3]
          simp [sliced, Result.andThen, hA2']
        have r1 := Lib.hid (fun n => ih xs ys A1' A2' (c1 - 1) (c2 - 1) (w.drewN n) (by omega) (by omega) (by omega) (by omega) (by omega) t1 t2)
        have r2 := Lib.hid (fun n => ih xs (y :: ys) A1' A2 (c1 - 1) c2 (w.drewN n) (by simp only [List.length_cons]; omega) (by omega) (by simpa using h2) (by omega) (by simpa using h4) t1 hB)
        have r3 := Lib.hid (fun n => ih (x :: xs) ys A1 A2' c1 (c2 - 1) (w.drewN n) (by simp only [List.length_cons]; omega) (by simpa using h1) (by omega) (by simpa using h3) (by omega) hA t2)
        simp only [List.length_cons] at r2 r3
        have hlc := lng_cons x y xs ys
        have hq1 := lng_le xs ys
        have hq2 := lng_le xs (y :: ys)
        have hq3 := lng_le (x :: xs) ys
        simp only [List.length_cons] at hq3
        have HLC := Lib.hid hlc
        generalize lng xs ys = v1 at *
        generalize lng xs (y :: ys) = v2 at *
        generalize lng (x :: xs) ys = v3 at *
        subst e1 e2
        clear hA hB ih k1 k2 t1 t2 hA1' hA2' hlc hel
        have hp1 : ((xs.length : Int) + 1 == 0) = false := by simp; omega
        have hp2 : ((ys.length : Int) + 1 == 0) = false := by simp; omega
        have i1 : (0 : Int) < (xs.length : Int) + 1 := by omega
        have i2 : (0 : Int) < (ys.length : Int) + 1 := by omega
        by_cases hxy : x = y
        · have hse : ((x : Int) == (y : Int)) = true := by simp [hxy]
          have hsum : IntKind.i64.wrap (1 + (v1 : Int)) = 1 + (v1 : Int) := IntWalk.i64_in _ (by omega)
          have HXY := Lib.hid hxy
          have HSUM := Lib.hid hsum
          clear hxy hsum
          go_enter Try.func23, Try.ntmps23
          go_wp2_with fail
          go_quiet (fail)
          go_wp2_with fail
          have hsum := HSUM.out
          go_quiet ((go_at_call 23; refine (r1.out _).mono ?_; rintro e w2 ⟨rfl, q, rfl⟩; exact ⟨rfl, _, by rw [World.drewN_drewN, Nat.add_assoc]⟩))
          clear hsum
          go_wp2_with fail
          go_ret
          exact ⟨ret_int (by rw [HLC.out, if_pos HXY.out]; omega), _, by first | rfl | rw [World.drewN_drewN]⟩
        · have hse : ((x : Int) == (y : Int)) = false := by simp; omega
          obtain ⟨mx, hmx⟩ : ∃ z, z = max v2 v3 := ⟨_, rfl⟩
          have hmr : (if v2 < v3 then (v3 : Int) else (v2 : Int)) = (mx : Int) := by rw [hmx]; split <;> omega
          have HMX := Lib.hid hmx
          have HXY := Lib.hid hxy
          have HMR := Lib.hid hmr
          clear hxy hmx hmr
          go_enter Try.func23, Try.ntmps23
          go_wp2_with fail
          go_quiet (fail)
          go_wp2_with fail
          have hmr := HMR.out
          go_quiet (first
            | (go_at_call 23; (with_reducible refine (r2.out _).mono ?_); rintro e w2 ⟨rfl, q, rfl⟩; exact ⟨rfl, _, by rw [World.drewN_drewN, Nat.add_assoc]⟩)
            | (go_at_call 23; (with_reducible refine (r3.out _).mono ?_); rintro e w2 ⟨rfl, q, rfl⟩; exact ⟨rfl, _, by rw [World.drewN_drewN, Nat.add_assoc]⟩))
          clear hmr
          go_wp2_with fail
          go_ret
          exact ⟨ret_int (by rw [HLC.out, if_neg HXY.out]; omega), _, by first | rfl | rw [World.drewN_drewN]⟩
end Go.Proofs.Ytakolehlaejhfaa
