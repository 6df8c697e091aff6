/- The laws' own words on texts and edits: SameTexts, SameEdits, Num, kept. -/
import Derived.Test.YtakolehlaejhfaaEdMem
import Derived.Test.YtakolehlaejhfaaRows
import Derived.WalkSmall
import Derived.Outline
import Derived.BigQuiet
import Derived.IntWalk
import Derived.Deep.QuietTactic
import Derived.Deep.Cut
namespace Go.Proofs.Ytakolehlaejhfaa
open Go.RowKit
set_option maxRecDepth 100000
set_option linter.unusedVariables false
set_option linter.unusedSimpArgs false

theorem str_ne' {x y : Ln} (h : x ≠ y) : ((strOf x).toList != (strOf y).toList) = true := by
  have := str_ne h
  simp only [bne, this, Bool.not_false]
theorem num_any (n : Int) (w : World) : Calls Try.prog 12 #[.int .i64 n] w fun e w' => e = .returned (.int .i64 n) ∧ w = w' := by
  go_enter Try.func12, Try.ntmps12
  go_wp2_with fail
  go_ret
  exact ⟨rfl, rfl⟩
theorem TxtAt.drewN {w : World} {lo hi : Nat} {A : Option Addr} {ls : List Ln} (h : TxtAt w lo hi A ls) (n : Nat) : TxtAt (w.drewN n) lo hi A ls := h
theorem EdsAt.drewN {w : World} {lo hi : Nat} {A : Option Addr} {es : List Ed} (h : EdsAt w lo hi A es) (n : Nat) : EdsAt (w.drewN n) lo hi A es := h

set_option maxHeartbeats 2000000 in
theorem same_texts (A1 A2 : Option Addr) (c1 c2 : Nat) (ls ms : List Ln) (lo1 hi1 lo2 hi2 : Nat) (w : World) (h1 : TxtAt w lo1 hi1 A1 ls) (h2 : TxtAt w lo2 hi2 A2 ms) (hl : ls.length ≤ 2000000) :
    Calls Try.prog 30 #[.slice A1 ls.length c1, .slice A2 ms.length c2] w fun e w' => e = .returned (.bool (decide (ls = ms))) ∧ ∃ n, w' = w.drewN n := by
  have H1 := Lib.hid h1
  have H2 := Lib.hid h2
  clear h1 h2
  by_cases hlen : ls.length = ms.length
  · have HLEN := Lib.hid hlen
    go_enter Try.func30, Try.ntmps30
    rw [← hlen]
    clear hlen
    go_wp2_with fail
    go_loopw [5] (fun i wr => ∃ k n : Nat, k ≤ ls.length ∧ i = .int .i64 (k : Int) ∧ wr = w.drewN n ∧ ls.take k = ms.take k) (fun i _ => ls.length - (intOf i).toNat)
    case atStart => exact ⟨0, 0, Nat.zero_le _, rfl, rfl, by simp⟩
    case round =>
      obtain ⟨k, n, hk, rfl, rfl, htk⟩ := hrel
      have HTK := Lib.hid htk
      clear htk
      by_cases hlt : k < ls.length
      · have hlt2 : k < ms.length := by have := HLEN.out; omega
        obtain ⟨b1, o1, e1, _, _, k1⟩ := H1.out.at_ hlt
        obtain ⟨b2, o2, e2, _, _, k2⟩ := H2.out.at_ hlt2
        subst e1 e2
        have hx := List.getElem?_eq_getElem hlt
        have hy := List.getElem?_eq_getElem hlt2
        generalize ls[k]'hlt = x at *
        generalize ms[k]'hlt2 = y at *
        have HX := Lib.hid hx
        have HY := Lib.hid hy
        have hki : (k : Int) < (ls.length : Int) := by omega
        have hkn : (k : Int) < (ms.length : Int) := by omega
        clear hx hy
        by_cases hxy : x = y
        · subst hxy
          have hse : ((strOf x).toList != (strOf x).toList) = false := by simp
          go_wp2_with fail
          go_quiet (fail)
          go_wp2_with fail
          go_roundw
          case rel =>
            refine ⟨k + 1, n + nq, by omega, by go_num, by first | rfl | rw [World.drewN_drewN], ?_⟩
            rw [List.take_add_one, List.take_add_one, HTK.out, HX.out, HY.out]
          case measure => simp [intOf]; omega
        · have hne := str_ne' hxy
          have hne0 := str_ne hxy
          have HXY := Lib.hid hxy
          clear hxy
          go_wp2_with fail
          go_quiet (fail)
          go_wp2_with fail
          go_ret
          refine ⟨ret_bool ?_, n + nq, by first | rfl | rw [World.drewN_drewN]⟩
          symm
          rw [decide_eq_false_iff_not]
          intro e
          have h3 := HX.out
          rw [e, HY.out] at h3
          exact HXY.out (Option.some.inj h3).symm
      · have hke : k = ls.length := by omega
        have hki : (ls.length : Int) ≤ (k : Int) := by omega
        have HKE := Lib.hid hke
        clear hke
        go_wp2_with fail
        go_ret
        refine ⟨ret_bool ?_, n, rfl⟩
        symm
        rw [decide_eq_true_eq]
        have := HTK.out
        rwa [HKE.out, List.take_length, HLEN.out, List.take_length] at this
  · have hne : ((ls.length : Int) != (ms.length : Int)) = true := by simp only [bne_iff_ne, ne_eq]; omega
    have HLEN := Lib.hid hlen
    clear hlen
    go_enter Try.func30, Try.ntmps30
    go_wp2_with fail
    go_ret
    refine ⟨ret_bool ?_, 0, rfl⟩
    symm
    rw [decide_eq_false_iff_not]
    exact fun e => HLEN.out (congrArg List.length e)

set_option maxHeartbeats 4000000 in
theorem same_eds (A1 A2 : Option Addr) (c1 c2 : Nat) (es fs : List Ed) (lo1 hi1 lo2 hi2 : Nat) (w : World) (h1 : EdsAt w lo1 hi1 A1 es) (h2 : EdsAt w lo2 hi2 A2 fs) (hl : es.length ≤ 2000000) (hp : ∀ e ∈ es, e.put.length ≤ 2000000) :
    Calls Try.prog 11 #[.slice A1 es.length c1, .slice A2 fs.length c2] w fun e w' => e = .returned (.bool (decide (es = fs))) ∧ ∃ n, w' = w.drewN n := by
  have H1 := Lib.hid h1
  have H2 := Lib.hid h2
  have HP := Lib.hid hp
  clear h1 h2 hp
  by_cases hlen : es.length = fs.length
  · have HLEN := Lib.hid hlen
    go_enter Try.func11, Try.ntmps11
    rw [← hlen]
    clear hlen
    go_wp2_with fail
    go_loopw [5] (fun i wr => ∃ k n : Nat, k ≤ es.length ∧ i = .int .i64 (k : Int) ∧ wr = w.drewN n ∧ es.take k = fs.take k) (fun i _ => es.length - (intOf i).toNat)
    case atStart => exact ⟨0, 0, Nat.zero_le _, rfl, rfl, by simp⟩
    case round =>
      obtain ⟨k, n, hk, rfl, rfl, htk⟩ := hrel
      have HTK := Lib.hid htk
      clear htk
      by_cases hlt : k < es.length
      · have hlt2 : k < fs.length := by have := HLEN.out; omega
        obtain ⟨b1, o1, e1, _, _, k1, k2, P1, p1, k3, hq1, t1⟩ := H1.out.at_ hlt
        obtain ⟨b2, o2, e2, _, _, m1, m2, P2, p2, m3, hq2, t2⟩ := H2.out.at_ hlt2
        subst e1 e2
        have hx := List.getElem?_eq_getElem hlt
        have hy := List.getElem?_eq_getElem hlt2
        have hpx := HP.out _ (List.getElem_mem hlt)
        generalize es[k]'hlt = x at *
        generalize fs[k]'hlt2 = y at *
        have HX := Lib.hid hx
        have HY := Lib.hid hy
        have HS := Lib.hid (fun n => same_texts P1 P2 p1 p2 x.put y.put lo1 hi1 lo2 hi2 (w.drewN n) t1 t2 hpx)
        have hki : (k : Int) < (es.length : Int) := by omega
        have hkn : (k : Int) < (fs.length : Int) := by omega
        have hno : Hid (x ≠ y → decide (es = fs) = false) := Lib.hid (fun hxy => by
          rw [decide_eq_false_iff_not]
          intro e
          rw [e, hy] at hx
          exact hxy (Option.some.inj hx).symm)
        clear hx hy t1 t2 hq1 hq2
        by_cases h1 : x.keep = y.keep
        · have d1 : (x.keep != y.keep) = false := by simpa using h1
          by_cases h2 : x.drop = y.drop
          · have d2 : (x.drop != y.drop) = false := by simpa using h2
            by_cases h3 : x.put = y.put
            · have hd : decide (x.put = y.put) = true := by simpa using h3
              have HXY : Hid (x = y) := Lib.hid (by cases x; cases y; simp_all)
              rw [hd] at HS
              clear hd h1 h2 h3
              go_wp2_with fail
              go_quiet ((go_at_call 30; refine (HS.out _).mono ?_; rintro e w'' ⟨rfl, q, rfl⟩; exact ⟨rfl, _, by rw [World.drewN_drewN, Nat.add_assoc]⟩))
              go_wp2_with fail
              go_roundw
              case rel =>
                refine ⟨k + 1, n + nq, by omega, by go_num, by first | rfl | rw [World.drewN_drewN], ?_⟩
                rw [List.take_add_one, List.take_add_one, HTK.out, HX.out, HY.out, HXY.out]
              case measure => simp [intOf]; omega
            · have hd : decide (x.put = y.put) = false := by simpa using h3
              have HN := Lib.hid (hno.out (fun e => h3 (by rw [e])))
              rw [hd] at HS
              clear hd h1 h2 h3
              go_wp2_with fail
              go_quiet ((go_at_call 30; refine (HS.out _).mono ?_; rintro e w'' ⟨rfl, q, rfl⟩; exact ⟨rfl, _, by rw [World.drewN_drewN, Nat.add_assoc]⟩))
              go_wp2_with fail
              go_ret
              exact ⟨ret_bool HN.out.symm, n + nq, by first | rfl | rw [World.drewN_drewN]⟩
          · have d2 : (x.drop != y.drop) = true := by simpa using h2
            have HN := Lib.hid (hno.out (fun e => h2 (by rw [e])))
            clear h1 h2
            go_wp2_with fail
            go_quiet (fail)
            go_wp2_with fail
            go_ret
            exact ⟨ret_bool HN.out.symm, n + nq, by first | rfl | rw [World.drewN_drewN]⟩
        · have d1 : (x.keep != y.keep) = true := by simpa using h1
          have HN := Lib.hid (hno.out (fun e => h1 (by rw [e])))
          clear h1
          go_wp2_with fail
          go_quiet (fail)
          go_wp2_with fail
          go_ret
          exact ⟨ret_bool HN.out.symm, n + nq, by first | rfl | rw [World.drewN_drewN]⟩
      · have hke : k = es.length := by omega
        have hki : (es.length : Int) ≤ (k : Int) := by omega
        have HKE := Lib.hid hke
        clear hke
        go_wp2_with fail
        go_ret
        refine ⟨ret_bool ?_, n, rfl⟩
        symm
        rw [decide_eq_true_eq]
        have := HTK.out
        rwa [HKE.out, List.take_length, HLEN.out, List.take_length] at this
  · have hne : ((es.length : Int) != (fs.length : Int)) = true := by simp only [bne_iff_ne, ne_eq]; omega
    have HLEN := Lib.hid hlen
    clear hlen
    go_enter Try.func11, Try.ntmps11
    go_wp2_with fail
    go_ret
    refine ⟨ret_bool ?_, 0, rfl⟩
    symm
    rw [decide_eq_false_iff_not]
    exact fun e => HLEN.out (congrArg List.length e)
end Go.Proofs.Ytakolehlaejhfaa
