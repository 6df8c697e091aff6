/- EditsBack: the walk. -/
import Derived.Test.YtakolehlaejhfaaRefLines
import Derived.Test.YtakolehlaejhfaaEdBackPlain
import Derived.Test.YtakolehlaejhfaaEdAwake
import Derived.Test.YtakolehlaejhfaaEdLong
namespace Go.Proofs.Ytakolehlaejhfaa
open Go.RowKit
set_option maxRecDepth 100000
set_option linter.unusedVariables false
set_option linter.unusedSimpArgs false

set_option maxHeartbeats 4000000 in
theorem editsBack_big (x y : ByteArray) (w : World) (hx : x.size ≤ 1048576) (hy : y.size ≤ 1048576) (hbig : 1024 < (linesB x.data.toList).length ∨ 1024 < (linesB y.data.toList).length) :
    Calls Try.prog 5 #[.string x, .string y] w fun e w' => e = .returned (.bool true) ∧ Below w.heap.size w w' := by
  have H1 := Lib.hid (fun w => script_big x y w hx hy hbig)
  have H2 := Lib.hid (fun w => script_big y x w hy hx hbig.symm)
  have H3 : Hid (∀ w, Calls Try.prog 9 #[.string x, .string x] w fun e w' => (∃ v n, e = .returned (.tuple #[v, .int .i64 n])) ∧ Below w.heap.size w w') := Lib.hid (fun w => by
    by_cases h : (linesB x.data.toList).length ≤ 1024
    · refine (script_any x x w hx hx h h).mono ?_
      rintro e w' ⟨v, es, rfl, _, _, _, hb⟩
      exact ⟨⟨v, 0, rfl⟩, hb⟩
    · refine (script_big x x w hx hx (by omega)).mono ?_
      rintro e w' ⟨rfl, hb⟩
      exact ⟨⟨_, _, rfl⟩, hb⟩)
  clear hbig
  go_enter Try.func5, Try.ntmps5
  go_wp2_with (go_at_call 14; refine (awake_any _).mono ?_; rintro e wk ⟨rfl, hbk⟩; have HBK := Lib.hid hbk; clear hbk)
  refine (H1.out wk).mono ?_
  rintro e w1 ⟨rfl, hb1⟩
  go_wp2_with fail
  refine (H2.out w1).mono ?_
  rintro e w2 ⟨rfl, hb2⟩
  go_wp2_with fail
  refine (H3.out w2).mono ?_
  rintro e w3 ⟨⟨v3, n3, rfl⟩, hb3⟩
  have HB := Lib.hid (((HBK.out.call hb1).call hb2).call hb3)
  clear hb1 hb2 hb3 H1 H2 H3
  go_wp2_with (go_at_call 12; refine (num_any _ _).mono ?_; rintro e w9 ⟨rfl, rfl⟩)
  all_goals (go_ret; exact ⟨rfl, HB.out⟩)

set_option maxHeartbeats 600000 in
theorem editsBack_small (x y : ByteArray) (w : World) (hx : x.size ≤ 1048576) (hy : y.size ≤ 1048576) (ha : (linesB x.data.toList).length ≤ 1024) (hb : (linesB y.data.toList).length ≤ 1024) :
    Calls Try.prog 5 #[.string x, .string y] w fun e w' => e = .returned (.bool true) ∧ Below w.heap.size w w' := by
  have S1 := Lib.hid (fun W => script_any x y W hx hy ha hb)
  have S2 := Lib.hid (fun W => script_any y x W hy hx hb ha)
  have S3 := Lib.hid (fun W => script_any x x W hx hx ha ha)
  have RL := Lib.hid (fun W => refLines_any x.data.toList W (by simpa using hx))
  rw [strOf_list] at RL
  have hfy : strOf (linesB y.data.toList).flatten = y := by rw [linesB_flat, strOf_list]
  have hyl : (linesB y.data.toList).flatten.length ≤ 1048576 := by rw [linesB_flat]; simpa using hy
  have AP0 := fun A c es W hE h1 h2 h3 => apply_any x A c es W hE hx h1 h2 h3
  generalize linesB x.data.toList = a at *
  generalize linesB y.data.toList = b at *
  have len_le : ∀ u v : List Ln, (scriptB u v).length ≤ u.length + 1 := fun u v => by
    have h5 := eds_len u.length v (pairsB u v 0 0) 0 0 0
    rw [pairsB_len] at h5
    have := lcs_le u v
    unfold scriptB
    omega
  have kk : ∀ u v : List Ln, u.length ≤ 1024 → ∀ (A : Option Addr) (c lo hi : Nat) (W : World), EdsAt W lo hi A (scriptB u v) → Calls Try.prog 19 #[.slice A (scriptB u v).length c] W fun e w' => e = .returned (.int .i64 (lcs u v : Nat)) ∧ W = w' := fun u v hu A c lo hi W hE => by
    obtain ⟨h1, h2⟩ := kept_script u v
    have := lcs_le u v
    have := len_le u v
    have h := kept_any A c (scriptB u v) lo hi W hE (fun e he => by have := h2 e he; omega) (by omega)
    rwa [h1] at h
  have KX := Lib.hid (kk a b ha)
  have KY := Lib.hid (kk b a hb)
  have KZ := Lib.hid (kk a a ha)
  rw [lcs_comm b a] at KY
  rw [lcs_self] at KZ
  have hAP : ∀ A c W, EdsAt W 0 W.heap.size A (scriptB a b) → Calls Try.prog 16 #[.string x, .slice A (scriptB a b).length c] W fun e w' => e = .returned (.tuple #[.string y, .int .i64 0]) ∧ Below W.heap.size W w' := fun A c W hE => by
    obtain ⟨p1, p2⟩ := put_script a b
    have := len_le a b
    have h := AP0 A c (scriptB a b) W hE (by omega) (by omega) (fun e he => by have := (p2 e he).1; omega)
    rw [apply_script a b] at h
    simp only [applyV, Option.getD_some, Option.isNone_some, hfy] at h
    simpa using h
  have AP := Lib.hid hAP
  have FM := Lib.hid (form_script a b)
  have hl1 := len_le a b
  have hz1 := script_self a
  have LEN := Lib.hid (fun e (he : e ∈ scriptB a b) => (put_script a b).2 e he)
  have hlc := lcs_le a b
  clear kk len_le hAP AP0 hfy hyl
  obtain ⟨E, hE0⟩ : ∃ E, E = scriptB a b := ⟨_, rfl⟩
  obtain ⟨F, hF0⟩ : ∃ F, F = scriptB b a := ⟨_, rfl⟩
  obtain ⟨G, hG0⟩ : ∃ G, G = scriptB a a := ⟨_, rfl⟩
  rw [← hE0] at KX AP FM hl1 LEN
  rw [← hF0] at KY
  rw [← hG0] at KZ hz1
  have E0 := Lib.hid hE0
  have F0 := Lib.hid hF0
  have G0 := Lib.hid hG0
  clear hE0 hF0 hG0
  generalize lcs a b = lc at *
  have hzi : (G.length : Int) ≤ 1 := by omega
  have hyy : (y.toList != y.toList) = false := by simp
  go_enter Try.func5, Try.ntmps5
  go_wp2_with (go_at_call 14; refine (awake_any _).mono ?_; rintro e wk ⟨rfl, hbk⟩; have HBK := Lib.hid hbk; clear hbk)
  refine (S1.out wk).mono ?_
  rintro e w1 ⟨v, es, rfl, hes, hown, hput, hb1⟩
  rw [← E0.out] at hes
  obtain ⟨A1, c1, rfl, hc1, hE1⟩ := out_eds hown hput
  rw [hes] at hE1
  have hle : es.length = E.length := by rw [← hes, List.length_map]
  rw [hle] at hc1 ⊢
  clear hown hput hes hle S1
  have HE1 := Lib.hid hE1
  have HB1 := Lib.hid hb1
  clear hE1 hb1
  go_wp2_with fail
  refine (S2.out w1).mono ?_
  rintro e w2 ⟨v, fs, rfl, hes, hown, hput, hb2⟩
  rw [← F0.out] at hes
  obtain ⟨A2, c2, rfl, hc2, hE2⟩ := out_eds hown hput
  rw [hes] at hE2
  have hle : fs.length = F.length := by rw [← hes, List.length_map]
  rw [hle] at hc2 ⊢
  clear hown hput hes hle S2
  have HE2 := Lib.hid hE2
  have HB2 := Lib.hid hb2
  clear hE2 hb2
  go_wp2_with fail
  refine (S3.out w2).mono ?_
  rintro e w3 ⟨v, gs, rfl, hes, hown, hput, hb3⟩
  rw [← G0.out] at hes
  obtain ⟨A3, c3, rfl, hc3, hE3⟩ := out_eds hown hput
  rw [hes] at hE3
  have hle : gs.length = G.length := by rw [← hes, List.length_map]
  rw [hle] at hc3 ⊢
  clear hown hput hes hle S3
  have hb2 := HB2.out
  have HX3 := Lib.hid ((HE1.out.below hb2 (Nat.le_refl _)).below hb3 hb2.size)
  have HY3 := Lib.hid (HE2.out.below hb3 (Nat.le_refl _))
  have HZ3 := Lib.hid hE3
  have HBW := Lib.hid (((HBK.out.call HB1.out).call hb2).call hb3)
  have HS3 := Lib.hid (show w1.heap.size ≤ w3.heap.size ∧ w2.heap.size ≤ w3.heap.size from ⟨Nat.le_trans hb2.size hb3.size, hb3.size⟩)
  clear hE3 hb2 hb3 HE1 HE2 HB1 HB2 HBK
  have HA := Lib.hid (AP.out A1 c1 w3 (HX3.out.wide (Nat.zero_le _) HS3.out.1))
  go_wp2_with (go_at_call 12; refine (num_any _ _).mono ?_; rintro e w9 ⟨rfl, rfl⟩)
  refine HA.out.mono ?_
  rintro e w4 ⟨rfl, hb4⟩
  have HX4 := Lib.hid (HX3.out.below hb4 HS3.out.1)
  have HY4 := Lib.hid (HY3.out.below hb4 HS3.out.2)
  have HZ4 := Lib.hid (HZ3.out.below hb4 (Nat.le_refl _))
  have HBW4 := Lib.hid (HBW.out.call hb4)
  have HS4 := Lib.hid hb4.size
  clear hb4 HX3 HY3 HZ3 HBW HA AP
  go_wp2_with (go_at_call 12; refine (num_any _ _).mono ?_; rintro e w9 ⟨rfl, rfl⟩)
  refine (KX.out A1 c1 _ _ w4 HX4.out).mono ?_
  rintro e w9 ⟨rfl, rfl⟩
  go_wp2_with fail
  refine (KY.out A2 c2 _ _ w4 HY4.out).mono ?_
  rintro e w9 ⟨rfl, rfl⟩
  go_wp2_with fail
  refine (KZ.out A3 c3 _ _ w4 HZ4.out).mono ?_
  rintro e w9 ⟨rfl, rfl⟩
  go_wp2_with fail
  refine (RL.out w4).mono ?_
  rintro e w5 ⟨A5, c5, rfl, hc5, ht5, hb5⟩
  have HX5 := Lib.hid (HX4.out.below hb5 (Nat.le_trans HS3.out.1 HS4.out))
  have HBW5 := Lib.hid (HBW4.out.call hb5)
  clear ht5 hb5 hc5 KX KY KZ RL HX4 HY4 HZ4 HBW4
  go_wp2_with fail
  go_loopw [13] (fun i wr => ∃ j n : Nat, j ≤ E.length ∧ i = .int .i64 (j : Int) ∧ wr = w5.drewN n) (fun i _ => E.length - (intOf i).toNat)
  case atStart => exact ⟨0, 0, Nat.zero_le _, rfl, rfl⟩
  case round =>
    obtain ⟨j, n, hj, rfl, rfl⟩ := hrel
    by_cases hlt : j < E.length
    · obtain ⟨b1, o1, e1, _, _, k1, k2, P1, p1, k3, hq1, t1⟩ := HX5.out.at_ hlt
      subst e1
      obtain ⟨f1, f2, f3, f4⟩ := FM.out j _ (List.getElem?_eq_getElem hlt)
      have f5 := LEN.out _ (List.getElem_mem hlt)
      generalize E[j]'hlt = x1 at *
      have hki : (j : Int) < (E.length : Int) := by omega
      have hkn : ¬ (x1.keep < 0) := by omega
      have hdn : ¬ (x1.drop < 0) := by omega
      have hpl : x1.put ≠ [] → x1.put.length ≠ 0 := fun h e => h (List.length_eq_zero_iff.1 e)
      have hj0 : (0 < (j : Int) ∧ (x1.keep == 0) = false) ∨ ((j : Int) ≤ 0) := by
        by_cases h : 0 < j
        · refine .inl ⟨by omega, ?_⟩
          have := f1 (.inl h)
          rw [beq_eq_false_iff_ne]; omega
        · exact .inr (by omega)
      have hl0 : ((j : Int) == (E.length : Int) - 1) = true ∨ (((j : Int) == (E.length : Int) - 1) = false ∧ (((x1.drop == 0) = false) ∨ ((x1.drop == 0) = true ∧ ((x1.put.length : Int) == 0) = false))) := by
        by_cases h : j + 1 = E.length
        · exact .inl (by rw [beq_iff_eq]; omega)
        · refine .inr ⟨by rw [beq_eq_false_iff_ne]; omega, ?_⟩
          by_cases hd : x1.drop = 0
          · refine .inr ⟨by rw [beq_iff_eq]; exact hd, ?_⟩
            have h1 : x1.put ≠ [] := by
              rcases f2 (by omega) with h2 | h2
              · omega
              · exact h2
            have := hpl h1
            rw [beq_eq_false_iff_ne]; omega
          · exact .inl (by rw [beq_eq_false_iff_ne]; exact hd)
      clear f1 f2 hpl t1
      rcases hj0 with ⟨hjp, hkz⟩ | hjz
      all_goals rcases hl0 with hlj | ⟨hlj, hdz | ⟨hdz, hpz⟩⟩
      all_goals
        go_wp2_with fail
        go_roundw
        case rel => exact ⟨j + 1, n, by omega, by go_num, rfl⟩
        case measure => simp [intOf]; omega
    · have hji : (E.length : Int) ≤ (j : Int) := by omega
      go_wp2_with fail
      go_ret
      exact ⟨rfl, below_drewN HBW5.out _⟩
end Go.Proofs.Ytakolehlaejhfaa
