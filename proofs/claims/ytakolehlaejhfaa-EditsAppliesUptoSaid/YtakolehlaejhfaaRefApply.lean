/- platenref24.Apply. -/
import Derived.Test.YtakolehlaejhfaaRefLines
import Derived.Test.YtakolehlaejhfaaEdApply
import Derived.Test.YtakolehlaejhfaaEdAllPlain
namespace Go.Proofs.Ytakolehlaejhfaa
open Go.RowKit
set_option maxRecDepth 100000
set_option linter.unusedVariables false
set_option linter.unusedSimpArgs false

theorem flat_memA {L : List Ln} {t : Ln} (h : t ∈ L) : t.length ≤ L.flatten.length := by
  induction L with
  | nil => simp at h
  | cons x xs ih =>
    rw [List.flatten_cons, List.length_append]
    rcases List.mem_cons.1 h with rfl | h
    · omega
    · have := ih h; omega
set_option maxHeartbeats 8000000 in
theorem refApply_any (l : Ln) (A : Option Addr) (c : Nat) (es : List Ed) (w : World) (hE : EdsAt w 0 w.heap.size A es) (hs : l.length ≤ 1048576) (hps : putSum es ≤ 1048576) (hes : es.length ≤ 1048576) (hpl : ∀ e ∈ es, e.put.length ≤ 1048576) :
    Calls Try.prog 17 #[.string (strOf l), .slice A es.length c] w fun e w' => e = .returned (applyV (applyB (linesB l) es)) ∧ Below w.heap.size w w' := by
  have HL := Lib.hid (refLines_any l w hs)
  have hfl := linesB_flat l
  have hnl := linesB_len l
  obtain ⟨L, hL⟩ : ∃ L, L = linesB l := ⟨_, rfl⟩
  rw [← hL] at HL hfl hnl ⊢
  have hLf : L.flatten.length ≤ 1048576 := by rw [hfl]; exact hs
  have hLl : L.length ≤ 1048576 := by omega
  have HE := Lib.hid hE
  have HPL := Lib.hid hpl
  clear hL hfl hnl hE hpl
  go_enter Try.func17, Try.ntmps17
  go_wp2_with fail
  refine HL.out.mono ?_
  rintro e w1 ⟨A1, c1, rfl, hc1, ht1, hb1⟩
  have hz1 := hb1.size
  have HT1 := Lib.hid (ht1.wide (Nat.zero_le _) (Nat.le_refl _))
  have HB1 := Lib.hid hb1
  have HE1 := Lib.hid ((HE.out.below hb1 (Nat.le_refl _)).wide (Nat.le_refl _) hz1)
  clear ht1 hb1 HL HE
  go_wp2_with fail
  go_loopw [7, 8, 9, 10, 11, 12] (fun i o k _ _ _ wr => ∃ (kk ii : Nat) (out : Ln), kk ≤ es.length ∧ ii ≤ L.length ∧ i = .int .i64 (ii : Int) ∧ k = .int .i64 (kk : Int) ∧ o = .string (strOf out) ∧
      applyB L es = (applyB (L.drop ii) (es.drop kk)).map (fun r => out ++ r) ∧ out.length + (L.drop ii).flatten.length + putSum (es.drop kk) ≤ 2097152 ∧ Below w1.heap.size w1 wr) (fun _ _ k _ _ _ _ => es.length - (intOf k).toNat)
  case atStart =>
    refine ⟨0, 0, [], Nat.zero_le _, Nat.zero_le _, rfl, rfl, rfl, ?_, by simp only [List.length_nil, List.drop_zero]; omega, Below.refl _ _⟩
    simp only [List.drop_zero]
    cases applyB L es <;> simp
  case round =>
    obtain ⟨j, ii, out, hj, hii, rfl, rfl, rfl, hap, hsum, hbe⟩ := hrel
    have HAP := Lib.hid hap
    have HBE := Lib.hid hbe
    have hlf : (L.drop ii).length = L.length - ii := List.length_drop
    by_cases hlt : j < es.length
    · have hdr := List.drop_eq_getElem_cons hlt
      obtain ⟨eb, eo, eA, _, hel, k1, k2, PA, pc, k3, hpc, hpt⟩ := (HE1.out.below hbe (Nat.le_refl _)).at_ hlt
      have hpl1 := HPL.out _ (List.getElem_mem hlt)
      generalize es[j]'hlt = E at *
      subst eA
      have HDR := Lib.hid hdr
      have HPT := Lib.hid hpt
      have hji : (j : Int) < (es.length : Int) := by omega
      clear hap hbe hdr hpt
      by_cases hbad : badE (L.drop ii).length E
      · have hr : applyB L es = none := by rw [HAP.out, HDR.out, applyB_bad hbad]; rfl
        have HR := Lib.hid hr
        rw [hlf] at hbad
        have hcase : E.keep < 0 ∨ (0 ≤ E.keep ∧ E.drop < 0) ∨ (0 ≤ E.keep ∧ 0 ≤ E.drop ∧ (L.length : Int) - (ii : Int) < E.keep) ∨ (0 ≤ E.keep ∧ 0 ≤ E.drop ∧ E.keep ≤ (L.length : Int) - (ii : Int) ∧ (L.length : Int) - (ii : Int) - E.keep < E.drop) := by
          unfold badE at hbad; omega
        clear hbad hr hlf
        rcases hcase with h1 | ⟨h1, h2⟩ | ⟨h1, h2, h3⟩ | ⟨h1, h2, h3, h4⟩
        all_goals
          go_wp2_with fail
          go_ret2
          refine ⟨by rw [HR.out]; rfl, ?_⟩
          have := HBE.out
          exact (HB1.out.call this).alloc (by have := this.size; omega) _
      · have hgood := applyB_good (es := es.drop (j + 1)) hbad
        rw [hlf] at hbad
        unfold badE at hbad
        obtain ⟨K, hK⟩ : ∃ K : Nat, E.keep = (K : Int) := ⟨E.keep.toNat, by omega⟩
        obtain ⟨D, hD⟩ : ∃ D : Nat, E.drop = (D : Int) := ⟨E.drop.toNat, by omega⟩
        rw [hK, hD] at hgood hbad
        rw [hK] at k1
        rw [hD] at k2
        simp only [Int.toNat_natCast] at hgood
        rw [List.drop_drop] at hgood
        have hKD : ii + (K + D) ≤ L.length := by omega
        have h1 : (0 : Int) ≤ (K : Int) := by omega
        have h2 : (0 : Int) ≤ (D : Int) := by omega
        have h3 : (K : Int) ≤ (L.length : Int) - (ii : Int) := by omega
        have h4 : (D : Int) ≤ (L.length : Int) - (ii : Int) - (K : Int) := by omega
        have HG := Lib.hid hgood
        have hps1 : putSum (es.drop j) = E.put.flatten.length + putSum (es.drop (j + 1)) := by rw [HDR.out]; simp [putSum]
        have hfp := flat_part (L.drop ii) K
        have hfd : (L.drop (ii + (K + D))).flatten.length ≤ ((L.drop ii).drop K).flatten.length := by
          have := flat_part ((L.drop ii).drop K) D
          rw [List.drop_drop, List.drop_drop] at this
          rw [List.drop_drop]
          rw [show ii + (K + D) = ii + K + D by omega]
          omega
        have hbig : out.length + ((L.drop ii).take K).flatten.length + E.put.flatten.length ≤ 2097152 := by omega
        have hnext : (out ++ ((L.drop ii).take K).flatten ++ E.put.flatten).length + (L.drop (ii + (K + D))).flatten.length + putSum (es.drop (j + 1)) ≤ 2097152 := by simp only [List.length_append]; omega
        have HBIG := Lib.hid hbig
        have HNEXT := Lib.hid hnext
        have HKE := Lib.hid (And.intro hK hD)
        clear hbad hgood hps1 hfp hfd hbig hnext hK hD hlf hsum
        obtain ⟨ex, hex⟩ : ∃ ex, ex = wr.heap.size := ⟨_, rfl⟩
        go_wp2_with fail
        rw [← hex]
        have hbx : Blk (wr.alloc (.cells #[.int .i64 (K : Int), .int .i64 (D : Int), .slice PA E.put.length pc] 43)) ex [.int .i64 (K : Int), .int .i64 (D : Int), .slice PA E.put.length pc] 43 := Blk.new' _ _ hex
        have hba : Below w1.heap.size w1 (wr.alloc (.cells #[.int .i64 (K : Int), .int .i64 (D : Int), .slice PA E.put.length pc] 43)) := HBE.out.alloc HBE.out.size _
        have HPA := Lib.hid (show TxtAt (wr.alloc (.cells #[.int .i64 (K : Int), .int .i64 (D : Int), .slice PA E.put.length pc] 43)) 0 w1.heap.size PA E.put from HPT.out.of (fun b _ hb => Below.heap_alloc wr _ b (by have := HBE.out.size; omega)))
        have HBA := Lib.hid hba
        have HTA := Lib.hid (HT1.out.below hba (Nat.le_refl _))
        have d0 := hbx.cell 0
        have d1 := hbx.cell 1
        have d2 := hbx.cell 2
        simp only [List.getElem?_cons_zero, List.getElem?_cons_succ] at d0 d1 d2
        clear hbx hba HPT HBE hex k1 k2 k3
        generalize wr.alloc (.cells #[.int .i64 (K : Int), .int .i64 (D : Int), .slice PA E.put.length pc] 43) = wx at *
        go_loop [8, 11] (fun o q => ∃ qq : Nat, qq ≤ K ∧ q = .int .i64 (qq : Int) ∧ o = .string (strOf (out ++ ((L.drop ii).take qq).flatten))) (fun _ q => K - (intOf q).toNat)
        case atStart => exact ⟨0, Nat.zero_le _, rfl, by simp⟩
        case round =>
          obtain ⟨q, hq, rfl, rfl⟩ := hrel
          have hob : ∀ q, q ≤ K → (strOf (out ++ ((L.drop ii).take q).flatten)).size ≤ 2097152 := fun q hq => by
            rw [strOf_size, List.length_append]
            have := flat_part ((L.drop ii).take K) q
            rw [List.take_take, Nat.min_eq_left hq] at this
            have := HBIG.out
            omega
          have HOB := Lib.hid hob
          clear hob
          by_cases hqK : q < K
          · have hql : ii + q < L.length := by omega
            obtain ⟨lb, lo, lA, _, hlb, hlc⟩ := HTA.out.at_ hql
            subst lA
            have hqi : (q : Int) < (K : Int) := by omega
            have hfq : ((L.drop ii).take (q + 1)).flatten = ((L.drop ii).take q).flatten ++ L[ii + q] := by
              rw [flat_take (L.drop ii) q (by rw [List.length_drop]; omega), List.getElem_drop]
            have hls : (strOf (L[ii + q]'hql)).size ≤ 1048576 := by
              rw [strOf_size]
              have := flat_memA (List.getElem_mem hql)
              omega
            have hos := HOB.out q (by omega)
            have HFQ := Lib.hid (show strOf (out ++ ((L.drop ii).take q).flatten) ++ strOf (L[ii + q]'hql) = strOf (out ++ ((L.drop ii).take (q + 1)).flatten) by rw [strOf_app, hfq, List.append_assoc])
            have s1 : ((ii : Int) + (q : Int)).toNat = ii + q := by omega
            have s2 : (ii : Int) + (q : Int) < (L.length : Int) := by omega
            clear hfq
            generalize strOf (L[ii + q]'hql) = y at *
            generalize strOf (out ++ ((L.drop ii).take q).flatten) = x at *
            go_wp2_with fail
            go_round
            case rel => exact ⟨q + 1, by omega, by go_num, by rw [HFQ.out]⟩
            case measure => simp [intOf]; omega
          · have hqe : q = K := by omega
            subst hqe
            have hqi : (q : Int) ≤ (q : Int) := Int.le_refl _
            clear hqK
            go_wp2_with fail
            go_loop [8, 12] (fun o p => ∃ pp : Nat, pp ≤ E.put.length ∧ p = .int .i64 (pp : Int) ∧ o = .string (strOf (out ++ ((L.drop ii).take q).flatten ++ (E.put.take pp).flatten))) (fun _ p => E.put.length - (intOf p).toNat)
            case atStart => exact ⟨0, Nat.zero_le _, rfl, by simp⟩
            case round =>
              obtain ⟨p, hp, rfl, rfl⟩ := hrel
              have hos : (strOf (out ++ ((L.drop ii).take q).flatten ++ (E.put.take p).flatten)).size ≤ 2097152 := by
                rw [strOf_size, List.length_append, List.length_append]
                have := flat_part E.put p
                have := HBIG.out
                omega
              by_cases hpK : p < E.put.length
              · obtain ⟨lb, lo, lA, _, hlb, hlc⟩ := HPA.out.at_ hpK
                subst lA
                have hpi : (p : Int) < (E.put.length : Int) := by omega
                have hls : (strOf (E.put[p]'hpK)).size ≤ 2097152 := by
                  rw [strOf_size]
                  have := flat_memA (List.getElem_mem hpK)
                  have := HBIG.out
                  omega
                have HFQ := Lib.hid (show strOf (out ++ ((L.drop ii).take q).flatten ++ (E.put.take p).flatten) ++ strOf (E.put[p]'hpK) = strOf (out ++ ((L.drop ii).take q).flatten ++ (E.put.take (p + 1)).flatten) by rw [strOf_app, flat_take E.put p hpK, List.append_assoc])
                generalize strOf (E.put[p]'hpK) = y at *
                generalize strOf (out ++ ((L.drop ii).take q).flatten ++ (E.put.take p).flatten) = x at *
                go_wp2_with fail
                go_round
                case rel => exact ⟨p + 1, by omega, by go_num, by rw [HFQ.out]⟩
                case measure => simp [intOf]; omega
              · have hpe : p = E.put.length := by omega
                have hpi : (E.put.length : Int) ≤ (p : Int) := by omega
                have HPE := Lib.hid hpe
                clear hpK hpe
                go_wp2_with fail
                go_roundw
                case rel =>
                  refine ⟨j + 1, ii + (q + D), out ++ ((L.drop ii).take q).flatten ++ E.put.flatten, by omega, by omega, by first | rfl | (congr 1; omega), by go_num, by rw [HPE.out, List.take_length], ?_, HNEXT.out, HBA.out⟩
                  rw [HAP.out, HDR.out, HG.out, Option.map_map]
                  congr 1
                  funext r
                  simp [List.append_assoc]
                case measure => simp [intOf]; omega
    · have hje : j = es.length := by omega
      rw [hje, List.drop_length] at hap
      have hji : (es.length : Int) ≤ (j : Int) := by omega
      clear hbe hje hlt hsum HAP
      by_cases hlf0 : ii = L.length
      · have hr : applyB L es = some out := by rw [hap, hlf0, List.drop_length]; simp [applyB]
        have hq0 : ((ii : Int) != (L.length : Int)) = false := by rw [hlf0]; simp
        have HR := Lib.hid hr
        clear hr hlf hap hlf0
        go_wp2_with fail
        go_ret2
        exact ⟨by rw [HR.out]; rfl, HB1.out.call HBE.out⟩
      · have hr : applyB L es = none := by
          rw [hap]; unfold applyB; rw [if_neg (by intro e; rw [e] at hlf; simp at hlf; omega)]; rfl
        have hq0 : ((ii : Int) != (L.length : Int)) = true := by rw [bne_iff_ne]; omega
        have HR := Lib.hid hr
        clear hr hlf hap hlf0
        go_wp2_with fail
        go_ret2
        exact ⟨by rw [HR.out]; rfl, HB1.out.call HBE.out⟩
end Go.Proofs.Ytakolehlaejhfaa
