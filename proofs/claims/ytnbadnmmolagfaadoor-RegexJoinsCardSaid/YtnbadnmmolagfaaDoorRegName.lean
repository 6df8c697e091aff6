/- Package regex: name (printed by gen_regname.py). -/
import Derived.Test.YtnbadnmmolagfaaDoorRegQuant
namespace Go.Proofs.YtnbadnmmolagfaaDoor
open Go.RowKit
set_option maxRecDepth 100000
set_option linter.unusedVariables false
set_option linter.unusedSimpArgs false

def nameStop (first : Bool) (r : Ln) : Prop := ((nextL r).2 = 0 || !partB (nextL r).1 || (first && !startB (nextL r).1)) = true
theorem nameR_stop {first : Bool} {r : Ln} (f : Nat) (h : nameStop first r) : nameR f first r = r := by
  unfold nameStop at h
  cases f with
  | zero => rfl
  | succ f => unfold nameR; rw [if_pos h]
theorem nameR_go {first : Bool} {r : Ln} {f : Nat} (hf : r.length ≤ f) (h : ¬ nameStop first r) : ∃ f', f = f' + 1 ∧ nameR f first r = nameR f' false (r.drop (nextL r).2) := by
  unfold nameStop at h
  cases f with
  | zero =>
    have : r = [] := List.eq_nil_of_length_eq_zero (by omega)
    subst this
    exact absurd rfl h
  | succ f => exact ⟨f, rfl, by conv => lhs; unfold nameR; rw [if_neg h]⟩

set_option maxHeartbeats 8000000 in
theorem name_any (b : Nat) (l : Ln) (u : Bool) (xs : List Value) (r : Ln) (w : World) (h : Rd b l u xs r w) (hl : l.length ≤ 4096) (hT : ∀ w1, w.grownBy w1 (some b) → Tabs w1) :
    Calls Tryd.prog 32 #[.pointer (some ⟨b, 0, none⟩)] w (Ends b l u xs w ((nameL r).map fun p => (.string (strOf p.1), p.2))) := by
  obtain ⟨k0, hk0, hd0, hb0⟩ := h
  have c1 := hb0.cell 1
  have H0 := Lib.hid (And.intro hk0 (And.intro hd0 hb0))
  have HT := Lib.hid hT
  clear hk0 hd0 hb0 hT
  go_enter Tryd.func32, Tryd.ntmps32
  go_wp2_with fail
  clear c1
  go_loopw [4] (fun _ wr => ∃ (ds r' : Ln) (f : Nat) (first : Bool), r = ds ++ r' ∧ (first = true ↔ ds = []) ∧ r'.length ≤ f ∧ nameR r.length true r = nameR f first r' ∧ At b l u xs w r' wr) (fun _ wr => l.length - posOf b wr)
  case atStart => exact ⟨[], r, r.length, true, rfl, by simp, Nat.le_refl _, rfl, ⟨_, H0.out.1, H0.out.2.1, H0.out.2.2⟩, grown_refl _ _⟩
  case round =>
    obtain ⟨ds, r', f, first, hr, hfi, hf, hnm, hat⟩ := hrel
    have HM := Lib.hid hat.rd.pos
    have HN := Lib.hid (next_any b l u xs r' wr hat.rd (HT.out wr hat.gr))
    have HA := Lib.hid hat
    have HR := Lib.hid (And.intro hr (And.intro hfi (And.intro hf hnm)))
    clear hr hfi hf hnm hat
    go_wp2_with fail
    refine HN.out.mono ?_
    rintro e w1 ⟨rfl, hb1⟩
    have hA1 := HA.out.next (HA.out.rd.grown hb1) (grown_of hb1 _)
    have HA1 := Lib.hid hA1
    have HN1 := Lib.hid (hA1.rd)
    obtain ⟨k, hk, hd, hb⟩ := hA1.rd
    have c1 := hb.cell 1
    have c0 := hb.cell 0
    have f1 := hb.frozen 1
    have HK := Lib.hid (And.intro hk (And.intro hd hb))
    clear hk hd hb hb1 hA1
    have HLE := Lib.hid (nextL_le r')
    have HPT := Lib.hid (part_any ((nextL r').1 : Int))
    have HST := Lib.hid (start_any ((nextL r').1 : Int))
    have HSL := Lib.hid (slice_cut H0.out.1 H0.out.2.1 HK.out.1 HR.out.1)
    have HKK : Hid (k = k0 ↔ ds = []) := Lib.hid (by
      have h1 := congrArg List.length HR.out.1
      have h2 := HK.out.1
      have h3 := H0.out.1
      rw [List.length_append] at h1
      constructor
      · intro h; exact List.eq_nil_of_length_eq_zero (by omega)
      · rintro rfl; simp at h1; omega)
    have HSP : Hid (nameStop first r' ↔ ((nextL r').2 = 0 ∨ partB (nextL r').1 = false ∨ (k = k0 ∧ startB (nextL r').1 = false))) := Lib.hid (by
      unfold nameStop
      rw [HKK.out, ← HR.out.2.1]
      simp [or_assoc])
    generalize hc : (nextL r').1 = c at *
    generalize hn : (nextL r').2 = n at *
    have HCN := Lib.hid (And.intro hc hn)
    clear hc hn
    by_cases hz : n = 0
    · have hz1 : ((n : Int) == 0) = true := by simp; omega
      have HST0 : Hid (nameR r.length true r = r') := Lib.hid (by rw [HR.out.2.2.2]; exact nameR_stop f (HSP.out.2 (.inl hz)))
      by_cases hk : k = k0
      · have hkk : ((k : Int) == (k0 : Int)) = true := by simp; omega
        have HRES : Hid (nameL r = .error (form r')) := Lib.hid (by
          have e1 : r = r' := by rw [HR.out.1, HKK.out.1 hk]; rfl
          unfold nameL
          rw [HST0.out]
          simp [e1])
        clear hk
        clear hz
        go_wp2_with fail
        refine (stop_any b l u xs r' _ HA1.out.rd).mono ?_
        rintro e w9 ⟨rfl, rfl⟩
        try simp (config := { zetaDelta := true }) only [Exit.noGoto_ret, Exit.inBlock, Exit.then]
        refine ⟨rfl, ?_⟩
        rw [HRES.out]
        exact ⟨HA1.out.gr, rfl⟩
      · have hkk : ((k : Int) == (k0 : Int)) = false := by simp; omega
        have HRS : Hid (nameL r = (do let r2 ← wantL [62] r'; .ok (ds, r2))) := Lib.hid (by
          have h1 := congrArg List.length HR.out.1
          have h2 := HK.out.1
          have h3 := H0.out.1
          rw [List.length_append] at h1
          have e2 : r.length - r'.length = ds.length := by omega
          unfold nameL
          rw [HST0.out]
          simp only []
          rw [if_neg (by omega), e2]
          have e3 : r.take ds.length = ds := by rw [HR.out.1]; simp
          rw [e3])
        clear hk
        clear hz
        go_wp2_with fail
        have hsl := HSL.out
        go_quiet (fail)
        generalize hw2 : w1.drewN nq = w2
        have HA2 : Hid (At b l u xs w r' w2) := Lib.hid (by rw [← hw2]; exact ⟨HA1.out.rd.drew _, grown_drew HA1.out.gr _⟩)
        clear hw2 c0 c1 f1
        go_wp2_with fail
        rcases Bool.eq_false_or_eq_true (hasP [62] r') with p | p
        · have HRES : Hid (nameL r = .ok (ds, r'.drop 1)) := Lib.hid (by rw [HRS.out]; unfold wantL; rw [p]; rfl)
          refine (want_yes HA2.out.rd hl p).mono ?_
          rintro e w3 ⟨rfl, hr, hg⟩
          have HA3 := Lib.hid (HA2.out.next hr hg)
          clear hr hg p
          go_wp2_with fail
          try simp (config := { zetaDelta := true }) only [Exit.noGoto_ret, Exit.inBlock, Exit.then]
          go_ret
          rw [HRES.out]
          exact ⟨HA3.out.gr, rfl, HA3.out.rd⟩
        · have HRES : Hid (nameL r = .error (form r')) := Lib.hid (by rw [HRS.out]; unfold wantL; rw [p]; rfl)
          refine (want_no HA2.out.rd hl p).mono ?_
          rintro e w3 ⟨rfl, hg⟩
          try simp (config := { zetaDelta := true }) only [Exit.noGoto_ret, Exit.inBlock, Exit.then]
          refine ⟨rfl, ?_⟩
          rw [HRES.out]
          exact ⟨grown_trans HA2.out.gr hg, rfl⟩
    have hz1 : ((n : Int) == 0) = false := by simp; omega
    have HNZ := Lib.hid hz
    clear hz
    rcases Bool.eq_false_or_eq_true (partB (c : Int)) with hp | hp
    · have HPP := Lib.hid hp
      go_wp2_with fail
      refine (HPT.out _).mono ?_
      rintro e w4 ⟨rfl, hb4⟩
      rw [hp]
      have hA4 := HA1.out.next (HA1.out.rd.grown hb4) (grown_of hb4 _)
      have HA4 := Lib.hid hA4
      clear c0 c1 f1
      obtain ⟨k', hk', hd', hb'⟩ := hA4.rd
      have hkk' : k' = k := by
        have := HK.out.1
        omega
      subst hkk'
      have c1 := hb'.cell 1
      have c0 := hb'.cell 0
      have f1 := hb'.frozen 1
      have HB4 := Lib.hid (And.intro hd' hb')
      clear hb4 hA4 hk' hd' hb' hp
      by_cases hk : k' = k0
      · subst hk
        rcases Bool.eq_false_or_eq_true (startB (c : Int)) with hs | hs
        · have HNS : Hid (¬ nameStop first r') := Lib.hid (fun h => by
            rcases HSP.out.1 h with h1 | h1 | ⟨_, h1⟩
            · exact HNZ.out h1
            · rw [HPP.out] at h1; cases h1
            · rw [hs] at h1; cases h1)
          go_wp2_with fail
          refine (HST.out _).mono ?_
          rintro e w5 ⟨rfl, hb5⟩
          rw [hs]
          have hA5 := HA4.out.next (HA4.out.rd.grown hb5) (grown_of hb5 _)
          have HA5 := Lib.hid hA5
          clear c0 c1 f1
          obtain ⟨k2, hk2, hd2, hb2⟩ := hA5.rd
          have hk2' : k2 = k' := by
            have := HK.out.1
            omega
          subst hk2'
          have c1 := hb2.cell 1
          have c0 := hb2.cell 0
          have f1 := hb2.frozen 1
          have HB5 := Lib.hid (And.intro hd2 hb2)
          clear hb5 hA5 hk2 hd2 hb2 hs
          go_wp2_with fail
          have hmv : Rd b l u xs (r'.drop n) (w5.setCell ⟨b, 1, none⟩ (.int .i64 (wrap64 ((k2 : Int) + (n : Int))))) := by
            have h1 := HK.out.1
            have h2 := HLE.out
            obtain ⟨kk, hkk1, hkk2, hkk3⟩ := HA5.out.rd
            have : kk = k2 := by omega
            subst this
            refine Rd.move hkk1 hkk2 hkk3 n h2 ?_
            rw [IntWalk.wrap64_in _ ⟨by omega, by omega⟩]
            omega
          go_roundw
          case rel =>
            obtain ⟨f', hf', hnn⟩ := nameR_go HR.out.2.2.1 HNS.out
            try rw [HCN.out.2] at hnn
            have h2 := HLE.out
            refine ⟨ds ++ r'.take n, r'.drop n, f', false, ?_, ?_, ?_, by rw [HR.out.2.2.2, hnn], hmv, grown_set HA5.out.gr _ _⟩
            · rw [List.append_assoc, List.take_append_drop]; exact HR.out.1
            · constructor
              · intro h; cases h
              · intro h
                have := congrArg List.length h
                rw [List.length_append, List.length_take, List.length_nil] at this
                have := HNZ.out
                omega
            · rw [List.length_drop]
              have := HR.out.2.2.1
              have := HNZ.out
              omega
          case measure =>
            have h1 := hmv.pos
            have h2 := HM.out
            have h3 := HLE.out
            have h4 := HNZ.out
            rw [List.length_drop] at h1
            omega
        · have HST0 : Hid (nameR r.length true r = r') := Lib.hid (by rw [HR.out.2.2.2]; exact nameR_stop f (HSP.out.2 (.inr (.inr ⟨rfl, hs⟩))))
          have HRES : Hid (nameL r = .error (form r')) := Lib.hid (by
            have e1 : r = r' := by rw [HR.out.1, HKK.out.1 rfl]; rfl
            unfold nameL
            rw [HST0.out]
            simp [e1])
          go_wp2_with fail
          refine (HST.out _).mono ?_
          rintro e w5 ⟨rfl, hb5⟩
          rw [hs]
          have hA5 := HA4.out.next (HA4.out.rd.grown hb5) (grown_of hb5 _)
          have HA5 := Lib.hid hA5
          clear c0 c1 f1
          obtain ⟨k2, hk2, hd2, hb2⟩ := hA5.rd
          have hk2' : k2 = k' := by
            have := HK.out.1
            omega
          subst hk2'
          have c1 := hb2.cell 1
          have c0 := hb2.cell 0
          have f1 := hb2.frozen 1
          have HB5 := Lib.hid (And.intro hd2 hb2)
          clear hb5 hA5 hk2 hd2 hb2 hs
          go_wp2_with fail
          refine (stop_any b l u xs r' _ HA5.out.rd).mono ?_
          rintro e w9 ⟨rfl, rfl⟩
          try simp (config := { zetaDelta := true }) only [Exit.noGoto_ret, Exit.inBlock, Exit.then]
          refine ⟨rfl, ?_⟩
          rw [HRES.out]
          exact ⟨HA5.out.gr, rfl⟩
      · have hkk : ((k' : Int) == (k0 : Int)) = false := by simp; omega
        have HNS : Hid (¬ nameStop first r') := Lib.hid (fun h => by
          rcases HSP.out.1 h with h1 | h1 | ⟨h1, _⟩
          · exact HNZ.out h1
          · rw [HPP.out] at h1; cases h1
          · exact hk h1)
        clear hk
        go_wp2_with fail
        have hmv : Rd b l u xs (r'.drop n) (w4.setCell ⟨b, 1, none⟩ (.int .i64 (wrap64 ((k' : Int) + (n : Int))))) := by
          have h1 := HK.out.1
          have h2 := HLE.out
          obtain ⟨kk, hkk1, hkk2, hkk3⟩ := HA4.out.rd
          have : kk = k' := by omega
          subst this
          refine Rd.move hkk1 hkk2 hkk3 n h2 ?_
          rw [IntWalk.wrap64_in _ ⟨by omega, by omega⟩]
          omega
        go_roundw
        case rel =>
          obtain ⟨f', hf', hnn⟩ := nameR_go HR.out.2.2.1 HNS.out
          try rw [HCN.out.2] at hnn
          have h2 := HLE.out
          refine ⟨ds ++ r'.take n, r'.drop n, f', false, ?_, ?_, ?_, by rw [HR.out.2.2.2, hnn], hmv, grown_set HA4.out.gr _ _⟩
          · rw [List.append_assoc, List.take_append_drop]; exact HR.out.1
          · constructor
            · intro h; cases h
            · intro h
              have := congrArg List.length h
              rw [List.length_append, List.length_take, List.length_nil] at this
              have := HNZ.out
              omega
          · rw [List.length_drop]
            have := HR.out.2.2.1
            have := HNZ.out
            omega
        case measure =>
          have h1 := hmv.pos
          have h2 := HM.out
          have h3 := HLE.out
          have h4 := HNZ.out
          rw [List.length_drop] at h1
          omega
    · have HST0 : Hid (nameR r.length true r = r') := Lib.hid (by rw [HR.out.2.2.2]; exact nameR_stop f (HSP.out.2 (.inr (.inl hp))))
      by_cases hk : k = k0
      · have hkk : ((k : Int) == (k0 : Int)) = true := by simp; omega
        have HRES : Hid (nameL r = .error (form r')) := Lib.hid (by
          have e1 : r = r' := by rw [HR.out.1, HKK.out.1 hk]; rfl
          unfold nameL
          rw [HST0.out]
          simp [e1])
        clear hk
        go_wp2_with fail
        refine (HPT.out _).mono ?_
        rintro e w4 ⟨rfl, hb4⟩
        rw [hp]
        have hA4 := HA1.out.next (HA1.out.rd.grown hb4) (grown_of hb4 _)
        have HA4 := Lib.hid hA4
        clear c0 c1 f1
        obtain ⟨k', hk', hd', hb'⟩ := hA4.rd
        have hkk' : k' = k := by
          have := HK.out.1
          omega
        subst hkk'
        have c1 := hb'.cell 1
        have c0 := hb'.cell 0
        have f1 := hb'.frozen 1
        have HB4 := Lib.hid (And.intro hd' hb')
        clear hb4 hA4 hk' hd' hb' hp
        go_wp2_with fail
        refine (stop_any b l u xs r' _ HA4.out.rd).mono ?_
        rintro e w9 ⟨rfl, rfl⟩
        try simp (config := { zetaDelta := true }) only [Exit.noGoto_ret, Exit.inBlock, Exit.then]
        refine ⟨rfl, ?_⟩
        rw [HRES.out]
        exact ⟨HA4.out.gr, rfl⟩
      · have hkk : ((k : Int) == (k0 : Int)) = false := by simp; omega
        have HRS : Hid (nameL r = (do let r2 ← wantL [62] r'; .ok (ds, r2))) := Lib.hid (by
          have h1 := congrArg List.length HR.out.1
          have h2 := HK.out.1
          have h3 := H0.out.1
          rw [List.length_append] at h1
          have e2 : r.length - r'.length = ds.length := by omega
          unfold nameL
          rw [HST0.out]
          simp only []
          rw [if_neg (by omega), e2]
          have e3 : r.take ds.length = ds := by rw [HR.out.1]; simp
          rw [e3])
        clear hk
        go_wp2_with fail
        refine (HPT.out _).mono ?_
        rintro e w4 ⟨rfl, hb4⟩
        rw [hp]
        have hA4 := HA1.out.next (HA1.out.rd.grown hb4) (grown_of hb4 _)
        have HA4 := Lib.hid hA4
        clear c0 c1 f1
        obtain ⟨k', hk', hd', hb'⟩ := hA4.rd
        have hkk' : k' = k := by
          have := HK.out.1
          omega
        subst hkk'
        have c1 := hb'.cell 1
        have c0 := hb'.cell 0
        have f1 := hb'.frozen 1
        have HB4 := Lib.hid (And.intro hd' hb')
        clear hb4 hA4 hk' hd' hb' hp
        go_wp2_with fail
        have hsl := HSL.out
        go_quiet (fail)
        generalize hw2 : w4.drewN nq = w2
        have HA2 : Hid (At b l u xs w r' w2) := Lib.hid (by rw [← hw2]; exact ⟨HA4.out.rd.drew _, grown_drew HA4.out.gr _⟩)
        clear hw2 c0 c1 f1
        go_wp2_with fail
        rcases Bool.eq_false_or_eq_true (hasP [62] r') with p | p
        · have HRES : Hid (nameL r = .ok (ds, r'.drop 1)) := Lib.hid (by rw [HRS.out]; unfold wantL; rw [p]; rfl)
          refine (want_yes HA2.out.rd hl p).mono ?_
          rintro e w3 ⟨rfl, hr, hg⟩
          have HA3 := Lib.hid (HA2.out.next hr hg)
          clear hr hg p
          go_wp2_with fail
          try simp (config := { zetaDelta := true }) only [Exit.noGoto_ret, Exit.inBlock, Exit.then]
          go_ret
          rw [HRES.out]
          exact ⟨HA3.out.gr, rfl, HA3.out.rd⟩
        · have HRES : Hid (nameL r = .error (form r')) := Lib.hid (by rw [HRS.out]; unfold wantL; rw [p]; rfl)
          refine (want_no HA2.out.rd hl p).mono ?_
          rintro e w3 ⟨rfl, hg⟩
          try simp (config := { zetaDelta := true }) only [Exit.noGoto_ret, Exit.inBlock, Exit.then]
          refine ⟨rfl, ?_⟩
          rw [HRES.out]
          exact ⟨grown_trans HA2.out.gr hg, rfl⟩
end Go.Proofs.YtnbadnmmolagfaaDoor
