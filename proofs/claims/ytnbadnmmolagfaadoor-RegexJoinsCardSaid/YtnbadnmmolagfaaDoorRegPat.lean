/- Package regex: pattern. -/
import Derived.Test.YtnbadnmmolagfaaDoorRegTerm
namespace Go.Proofs.YtnbadnmmolagfaaDoor
open Go.RowKit
set_option maxRecDepth 100000
set_option linter.unusedVariables false
set_option linter.unusedSimpArgs false

theorem hasP_head {c : UInt8} {r : Ln} (h : peekL r ≠ c.toNat) : hasP [c] r = false := by
  cases r with
  | nil => rfl
  | cons a r =>
    have : a ≠ c := fun e => h (by rw [e]; rfl)
    unfold hasP Lib.hasPrefix
    simp [List.isPrefixOf]
    exact fun e => this e.symm
theorem hasP_yes {c : UInt8} {r : Ln} (h : peekL r = c.toNat) (hne : r ≠ []) : hasP [c] r = true := by
  cases r with
  | nil => exact absurd rfl hne
  | cons a r =>
    have : a = c := UInt8.toNat_inj.1 h
    subst this
    unfold hasP Lib.hasPrefix
    simp [List.isPrefixOf]
theorem patF_end {u : Bool} {f : Nat} {s : St} (hf : s.r.length < f) (h : s.r = [] ∨ (peekL s.r ≠ 124 ∧ peekL s.r = 41)) : patF u f s = .ok s := by
  cases f with
  | zero => omega
  | succ f =>
    unfold patF
    rcases h with h | ⟨h1, h2⟩
    · rw [if_pos h]
    · by_cases h3 : s.r = []
      · rw [if_pos h3]
      · rw [if_neg h3, if_neg h1, if_pos h2]
theorem patF_bar {u : Bool} {f : Nat} {s : St} (hf : s.r.length < f) (hne : s.r ≠ []) (h : peekL s.r = 124) : patF u f s = patF u (f - 1) { s with r := s.r.drop 1 } := by
  cases f with
  | zero => omega
  | succ f =>
    conv => lhs; unfold patF
    rw [if_neg hne, if_pos h]
    rfl
theorem patF_term {u : Bool} {f : Nat} {s : St} (hf : s.r.length < f) (hne : s.r ≠ []) (h : peekL s.r ≠ 124) (h2 : peekL s.r ≠ 41) : patF u f s = match termS u (patF u (f - 1)) s with
      | .error e => .error e
      | .ok s1 => patF u (f - 1) s1 := by
  cases f with
  | zero => omega
  | succ f =>
    conv => lhs; unfold patF
    rw [if_neg hne, if_neg h, if_neg h2]
    rfl

set_option maxHeartbeats 16000000 in
theorem pattern_any (B b M : Nat) (l : Ln) (u : Bool) (hl : l.length ≤ 4096) (hB2 : 2 < B) : ∀ K, PatOk B b M l u K := by
  intro K
  induction K using Nat.strongRecOn with
  | ind K ih =>
  intro s vn vd es clock w h hE hbw hk hs
  have H0 := Lib.hid (show Ht B b M l u w vn vd es clock s w from ⟨h, Below.refl _ _, hbw⟩)
  have HE := Lib.hid (fun w1 (hg : Below B w w1) => hE.low hg hB2)
  have HF := Lib.hid hs
  have HKL := Lib.hid hk
  have IH := Lib.hid ih
  clear h hE hs hk ih
  go_enter Tryd.func17, Tryd.ntmps17
  go_wp2_with fail
  go_loopw [2] (fun _ wr => ∃ (f : Nat) (s' : St) (vn' vd' : Value) (es' : Array MapEntry) (clock' : Nat), patF u K s = patF u f s' ∧ f ≤ K ∧ s'.r.length < f ∧ s'.sum ≤ 4096 ∧ Ht B b M l u w vn' vd' es' clock' s' wr) (fun _ wr => l.length - posOf b wr)
  case atStart => exact ⟨K, s, vn, vd, es, clock, rfl, Nat.le_refl _, HKL.out, HF.out, H0.out⟩
  case round =>
    obtain ⟨f0, s0, vn0, vd0, es0, clock0, hq0, hf0, hl0, hs0, hA0⟩ := hrel
    have HO := Lib.hid (And.intro hq0 (And.intro hf0 (And.intro hl0 (And.intro hs0 hA0))))
    have HM0 := Lib.hid hA0.rs.rd.pos
    clear hq0 hf0 hl0 hs0 hA0
    obtain ⟨wo, hwo⟩ : ∃ wo, wo = wr := ⟨_, rfl⟩
    rw [← hwo] at HO HM0
    have HWO := Lib.hid hwo
    go_wp2_with fail
    subst hwo
    go_loopw [2] (fun _ wr => ∃ (f : Nat) (s' : St) (vn' vd' : Value) (es' : Array MapEntry) (clock' : Nat), patF u K s = patF u f s' ∧ f ≤ K ∧ s'.r.length < f ∧ s'.sum ≤ 4096 ∧ s'.r.length ≤ s0.r.length ∧ Ht B b M l u w vn' vd' es' clock' s' wr) (fun _ wr => l.length - posOf b wr)
    case atStart => exact ⟨f0, s0, vn0, vd0, es0, clock0, HO.out.1, HO.out.2.1, HO.out.2.2.1, HO.out.2.2.2.1, Nat.le_refl _, HO.out.2.2.2.2⟩
    case round =>
      obtain ⟨f1, s1, vn1, vd1, es1, clock1, hq1, hf1, hl1, hs1, hle1, hA1⟩ := hrel
      have HA := Lib.hid hA1
      have HQ := Lib.hid (And.intro hq1 (And.intro hf1 (And.intro hl1 (And.intro hs1 hle1))))
      have HM := Lib.hid hA1.rs.rd.pos
      obtain ⟨k, hk, hd, hb⟩ := hA1.rs.rd
      have c0 := hb.cell 0
      have c1 := hb.cell 1
      have hz := strOf_size l
      have HPK := Lib.hid (fun n => peek_any b l u _ s1.r (wr.drewN n) (hA1.rs.rd.drew n) hl)
      have hcase : (s1.r = [] ∧ ¬ ((k : Int) < (l.length : Int)) ∧ peekL s1.r = 0) ∨ (s1.r ≠ [] ∧ ((k : Int) < (l.length : Int)) ∧ peekL s1.r = 124) ∨ (s1.r ≠ [] ∧ ((k : Int) < (l.length : Int)) ∧ peekL s1.r ≠ 124 ∧ peekL s1.r = 41) ∨ (s1.r ≠ [] ∧ ((k : Int) < (l.length : Int)) ∧ peekL s1.r ≠ 124 ∧ peekL s1.r ≠ 41) := by
        by_cases hr : s1.r = []
        · left
          rw [hr] at hk ⊢
          refine ⟨rfl, ?_, rfl⟩
          simp at hk
          omega
        · have := List.length_pos_iff.2 hr
          right
          by_cases h1 : peekL s1.r = 124
          · exact .inl ⟨hr, by omega, h1⟩
          · right
            by_cases h2 : peekL s1.r = 41
            · exact .inl ⟨hr, by omega, h1, h2⟩
            · exact .inr ⟨hr, by omega, h1, h2⟩
      clear hq1 hf1 hl1 hs1 hle1 hA1 hk hd hb
      rcases hcase with ⟨hr, hkl, hp⟩ | ⟨hr, hkl, hp⟩ | ⟨hr, hkl, hp, hp2⟩ | ⟨hr, hkl, hp, hp2⟩
      · have HRES : Hid (patF u K s = .ok s1) := Lib.hid (by rw [HQ.out.1]; exact patF_end HQ.out.2.2.1 (.inl hr))
        have HNP : hasP [124] s1.r = false := by rw [hr]; rfl
        have hkd : decide (k < l.length) = false := by simp; omega
        clear hr hp
        go_wp2_with fail
        go_quiet (fail)
        generalize hw2 : wr.drewN nq = w2
        have HA2 : Hid (Ht B b M l u w vn1 vd1 es1 clock1 s1 w2) := Lib.hid (by rw [← hw2]; exact HA.out.next (HA.out.rs.rd.drew _) (grown_drew (grown_refl _ _) _))
        clear hw2 c0 c1 hz
        go_wp2_with fail
        refine (is_no HA2.out.rs.rd hl HNP).mono ?_
        rintro e w3 ⟨rfl, hr, hg⟩
        have HA3 := Lib.hid (HA2.out.next hr hg)
        clear hr hg HNP
        go_wp2_with fail
        try simp (config := { zetaDelta := true }) only [Exit.noGoto_ret, Exit.inBlock, Exit.then]
        go_end0
        rw [HRES.out]
        exact HA3.out.ends
      · have hkd : decide (k < l.length) = true := by simp; omega
        have z1 : ((peekL s1.r : Int) != 124) = false := by simp; omega
        have HRES : Hid (patF u K s = patF u (f1 - 1) { s1 with r := s1.r.drop 1 }) := Lib.hid (by rw [HQ.out.1]; exact patF_bar HQ.out.2.2.1 hr hp)
        have HYP : hasP [124] s1.r = true := hasP_yes hp hr
        have HNE := Lib.hid hr
        clear hr hp
        go_wp2_with fail
        go_quiet (first | (go_at_call 21; exact Calls.quiet_of (HPK.out _)))
        generalize hw2 : wr.drewN nq = w2
        have HA2 : Hid (Ht B b M l u w vn1 vd1 es1 clock1 s1 w2) := Lib.hid (by rw [← hw2]; exact HA.out.next (HA.out.rs.rd.drew _) (grown_drew (grown_refl _ _) _))
        clear hw2 c0 c1 hz
        go_wp2_with fail
        refine (is_yes HA2.out.rs.rd hl HYP).mono ?_
        rintro e w3 ⟨rfl, hr, hg⟩
        have HA3 := Lib.hid (HA2.out.next hr hg)
        clear hr hg HYP
        go_wp2_with fail
        go_roundw
        case rel =>
          have h1 := HQ.out.2.1
          have h2 := HQ.out.2.2.1
          have h3 := HQ.out.2.2.2.1
          have h4 := List.length_pos_iff.2 HNE.out
          refine ⟨f1 - 1, { s1 with r := s1.r.drop 1 }, _, _, _, _, HRES.out, by omega, ?_, ?_, HA3.out⟩
          · dsimp only
            rw [List.length_drop]
            omega
          · unfold St.sum at *
            dsimp only
            rw [List.length_drop]
            omega
        case measure =>
          have h1 := HA3.out.rs.rd.pos
          have h2 := HM0.out
          have h3 := HQ.out.2.2.2.2
          have h4 := List.length_pos_iff.2 HNE.out
          dsimp only [List.length_cons, List.length_nil] at h1
          rw [List.length_drop] at h1
          omega
      · have hkd : decide (k < l.length) = true := by simp; omega
        have z1 : ((peekL s1.r : Int) != 124) = true := by simp; omega
        have z2 : ((peekL s1.r : Int) != 41) = false := by simp; omega
        have HRES : Hid (patF u K s = .ok s1) := Lib.hid (by rw [HQ.out.1]; exact patF_end HQ.out.2.2.1 (.inr ⟨hp, hp2⟩))
        have HNP : hasP [124] s1.r = false := hasP_head hp
        clear hr hp hp2
        go_wp2_with fail
        go_quiet (first | (go_at_call 21; exact Calls.quiet_of (HPK.out _)))
        generalize hw2 : wr.drewN nq = w2
        have HA2 : Hid (Ht B b M l u w vn1 vd1 es1 clock1 s1 w2) := Lib.hid (by rw [← hw2]; exact HA.out.next (HA.out.rs.rd.drew _) (grown_drew (grown_refl _ _) _))
        clear hw2 c0 c1 hz
        go_wp2_with fail
        refine (is_no HA2.out.rs.rd hl HNP).mono ?_
        rintro e w3 ⟨rfl, hr, hg⟩
        have HA3 := Lib.hid (HA2.out.next hr hg)
        clear hr hg HNP
        go_wp2_with fail
        try simp (config := { zetaDelta := true }) only [Exit.noGoto_ret, Exit.inBlock, Exit.then]
        go_end0
        rw [HRES.out]
        exact HA3.out.ends
      · have hkd : decide (k < l.length) = true := by simp; omega
        have z1 : ((peekL s1.r : Int) != 124) = true := by simp; omega
        have z2 : ((peekL s1.r : Int) != 41) = true := by simp; omega
        have HRES : Hid (patF u K s = match termS u (patF u (f1 - 1)) s1 with
          | .error e => .error e
          | .ok s1 => patF u (f1 - 1) s1) := Lib.hid (by rw [HQ.out.1]; exact patF_term HQ.out.2.2.1 hr hp hp2)
        have HNE := Lib.hid hr
        clear hr hp hp2
        go_wp2_with fail
        go_quiet (first | (go_at_call 21; exact Calls.quiet_of (HPK.out _)))
        generalize hw2 : wr.drewN nq = w2
        have HA2 : Hid (Ht B b M l u w vn1 vd1 es1 clock1 s1 w2) := Lib.hid (by rw [← hw2]; exact HA.out.next (HA.out.rs.rd.drew _) (grown_drew (grown_refl _ _) _))
        clear hw2 c0 c1 hz
        go_wp2_with fail
        have HT := Lib.hid (term_any B b M l u (f1 - 1) (IH.out (f1 - 1) (by have := HQ.out.2.1; have := HQ.out.2.2.1; omega)) s1 _ _ _ _ w2 HA2.out.rs hl (HE.out w2 HA2.out.be) hB2 HA2.out.big (by have := HQ.out.2.2.1; omega) HQ.out.2.2.2.1 HNE.out)
        rcases hp : termS u (patF u (f1 - 1)) s1 with e1 | s2
        · have HR2 : Hid (patF u K s = .error e1) := Lib.hid (by rw [HRES.out, hp])
          rw [hp] at HT
          clear hp
          refine HT.out.mono ?_
          rintro e w3 ⟨hb, rfl⟩
          try simp (config := { zetaDelta := true }) only [Exit.noGoto_ret, Exit.inBlock, Exit.then]
          refine ⟨rfl, ?_⟩
          rw [HR2.out]
          exact ⟨HA2.out.be.trans hb, rfl⟩
        · have HR2 : Hid (patF u K s = patF u (f1 - 1) s2) := Lib.hid (by rw [HRES.out, hp])
          have HKP := Lib.hid (term_keeps (pat_keeps u (f1 - 1)) (by have := HQ.out.2.2.1; omega) HNE.out hp)
          rw [hp] at HT
          clear hp
          refine HT.out.mono ?_
          rintro e w3 ⟨hb, rfl, vn3, vd3, es3, clock3, hr⟩
          have HA3 := Lib.hid (HA2.out.heavy hb hr)
          clear hb hr HT
          go_wp2_with fail
          go_roundw
          case rel =>
            have h1 := HQ.out.2.1
            have h2 := HQ.out.2.2.1
            have h3 := HQ.out.2.2.2.1
            have h5 := HQ.out.2.2.2.2
            have h4 := HKP.out
            exact ⟨f1 - 1, s2, _, _, _, _, HR2.out, by omega, by omega, by omega, by omega, HA3.out⟩
          case measure =>
            have h1 := HA3.out.rs.rd.pos
            have h2 := HM.out
            have h4 := HKP.out
            omega
end Go.Proofs.YtnbadnmmolagfaaDoor
