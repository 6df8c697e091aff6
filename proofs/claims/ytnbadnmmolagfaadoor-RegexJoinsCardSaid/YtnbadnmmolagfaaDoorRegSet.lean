/- Package regex: set. -/
import Derived.Test.YtnbadnmmolagfaaDoorRegProp
namespace Go.Proofs.YtnbadnmmolagfaaDoor
open Go.RowKit
set_option maxRecDepth 100000
set_option linter.unusedVariables false
set_option linter.unusedSimpArgs false

theorem idx_mem (c : UInt8) : ∀ l : Ln, decide (0 ≤ Lib.indexByte l c) = l.contains c
  | [] => by simp [Lib.indexByte]
  | b :: l => by
    have ih := idx_mem c l
    have hge := Lib.indexByte_ge l c
    unfold Lib.indexByte
    by_cases h : b = c
    · subst h; simp
    · have h1 : (b == c) = false := by simpa using h
      have h2 : (c == b) = false := by simp; exact fun e => h e.symm
      rw [h1, List.contains_cons, h2, Bool.false_or, ← ih]
      by_cases h3 : Lib.indexByte l c = -1
      · simp [h3]
      · have : (Lib.indexByte l c == -1) = false := by simpa using h3
        rw [this]
        simp
        omega
theorem peek_byte (r : Ln) : ((peekL r : Int)).toNat.toUInt8 = r.getD 0 0 := by
  unfold peekL
  simp
theorem indexByte_at (s : Ln) (r : Ln) (w : World) :
    Calls Tryd.prog 16 #[.string (strOf s), .int .u8 (peekL r : Int)] w fun e w' => e = .returned (.int .i64 (Lib.indexByte s (r.getD 0 0))) ∧ w' = w := by
  have := Tryd.strings_IndexByte (strOf s) (peekL r) w
  rw [strOf_list, peek_byte] at this
  exact this
/-- strings.IndexByte of a text that is written out: a number, not below 0 just if the byte is one of them. -/
theorem index_at (s : Ln) (r : Ln) : ∃ i : Int, decide (0 ≤ i) = s.contains (r.getD 0 0) ∧ ∀ w, Calls Tryd.prog 16 #[.string (strOf s), .int .u8 (peekL r : Int)] w fun e w' => e = .returned (.int .i64 i) ∧ w' = w :=
  ⟨_, idx_mem _ _, indexByte_at s r⟩
theorem inc_eq {l r : Ln} {k : Nat} (hk : k + r.length = l.length) (hl : l.length ≤ 4096) : wrap64 ((k : Int) + 1) = ((k + 1 : Nat) : Int) := by
  rw [IntWalk.wrap64_in _ ⟨by omega, by omega⟩]
  omega
theorem At.inc {b : Nat} {l : Ln} {u : Bool} {xs : List Value} {w w1 : World} {r : Ln} (h : At b l u xs w r w1) (hl : l.length ≤ 4096) (hr : r ≠ []) {k : Nat} (hk : w1.cell? ⟨b, 1, none⟩ = some (.int .i64 (k : Int))) :
    At b l u xs w (r.drop 1) (w1.setCell ⟨b, 1, none⟩ (.int .i64 (wrap64 ((k : Int) + 1)))) := by
  obtain ⟨⟨k', h1, h2, h3⟩, h4⟩ := h
  have e := h3.cell 1
  rw [hk] at e
  have e2 : (k : Int) = (k' : Int) := by simpa using e
  have e3 : k = k' := by omega
  subst e3
  exact ⟨Rd.move h1 h2 h3 1 (List.length_pos_iff.2 hr) (inc_eq h1 hl), grown_set h4 _ _⟩
theorem peek_ne {r : Ln} (h : peekL r ≠ 0) : r ≠ [] := by rintro rfl; exact h rfl
theorem propR_here {f : Nat} {r : Ln} (h : peekL r = 125) (hf : r.length < f) : propR f r = .ok r := by
  cases f with
  | zero => omega
  | succ f => unfold propR; rw [if_pos h]
theorem propR_bad {f : Nat} {r : Ln} {e : Flt} (h : peekL r ≠ 125) (hf : r.length < f) (ht : takeL r = .error e) : propR f r = .error e := by
  cases f with
  | zero => omega
  | succ f => unfold propR; rw [if_neg h, ht]
theorem propR_next {f : Nat} {r r1 : Ln} {c : Nat} (h : peekL r ≠ 125) (hf : r.length < f) (ht : takeL r = .ok (c, r1)) : propR f r = propR (f - 1) r1 := by
  cases f with
  | zero => omega
  | succ f => conv => lhs; unfold propR; rw [if_neg h, ht]
              rfl
theorem takeL_ok {r r1 : Ln} {c : Nat} (h : takeL r = .ok (c, r1)) : ∃ ds, r = ds ++ r1 ∧ r1.length < r.length := by
  unfold takeL at h
  split at h
  · cases h
  · rename_i hz
    injection h with h
    injection h with h1 h2
    refine ⟨r.take (nextL r).2, ?_, ?_⟩
    · rw [← h2, List.take_append_drop]
    · have := nextL_le r
      rw [← h2, List.length_drop]
      omega

set_option maxHeartbeats 8000000 in
theorem set_any (b : Nat) (l : Ln) (u : Bool) (xs : List Value) (r : Ln) (w : World) (h : Rd b l u xs r w) (hl : l.length ≤ 4096) (hE : Env w) (hb2 : 2 < b) :
    Calls Tryd.prog 44 #[.pointer (some ⟨b, 0, none⟩)] w (Ends b l u xs w ((setL u r).map fun o => (.bool o.isSome, o.getD r))) := by
  have H0 := Lib.hid (show At b l u xs w r w from ⟨h, grown_refl _ _⟩)
  have HE := Lib.hid (fun w1 (hg : w.grownBy w1 (some b)) => hE.grown hg hb2)
  clear h hE
  obtain ⟨S, hS⟩ : ∃ S, S = setL u r := ⟨_, rfl⟩
  rw [← hS]
  unfold setL at hS
  go_enter Tryd.func44, Tryd.ntmps44
  go_wp2_with fail
  refine (peek_rd b l u xs r w H0.out.rd hl).mono ?_
  rintro e w1 ⟨rfl, hr, hg⟩
  have H1 := Lib.hid (H0.out.next hr (grown_of hg _))
  clear hr hg
  obtain ⟨k, hk, hd, hb⟩ := H1.out.rd
  have c1 := hb.cell 1
  have c2 := hb.cell 2
  have f1 := hb.frozen 1
  have HK := Lib.hid (And.intro hk (And.intro hd hb))
  clear hk hd hb
  have HS := Lib.hid hS
  clear hS
  by_cases hz : peekL r = 0
  · have z1 : ((peekL r : Int) != 0) = false := by simp; omega
    have z2 : ((peekL r : Int) == 112) = false := by simp; omega
    have z3 : ((peekL r : Int) == 80) = false := by simp; omega
    have HR : Hid (S = .ok none) := Lib.hid (by rw [HS.out]; simp [hz])
    clear hz
    cases u
    all_goals
      go_wp2_with fail
      go_ret
      rw [HR.out]
      exact ⟨H1.out.gr, rfl, H1.out.rd⟩
  · have z1 : ((peekL r : Int) != 0) = true := by simp; omega
    have HZ := Lib.hid hz
    obtain ⟨i, hi, hI⟩ := index_at setChars r
    have HI := Lib.hid hI
    clear hI
    cases hc : setChars.contains (r.getD 0 0)
    · rw [hc] at hi
      cases u
      · have HR : Hid (S = .ok none) := Lib.hid (by rw [HS.out, hc]; simp)
        clear hc hz
        go_wp2_with (go_at_call 16; refine (HI.out _).mono ?_; rintro e w2 ⟨rfl, rfl⟩)
        go_ret
        rw [HR.out]
        exact ⟨H1.out.gr, rfl, H1.out.rd⟩
      · by_cases hp : peekL r = 112 ∨ peekL r = 80
        · have hne : r ≠ [] := peek_ne hz
          have HNE := Lib.hid hne
          have HQ : Hid (S = (do
              let r2 ← wantL [123] (r.drop 1)
              let r3 ← propR (r2.length + 1) r2
              if propertyL (r2.take (r2.length - r3.length)) then .ok (some (r3.drop 1)) else .error (404, r2.length))) := Lib.hid (by
            rw [HS.out, hc]
            rw [if_neg (by simp), if_pos (by simpa using hp)])
          have hpq : ((peekL r : Int) == 112) = true ∨ (((peekL r : Int) == 112) = false ∧ ((peekL r : Int) == 80) = true) := by
            rcases hp with h | h
            · left; simp; omega
            · right; constructor <;> simp <;> omega
          have HIN := Lib.hid (H1.out.inc hl hne c1)
          obtain ⟨r1, hr1⟩ : ∃ q, q = r.drop 1 := ⟨_, rfl⟩
          rw [← hr1] at HIN HQ
          have HR1 := Lib.hid hr1
          clear hp hc hz hne hr1 HS HZ
          rcases hpq with p1 | ⟨p1, p2⟩
          all_goals
            go_wp2_with (go_at_call 16; refine (HI.out _).mono ?_; rintro e w2 ⟨rfl, rfl⟩)
            clear p1 hi
            try clear p2
            clear c1 c2 f1
            rcases Bool.eq_false_or_eq_true (hasP [123] r1) with p | p
            · refine (want_yes HIN.out.rd hl p).mono ?_
              rintro e w3 ⟨rfl, hr, hg⟩
              obtain ⟨r2, hr2⟩ : ∃ q, q = r1.drop 1 := ⟨_, rfl⟩
              replace hr : Rd b l true xs r2 w3 := by rw [hr2]; exact hr
              have H3 := Lib.hid (HIN.out.next hr hg)
              have HQ2 : Hid (S = (do
                  let r3 ← propR (r2.length + 1) r2
                  if propertyL (r2.take (r2.length - r3.length)) then .ok (some (r3.drop 1)) else .error (404, r2.length))) := Lib.hid (by
                rw [HQ.out]
                unfold wantL
                rw [p, hr2]
                rfl)
              clear hr hg p hr2 HQ
              obtain ⟨k2, hk2, hd2, hb2⟩ := H3.out.rd
              have c1 := hb2.cell 1
              have HK2 := Lib.hid (And.intro hk2 (And.intro hd2 hb2))
              clear hk2 hd2 hb2
              go_wp2_with fail
              clear c1
              go_loopw [48] (fun _ wr => ∃ (ds r' : Ln) (f : Nat), r2 = ds ++ r' ∧ r'.length < f ∧ propR (r2.length + 1) r2 = propR f r' ∧ At b l true xs w r' wr) (fun _ wr => l.length - posOf b wr)
              case atStart => exact ⟨[], r2, r2.length + 1, rfl, Nat.lt_succ_self _, rfl, H3.out⟩
              case round =>
                obtain ⟨ds, r', f, hr, hf, hpr, hat⟩ := hrel
                have HM := Lib.hid hat.rd.pos
                have HA := Lib.hid hat
                have HR := Lib.hid (And.intro hr (And.intro hf hpr))
                clear hr hf hpr hat
                go_wp2_with fail
                refine (peek_rd b l true xs r' wr HA.out.rd hl).mono ?_
                rintro e w4 ⟨rfl, hr, hg⟩
                have HA4 := Lib.hid (HA.out.next hr (grown_of hg _))
                clear hr hg
                by_cases h5 : peekL r' = 125
                · have z5 : ((peekL r' : Int) != 125) = false := by simp; omega
                  have hne' : r' ≠ [] := peek_ne (by omega)
                  have HPR : Hid (S = if propertyL ds then .ok (some (r'.drop 1)) else .error (404, r2.length)) := Lib.hid (by
                    have e4 : r2.length - r'.length = ds.length := by rw [HR.out.1, List.length_append]; omega
                    have e5 : r2.take ds.length = ds := by rw [HR.out.1]; simp
                    rw [HQ2.out, HR.out.2.2, propR_here h5 HR.out.2.1]
                    show (if propertyL (r2.take (r2.length - r'.length)) then _ else _) = _
                    rw [e4, e5])
                  obtain ⟨k4, hk4, hd4, hb4⟩ := HA4.out.rd
                  have c1 := hb4.cell 1
                  have c0 := hb4.cell 0
                  have HSL := Lib.hid (slice_cut HK2.out.1 HK2.out.2.1 hk4 HR.out.1)
                  have HPA := Lib.hid (fun n => property_any ds (w4.drewN n) ((HE.out w4 HA4.out.gr).drew n) (by have := congrArg List.length HR.out.1; rw [List.length_append] at this; have := HK2.out.1; omega))
                  have HNE2 := Lib.hid hne'
                  clear h5 hne' hk4 hd4 hb4
                  go_wp2_with fail
                  have hsl := HSL.out
                  cases hpv : propertyL ds
                  · rw [hpv] at HPA HPR
                    clear hpv
                    go_quiet (first | (go_at_call 51; exact Calls.quiet_of (HPA.out _)))
                    go_wp2_with fail
                    refine (fail_any _ _ _).mono ?_
                    rintro e w9 ⟨he, rfl⟩
                    replace he := he.trans (thrown_at 404 HK2.out.1)
                    subst he
                    try simp (config := { zetaDelta := true }) only [Exit.noGoto_ret, Exit.inBlock, Exit.then]
                    refine ⟨rfl, ?_⟩
                    rw [HPR.out]
                    exact ⟨grown_drew HA4.out.gr _, rfl⟩
                  · rw [hpv] at HPA HPR
                    clear hpv
                    go_quiet (first | (go_at_call 51; exact Calls.quiet_of (HPA.out _)))
                    generalize hw5 : w4.drewN nq = w5
                    have h5 : At b l true xs w r' w5 := by rw [← hw5]; exact ⟨HA4.out.rd.drew _, grown_drew HA4.out.gr _⟩
                    have HA5 := Lib.hid h5
                    clear c0 c1 hw5 h5
                    obtain ⟨k5, hk5, hd5, hb5⟩ := HA5.out.rd
                    have c1 := hb5.cell 1
                    have f1 := hb5.frozen 1
                    have HIN5 := Lib.hid (HA5.out.inc hl HNE2.out c1)
                    clear hk5 hd5 hb5
                    go_wp2_with fail
                    try simp (config := { zetaDelta := true }) only [Exit.noGoto_ret, Exit.inBlock, Exit.then]
                    go_ret
                    rw [HPR.out]
                    exact ⟨HIN5.out.gr, rfl, HIN5.out.rd⟩
                · have z5 : ((peekL r' : Int) != 125) = true := by simp; omega
                  have H5 := Lib.hid h5
                  have X := take_any b l true xs r' w4 HA4.out.rd (HE.out w4 HA4.out.gr).1 hl
                  have HX := Lib.hid X
                  clear h5 X
                  go_wp2_with fail
                  rcases ht : takeL r' with f4 | ⟨c4, r4⟩
                  · rw [ht] at HX
                    have HPR : Hid (S = .error f4) := Lib.hid (by
                      rw [HQ2.out, HR.out.2.2, propR_bad H5.out HR.out.2.1 ht]
                      rfl)
                    clear ht
                    refine HX.out.mono ?_
                    rintro e w5 ⟨hg, rfl⟩
                    try simp (config := { zetaDelta := true }) only [Exit.noGoto_ret, Exit.inBlock, Exit.then]
                    refine ⟨rfl, ?_⟩
                    rw [HPR.out]
                    exact ⟨grown_trans HA4.out.gr hg, rfl⟩
                  · rw [ht] at HX
                    have HTK := Lib.hid ht
                    clear ht
                    refine HX.out.mono ?_
                    rintro e w5 ⟨hg, rfl, hr⟩
                    have HA5 := Lib.hid (HA4.out.next hr hg)
                    clear hr hg
                    go_wp2_with fail
                    go_roundw
                    case rel =>
                      obtain ⟨d2, e2, e3⟩ := takeL_ok HTK.out
                      refine ⟨ds ++ d2, r4, f - 1, by rw [List.append_assoc, ← e2]; exact HR.out.1, ?_, by rw [HR.out.2.2, propR_next H5.out HR.out.2.1 HTK.out], HA5.out⟩
                      have := HR.out.2.1
                      omega
                    case measure =>
                      obtain ⟨d2, e2, e3⟩ := takeL_ok HTK.out
                      have h1 := HA5.out.rd.pos
                      have h2 := HM.out
                      omega
            · have HPR : Hid (S = .error (form r1)) := Lib.hid (by
                rw [HQ.out]
                unfold wantL
                rw [p]
                rfl)
              refine (want_no HIN.out.rd hl p).mono ?_
              rintro e w3 ⟨rfl, hg⟩
              try simp (config := { zetaDelta := true }) only [Exit.noGoto_ret, Exit.inBlock, Exit.then]
              refine ⟨rfl, ?_⟩
              rw [HPR.out]
              exact ⟨grown_trans HIN.out.gr hg, rfl⟩
        · have p1 : ((peekL r : Int) == 112) = false := by simp; omega
          have p2 : ((peekL r : Int) == 80) = false := by simp; omega
          have HR : Hid (S = .ok none) := Lib.hid (by rw [HS.out, hc, if_neg (by simp), if_neg (by simpa using hp)])
          clear hp hc hz
          go_wp2_with (go_at_call 16; refine (HI.out _).mono ?_; rintro e w2 ⟨rfl, rfl⟩)
          go_ret
          rw [HR.out]
          exact ⟨H1.out.gr, rfl, H1.out.rd⟩
    · rw [hc] at hi
      have HR : Hid (S = .ok (some (r.drop 1))) := Lib.hid (by rw [HS.out, hc]; simp [hz])
      have HIN := Lib.hid (H1.out.inc hl (peek_ne hz) c1)
      clear hc hz
      go_wp2_with (go_at_call 16; refine (HI.out _).mono ?_; rintro e w2 ⟨rfl, rfl⟩)
      go_ret
      rw [HR.out]
      exact ⟨HIN.out.gr, rfl, HIN.out.rd⟩
end Go.Proofs.YtnbadnmmolagfaaDoor
