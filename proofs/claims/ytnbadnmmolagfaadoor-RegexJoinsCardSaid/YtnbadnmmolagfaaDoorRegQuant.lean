/- Package regex: quantifier (printed by gen_reg.py). -/
import Derived.Test.YtnbadnmmolagfaaDoorRegWords
namespace Go.Proofs.YtnbadnmmolagfaaDoor
open Go.RowKit
set_option maxRecDepth 100000
set_option linter.unusedVariables false
set_option linter.unusedSimpArgs false

theorem is_no {b : Nat} {l : Ln} {u : Bool} {xs : List Value} {r : Ln} {w : World} (h : Rd b l u xs r w) (hl : l.length ≤ 4096) {t : Ln} (hp : hasP t r = false) :
    Calls Tryd.prog 23 #[.pointer (some ⟨b, 0, none⟩), .string (strOf t)] w fun e w' => e = .returned (.bool false) ∧ Rd b l u xs r w' ∧ w.grownBy w' (some b) := by
  have := is_any b l u xs r w h hl t
  rw [hp, show skipL t r = r from by unfold skipL; rw [hp]; rfl] at this
  exact this
theorem is_yes {b : Nat} {l : Ln} {u : Bool} {xs : List Value} {r : Ln} {w : World} (h : Rd b l u xs r w) (hl : l.length ≤ 4096) {t : Ln} (hp : hasP t r = true) :
    Calls Tryd.prog 23 #[.pointer (some ⟨b, 0, none⟩), .string (strOf t)] w fun e w' => e = .returned (.bool true) ∧ Rd b l u xs (r.drop t.length) w' ∧ w.grownBy w' (some b) := by
  have := is_any b l u xs r w h hl t
  rw [hp, show skipL t r = r.drop t.length from by unfold skipL; rw [hp]; rfl] at this
  exact this
theorem want_no {b : Nat} {l : Ln} {u : Bool} {xs : List Value} {r : Ln} {w : World} (h : Rd b l u xs r w) (hl : l.length ≤ 4096) {t : Ln} (hp : hasP t r = false) :
    Calls Tryd.prog 31 #[.pointer (some ⟨b, 0, none⟩), .string (strOf t)] w fun e w' => e = thrown l.length (form r) ∧ w.grownBy w' (some b) := by
  have := want_any b l u xs r w h hl t
  rw [show wantL t r = .error (form r) from by unfold wantL; rw [hp]; rfl] at this
  exact this.mono fun _ _ ⟨h1, h2⟩ => ⟨h2, h1⟩
theorem want_yes {b : Nat} {l : Ln} {u : Bool} {xs : List Value} {r : Ln} {w : World} (h : Rd b l u xs r w) (hl : l.length ≤ 4096) {t : Ln} (hp : hasP t r = true) :
    Calls Tryd.prog 31 #[.pointer (some ⟨b, 0, none⟩), .string (strOf t)] w fun e w' => e = .returned (.tuple #[]) ∧ Rd b l u xs (r.drop t.length) w' ∧ w.grownBy w' (some b) := by
  have := want_any b l u xs r w h hl t
  rw [show wantL t r = .ok (r.drop t.length) from by unfold wantL; rw [hp]; rfl] at this
  exact this.mono fun _ _ ⟨h1, h2, h3⟩ => ⟨h2, h3, h1⟩
/-- A reader that was met in a world which came of w. -/
structure At (b : Nat) (l : Ln) (u : Bool) (xs : List Value) (w : World) (r : Ln) (w' : World) : Prop where
  rd : Rd b l u xs r w'
  gr : w.grownBy w' (some b)
theorem At.next {b : Nat} {l : Ln} {u : Bool} {xs : List Value} {w w1 w2 : World} {r r1 : Ln} (h : At b l u xs w r w1) (h1 : Rd b l u xs r1 w2) (h2 : w1.grownBy w2 (some b)) : At b l u xs w r1 w2 := ⟨h1, grown_trans h.gr h2⟩

set_option maxHeartbeats 8000000 in
theorem quantifier_any (b : Nat) (l : Ln) (u : Bool) (xs : List Value) (r : Ln) (w : World) (h : Rd b l u xs r w) (hl : l.length ≤ 4096) :
    Calls Tryd.prog 29 #[.pointer (some ⟨b, 0, none⟩)] w (Ends b l u xs w ((quantL r).map fun p => (.tuple #[], p))) := by
  have H0 := Lib.hid (show At b l u xs w r w from ⟨h, grown_refl _ _⟩)
  obtain ⟨k, hk, hd, hb⟩ := h
  have c1 := hb.cell 1
  have HK := Lib.hid hk
  clear hk hd hb
  go_enter Tryd.func29, Tryd.ntmps29
  go_wp2_with fail
  clear c1
  rcases Bool.eq_false_or_eq_true (hasP [42] r) with p1 | p1
  · have P1 := Lib.hid p1
    refine (is_yes H0.out.rd hl p1).mono ?_
    rintro e w2 ⟨rfl, hr, hg⟩
    obtain ⟨q2, hq⟩ : ∃ q, q = r.drop 1 := ⟨_, rfl⟩
    replace hr : Rd b l u xs q2 w2 := by rw [hq]; exact hr
    have H2 := Lib.hid (H0.out.next hr hg)
    have E2 := Lib.hid hq
    clear hr hg hq
    clear p1
    go_wp2_with fail
    rcases Bool.eq_false_or_eq_true (hasP [63] q2) with p3 | p3
    · have P3 := Lib.hid p3
      refine (is_yes H2.out.rd hl p3).mono ?_
      rintro e w4 ⟨rfl, hr, hg⟩
      obtain ⟨q4, hq⟩ : ∃ q, q = q2.drop 1 := ⟨_, rfl⟩
      replace hr : Rd b l u xs q4 w4 := by rw [hq]; exact hr
      have H4 := Lib.hid (H2.out.next hr hg)
      have E4 := Lib.hid hq
      clear hr hg hq
      clear p3
      go_wp2_with fail
      go_end0
      obtain rfl := E2.out
      obtain rfl := E4.out
      rw [show quantL r = .ok (((r.drop 1).drop 1)) from by simp [-List.drop_one, -List.drop_drop, -List.length_drop, bind, Except.bind, quantL, bracesL, wantL, skipL, P1.out, P3.out]]
      exact ⟨H4.out.gr, rfl, H4.out.rd⟩
    · have P3 := Lib.hid p3
      refine (is_no H2.out.rd hl p3).mono ?_
      rintro e w5 ⟨rfl, hr, hg⟩
      have H5 := Lib.hid (H2.out.next hr hg)
      clear hr hg
      clear p3
      go_wp2_with fail
      go_end0
      obtain rfl := E2.out
      rw [show quantL r = .ok ((r.drop 1)) from by simp [-List.drop_one, -List.drop_drop, -List.length_drop, bind, Except.bind, quantL, bracesL, wantL, skipL, P1.out, P3.out]]
      exact ⟨H5.out.gr, rfl, H5.out.rd⟩
  · have P1 := Lib.hid p1
    refine (is_no H0.out.rd hl p1).mono ?_
    rintro e w6 ⟨rfl, hr, hg⟩
    have H6 := Lib.hid (H0.out.next hr hg)
    clear hr hg
    clear p1
    go_wp2_with fail
    rcases Bool.eq_false_or_eq_true (hasP [43] r) with p7 | p7
    · have P7 := Lib.hid p7
      refine (is_yes H6.out.rd hl p7).mono ?_
      rintro e w8 ⟨rfl, hr, hg⟩
      obtain ⟨q8, hq⟩ : ∃ q, q = r.drop 1 := ⟨_, rfl⟩
      replace hr : Rd b l u xs q8 w8 := by rw [hq]; exact hr
      have H8 := Lib.hid (H6.out.next hr hg)
      have E8 := Lib.hid hq
      clear hr hg hq
      clear p7
      go_wp2_with fail
      rcases Bool.eq_false_or_eq_true (hasP [63] q8) with p9 | p9
      · have P9 := Lib.hid p9
        refine (is_yes H8.out.rd hl p9).mono ?_
        rintro e w10 ⟨rfl, hr, hg⟩
        obtain ⟨q10, hq⟩ : ∃ q, q = q8.drop 1 := ⟨_, rfl⟩
        replace hr : Rd b l u xs q10 w10 := by rw [hq]; exact hr
        have H10 := Lib.hid (H8.out.next hr hg)
        have E10 := Lib.hid hq
        clear hr hg hq
        clear p9
        go_wp2_with fail
        go_end0
        obtain rfl := E8.out
        obtain rfl := E10.out
        rw [show quantL r = .ok (((r.drop 1).drop 1)) from by simp [-List.drop_one, -List.drop_drop, -List.length_drop, bind, Except.bind, quantL, bracesL, wantL, skipL, P1.out, P7.out, P9.out]]
        exact ⟨H10.out.gr, rfl, H10.out.rd⟩
      · have P9 := Lib.hid p9
        refine (is_no H8.out.rd hl p9).mono ?_
        rintro e w11 ⟨rfl, hr, hg⟩
        have H11 := Lib.hid (H8.out.next hr hg)
        clear hr hg
        clear p9
        go_wp2_with fail
        go_end0
        obtain rfl := E8.out
        rw [show quantL r = .ok ((r.drop 1)) from by simp [-List.drop_one, -List.drop_drop, -List.length_drop, bind, Except.bind, quantL, bracesL, wantL, skipL, P1.out, P7.out, P9.out]]
        exact ⟨H11.out.gr, rfl, H11.out.rd⟩
    · have P7 := Lib.hid p7
      refine (is_no H6.out.rd hl p7).mono ?_
      rintro e w12 ⟨rfl, hr, hg⟩
      have H12 := Lib.hid (H6.out.next hr hg)
      clear hr hg
      clear p7
      go_wp2_with fail
      rcases Bool.eq_false_or_eq_true (hasP [63] r) with p13 | p13
      · have P13 := Lib.hid p13
        refine (is_yes H12.out.rd hl p13).mono ?_
        rintro e w14 ⟨rfl, hr, hg⟩
        obtain ⟨q14, hq⟩ : ∃ q, q = r.drop 1 := ⟨_, rfl⟩
        replace hr : Rd b l u xs q14 w14 := by rw [hq]; exact hr
        have H14 := Lib.hid (H12.out.next hr hg)
        have E14 := Lib.hid hq
        clear hr hg hq
        clear p13
        go_wp2_with fail
        rcases Bool.eq_false_or_eq_true (hasP [63] q14) with p15 | p15
        · have P15 := Lib.hid p15
          refine (is_yes H14.out.rd hl p15).mono ?_
          rintro e w16 ⟨rfl, hr, hg⟩
          obtain ⟨q16, hq⟩ : ∃ q, q = q14.drop 1 := ⟨_, rfl⟩
          replace hr : Rd b l u xs q16 w16 := by rw [hq]; exact hr
          have H16 := Lib.hid (H14.out.next hr hg)
          have E16 := Lib.hid hq
          clear hr hg hq
          clear p15
          go_wp2_with fail
          go_end0
          obtain rfl := E14.out
          obtain rfl := E16.out
          rw [show quantL r = .ok (((r.drop 1).drop 1)) from by simp [-List.drop_one, -List.drop_drop, -List.length_drop, bind, Except.bind, quantL, bracesL, wantL, skipL, P1.out, P7.out, P13.out, P15.out]]
          exact ⟨H16.out.gr, rfl, H16.out.rd⟩
        · have P15 := Lib.hid p15
          refine (is_no H14.out.rd hl p15).mono ?_
          rintro e w17 ⟨rfl, hr, hg⟩
          have H17 := Lib.hid (H14.out.next hr hg)
          clear hr hg
          clear p15
          go_wp2_with fail
          go_end0
          obtain rfl := E14.out
          rw [show quantL r = .ok ((r.drop 1)) from by simp [-List.drop_one, -List.drop_drop, -List.length_drop, bind, Except.bind, quantL, bracesL, wantL, skipL, P1.out, P7.out, P13.out, P15.out]]
          exact ⟨H17.out.gr, rfl, H17.out.rd⟩
      · have P13 := Lib.hid p13
        refine (is_no H12.out.rd hl p13).mono ?_
        rintro e w18 ⟨rfl, hr, hg⟩
        have H18 := Lib.hid (H12.out.next hr hg)
        clear hr hg
        clear p13
        go_wp2_with fail
        rcases Bool.eq_false_or_eq_true (hasP [123] r) with p19 | p19
        · have P19 := Lib.hid p19
          refine (is_yes H18.out.rd hl p19).mono ?_
          rintro e w20 ⟨rfl, hr, hg⟩
          obtain ⟨q20, hq⟩ : ∃ q, q = r.drop 1 := ⟨_, rfl⟩
          replace hr : Rd b l u xs q20 w20 := by rw [hq]; exact hr
          have H20 := Lib.hid (H18.out.next hr hg)
          have E20 := Lib.hid hq
          clear hr hg hq
          clear p19
          go_wp2_with fail
          have X21 := digits_any b l u xs q20 _ H20.out.rd hl
          rcases p21 : digitsL q20 with f21 | ⟨least, r2⟩
          · have P21 := Lib.hid p21
            rw [p21] at X21
            clear p21
            refine X21.mono ?_
            rintro e w21 ⟨hg, rfl⟩
            clear X21
            obtain rfl := E20.out
            try simp (config := { zetaDelta := true }) only [Exit.noGoto_ret, Exit.inBlock, Exit.then]
            refine ⟨rfl, ?_⟩
            rw [show quantL r = .error (f21) from by simp [-List.drop_one, -List.drop_drop, -List.length_drop, bind, Except.bind, quantL, bracesL, wantL, skipL, P1.out, P7.out, P13.out, P19.out, P21.out]]
            exact ⟨(grown_trans H20.out.gr hg), rfl⟩
          · have P21 := Lib.hid p21
            rw [p21] at X21
            clear p21
            refine X21.mono ?_
            rintro e w21 ⟨hg, rfl, hr⟩
            have H21 := Lib.hid (H20.out.next hr hg)
            clear hr hg X21
            go_wp2_with fail
            rcases Bool.eq_false_or_eq_true (hasP [44] r2) with p22 | p22
            · have P22 := Lib.hid p22
              refine (is_yes H21.out.rd hl p22).mono ?_
              rintro e w23 ⟨rfl, hr, hg⟩
              obtain ⟨q23, hq⟩ : ∃ q, q = r2.drop 1 := ⟨_, rfl⟩
              replace hr : Rd b l u xs q23 w23 := by rw [hq]; exact hr
              have H23 := Lib.hid (H21.out.next hr hg)
              have E23 := Lib.hid hq
              clear hr hg hq
              clear p22
              go_wp2_with fail
              rcases Bool.eq_false_or_eq_true (digitB (peekL q23)) with p24 | p24
              · have P24 := Lib.hid p24
                refine (peek_rd b l u xs q23 _ H23.out.rd hl).mono ?_
                rintro e w25 ⟨rfl, hr, hg⟩
                have H25 := Lib.hid (H23.out.next hr (grown_of hg _))
                clear hr hg
                go_wp2_with (go_at_call 37; refine (digit_any _ _).mono ?_; rintro e w0 ⟨rfl, rfl⟩)
                clear p24
                have X26 := digits_any b l u xs q23 _ H25.out.rd hl
                rcases p26 : digitsL q23 with f26 | ⟨most, r4⟩
                · have P26 := Lib.hid p26
                  rw [p26] at X26
                  clear p26
                  refine X26.mono ?_
                  rintro e w26 ⟨hg, rfl⟩
                  clear X26
                  obtain rfl := E20.out
                  obtain rfl := E23.out
                  try simp (config := { zetaDelta := true }) only [Exit.noGoto_ret, Exit.inBlock, Exit.then]
                  refine ⟨rfl, ?_⟩
                  rw [show quantL r = .error (f26) from by simp [-List.drop_one, -List.drop_drop, -List.length_drop, bind, Except.bind, quantL, bracesL, wantL, skipL, P1.out, P7.out, P13.out, P19.out, P21.out, P22.out, P24.out, P26.out]]
                  exact ⟨(grown_trans H25.out.gr hg), rfl⟩
                · have P26 := Lib.hid p26
                  rw [p26] at X26
                  clear p26
                  refine X26.mono ?_
                  rintro e w26 ⟨hg, rfl, hr⟩
                  have H26 := Lib.hid (H25.out.next hr hg)
                  clear hr hg X26
                  go_wp2_with fail
                  rcases Bool.eq_false_or_eq_true (hasP [125] r4) with p27 | p27
                  · have P27 := Lib.hid p27
                    refine (want_yes H26.out.rd hl p27).mono ?_
                    rintro e w28 ⟨rfl, hr, hg⟩
                    obtain ⟨q28, hq⟩ : ∃ q, q = r4.drop 1 := ⟨_, rfl⟩
                    replace hr : Rd b l u xs q28 w28 := by rw [hq]; exact hr
                    have H28 := Lib.hid (H26.out.next hr hg)
                    have E28 := Lib.hid hq
                    clear hr hg hq
                    clear p27
                    go_wp2_with fail
                    rcases Bool.eq_false_or_eq_true (belowL most least) with p29 | p29
                    · have P29 := Lib.hid p29
                      go_wp2_with (go_at_call 25; refine (below_any _ _ _).mono ?_; rintro e w0 ⟨rfl, rfl⟩)
                      refine (fail_any _ _ _).mono ?_
                      rintro e w9 ⟨he, rfl⟩
                      replace he := he.trans (thrown_at 403 HK.out)
                      subst he
                      obtain rfl := E20.out
                      obtain rfl := E23.out
                      obtain rfl := E28.out
                      try simp (config := { zetaDelta := true }) only [Exit.noGoto_ret, Exit.inBlock, Exit.then]
                      refine ⟨rfl, ?_⟩
                      rw [show quantL r = .error ((403, r.length)) from by simp [-List.drop_one, -List.drop_drop, -List.length_drop, bind, Except.bind, quantL, bracesL, wantL, skipL, P1.out, P7.out, P13.out, P19.out, P21.out, P22.out, P24.out, P26.out, P27.out, P29.out]]
                      exact ⟨H28.out.gr, rfl⟩
                    · have P29 := Lib.hid p29
                      go_wp2_with (go_at_call 25; refine (below_any _ _ _).mono ?_; rintro e w0 ⟨rfl, rfl⟩)
                      rcases Bool.eq_false_or_eq_true (hasP [63] q28) with p30 | p30
                      · have P30 := Lib.hid p30
                        refine (is_yes H28.out.rd hl p30).mono ?_
                        rintro e w31 ⟨rfl, hr, hg⟩
                        obtain ⟨q31, hq⟩ : ∃ q, q = q28.drop 1 := ⟨_, rfl⟩
                        replace hr : Rd b l u xs q31 w31 := by rw [hq]; exact hr
                        have H31 := Lib.hid (H28.out.next hr hg)
                        have E31 := Lib.hid hq
                        clear hr hg hq
                        clear p30
                        go_wp2_with fail
                        go_end0
                        obtain rfl := E20.out
                        obtain rfl := E23.out
                        obtain rfl := E28.out
                        obtain rfl := E31.out
                        rw [show quantL r = .ok (((r4.drop 1).drop 1)) from by simp [-List.drop_one, -List.drop_drop, -List.length_drop, bind, Except.bind, quantL, bracesL, wantL, skipL, P1.out, P7.out, P13.out, P19.out, P21.out, P22.out, P24.out, P26.out, P27.out, P29.out, P30.out]]
                        exact ⟨H31.out.gr, rfl, H31.out.rd⟩
                      · have P30 := Lib.hid p30
                        refine (is_no H28.out.rd hl p30).mono ?_
                        rintro e w32 ⟨rfl, hr, hg⟩
                        have H32 := Lib.hid (H28.out.next hr hg)
                        clear hr hg
                        clear p30
                        go_wp2_with fail
                        go_end0
                        obtain rfl := E20.out
                        obtain rfl := E23.out
                        obtain rfl := E28.out
                        rw [show quantL r = .ok ((r4.drop 1)) from by simp [-List.drop_one, -List.drop_drop, -List.length_drop, bind, Except.bind, quantL, bracesL, wantL, skipL, P1.out, P7.out, P13.out, P19.out, P21.out, P22.out, P24.out, P26.out, P27.out, P29.out, P30.out]]
                        exact ⟨H32.out.gr, rfl, H32.out.rd⟩
                  · have P27 := Lib.hid p27
                    refine (want_no H26.out.rd hl p27).mono ?_
                    rintro e w27 ⟨rfl, hg⟩
                    clear p27
                    obtain rfl := E20.out
                    obtain rfl := E23.out
                    try simp (config := { zetaDelta := true }) only [Exit.noGoto_ret, Exit.inBlock, Exit.then]
                    refine ⟨rfl, ?_⟩
                    rw [show quantL r = .error (form r4) from by simp [-List.drop_one, -List.drop_drop, -List.length_drop, bind, Except.bind, quantL, bracesL, wantL, skipL, P1.out, P7.out, P13.out, P19.out, P21.out, P22.out, P24.out, P26.out, P27.out]]
                    exact ⟨(grown_trans H26.out.gr hg), rfl⟩
              · have P24 := Lib.hid p24
                refine (peek_rd b l u xs q23 _ H23.out.rd hl).mono ?_
                rintro e w33 ⟨rfl, hr, hg⟩
                have H33 := Lib.hid (H23.out.next hr (grown_of hg _))
                clear hr hg
                go_wp2_with (go_at_call 37; refine (digit_any _ _).mono ?_; rintro e w0 ⟨rfl, rfl⟩)
                clear p24
                rcases Bool.eq_false_or_eq_true (hasP [125] q23) with p34 | p34
                · have P34 := Lib.hid p34
                  refine (want_yes H33.out.rd hl p34).mono ?_
                  rintro e w35 ⟨rfl, hr, hg⟩
                  obtain ⟨q35, hq⟩ : ∃ q, q = q23.drop 1 := ⟨_, rfl⟩
                  replace hr : Rd b l u xs q35 w35 := by rw [hq]; exact hr
                  have H35 := Lib.hid (H33.out.next hr hg)
                  have E35 := Lib.hid hq
                  clear hr hg hq
                  clear p34
                  go_wp2_with fail
                  rcases Bool.eq_false_or_eq_true (hasP [63] q35) with p36 | p36
                  · have P36 := Lib.hid p36
                    refine (is_yes H35.out.rd hl p36).mono ?_
                    rintro e w37 ⟨rfl, hr, hg⟩
                    obtain ⟨q37, hq⟩ : ∃ q, q = q35.drop 1 := ⟨_, rfl⟩
                    replace hr : Rd b l u xs q37 w37 := by rw [hq]; exact hr
                    have H37 := Lib.hid (H35.out.next hr hg)
                    have E37 := Lib.hid hq
                    clear hr hg hq
                    clear p36
                    go_wp2_with fail
                    go_end0
                    obtain rfl := E20.out
                    obtain rfl := E23.out
                    obtain rfl := E35.out
                    obtain rfl := E37.out
                    rw [show quantL r = .ok ((((r2.drop 1).drop 1).drop 1)) from by simp [-List.drop_one, -List.drop_drop, -List.length_drop, bind, Except.bind, quantL, bracesL, wantL, skipL, P1.out, P7.out, P13.out, P19.out, P21.out, P22.out, P24.out, P34.out, P36.out]]
                    exact ⟨H37.out.gr, rfl, H37.out.rd⟩
                  · have P36 := Lib.hid p36
                    refine (is_no H35.out.rd hl p36).mono ?_
                    rintro e w38 ⟨rfl, hr, hg⟩
                    have H38 := Lib.hid (H35.out.next hr hg)
                    clear hr hg
                    clear p36
                    go_wp2_with fail
                    go_end0
                    obtain rfl := E20.out
                    obtain rfl := E23.out
                    obtain rfl := E35.out
                    rw [show quantL r = .ok (((r2.drop 1).drop 1)) from by simp [-List.drop_one, -List.drop_drop, -List.length_drop, bind, Except.bind, quantL, bracesL, wantL, skipL, P1.out, P7.out, P13.out, P19.out, P21.out, P22.out, P24.out, P34.out, P36.out]]
                    exact ⟨H38.out.gr, rfl, H38.out.rd⟩
                · have P34 := Lib.hid p34
                  refine (want_no H33.out.rd hl p34).mono ?_
                  rintro e w34 ⟨rfl, hg⟩
                  clear p34
                  obtain rfl := E20.out
                  obtain rfl := E23.out
                  try simp (config := { zetaDelta := true }) only [Exit.noGoto_ret, Exit.inBlock, Exit.then]
                  refine ⟨rfl, ?_⟩
                  rw [show quantL r = .error (form (r2.drop 1)) from by simp [-List.drop_one, -List.drop_drop, -List.length_drop, bind, Except.bind, quantL, bracesL, wantL, skipL, P1.out, P7.out, P13.out, P19.out, P21.out, P22.out, P24.out, P34.out]]
                  exact ⟨(grown_trans H33.out.gr hg), rfl⟩
            · have P22 := Lib.hid p22
              refine (is_no H21.out.rd hl p22).mono ?_
              rintro e w39 ⟨rfl, hr, hg⟩
              have H39 := Lib.hid (H21.out.next hr hg)
              clear hr hg
              clear p22
              go_wp2_with fail
              rcases Bool.eq_false_or_eq_true (hasP [125] r2) with p40 | p40
              · have P40 := Lib.hid p40
                refine (want_yes H39.out.rd hl p40).mono ?_
                rintro e w41 ⟨rfl, hr, hg⟩
                obtain ⟨q41, hq⟩ : ∃ q, q = r2.drop 1 := ⟨_, rfl⟩
                replace hr : Rd b l u xs q41 w41 := by rw [hq]; exact hr
                have H41 := Lib.hid (H39.out.next hr hg)
                have E41 := Lib.hid hq
                clear hr hg hq
                clear p40
                go_wp2_with fail
                rcases Bool.eq_false_or_eq_true (hasP [63] q41) with p42 | p42
                · have P42 := Lib.hid p42
                  refine (is_yes H41.out.rd hl p42).mono ?_
                  rintro e w43 ⟨rfl, hr, hg⟩
                  obtain ⟨q43, hq⟩ : ∃ q, q = q41.drop 1 := ⟨_, rfl⟩
                  replace hr : Rd b l u xs q43 w43 := by rw [hq]; exact hr
                  have H43 := Lib.hid (H41.out.next hr hg)
                  have E43 := Lib.hid hq
                  clear hr hg hq
                  clear p42
                  go_wp2_with fail
                  go_end0
                  obtain rfl := E20.out
                  obtain rfl := E41.out
                  obtain rfl := E43.out
                  rw [show quantL r = .ok (((r2.drop 1).drop 1)) from by simp [-List.drop_one, -List.drop_drop, -List.length_drop, bind, Except.bind, quantL, bracesL, wantL, skipL, P1.out, P7.out, P13.out, P19.out, P21.out, P22.out, P40.out, P42.out]]
                  exact ⟨H43.out.gr, rfl, H43.out.rd⟩
                · have P42 := Lib.hid p42
                  refine (is_no H41.out.rd hl p42).mono ?_
                  rintro e w44 ⟨rfl, hr, hg⟩
                  have H44 := Lib.hid (H41.out.next hr hg)
                  clear hr hg
                  clear p42
                  go_wp2_with fail
                  go_end0
                  obtain rfl := E20.out
                  obtain rfl := E41.out
                  rw [show quantL r = .ok ((r2.drop 1)) from by simp [-List.drop_one, -List.drop_drop, -List.length_drop, bind, Except.bind, quantL, bracesL, wantL, skipL, P1.out, P7.out, P13.out, P19.out, P21.out, P22.out, P40.out, P42.out]]
                  exact ⟨H44.out.gr, rfl, H44.out.rd⟩
              · have P40 := Lib.hid p40
                refine (want_no H39.out.rd hl p40).mono ?_
                rintro e w40 ⟨rfl, hg⟩
                clear p40
                obtain rfl := E20.out
                try simp (config := { zetaDelta := true }) only [Exit.noGoto_ret, Exit.inBlock, Exit.then]
                refine ⟨rfl, ?_⟩
                rw [show quantL r = .error (form r2) from by simp [-List.drop_one, -List.drop_drop, -List.length_drop, bind, Except.bind, quantL, bracesL, wantL, skipL, P1.out, P7.out, P13.out, P19.out, P21.out, P22.out, P40.out]]
                exact ⟨(grown_trans H39.out.gr hg), rfl⟩
        · have P19 := Lib.hid p19
          refine (is_no H18.out.rd hl p19).mono ?_
          rintro e w45 ⟨rfl, hr, hg⟩
          have H45 := Lib.hid (H18.out.next hr hg)
          clear hr hg
          clear p19
          go_wp2_with fail
          go_end0
          rw [show quantL r = .ok (r) from by simp [-List.drop_one, -List.drop_drop, -List.length_drop, bind, Except.bind, quantL, bracesL, wantL, skipL, P1.out, P7.out, P13.out, P19.out]]
          exact ⟨H45.out.gr, rfl, H45.out.rd⟩
end Go.Proofs.YtnbadnmmolagfaaDoor
