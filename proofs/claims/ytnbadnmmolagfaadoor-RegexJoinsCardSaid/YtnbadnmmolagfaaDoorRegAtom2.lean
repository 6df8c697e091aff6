/- Package regex: atom (printed by gen_regatom.py). -/
import Derived.Test.YtnbadnmmolagfaaDoorRegAtom
namespace Go.Proofs.YtnbadnmmolagfaaDoor
open Go.RowKit
set_option maxRecDepth 100000
set_option linter.unusedVariables false
set_option linter.unusedSimpArgs false

set_option maxHeartbeats 16000000 in
theorem atom_any (B b M : Nat) (l : Ln) (u : Bool) (k : Nat) (hP : PatOk B b M l u k) (s : St) (vn vd : Value) (es : Array MapEntry) (clock : Nat) (w : World) (h : Rs B b M l u s vn vd es clock w) (hl : l.length ≤ 4096) (hE : Env w) (hB2 : 2 < B) (hbw : B ≤ w.heap.size) (hk : s.r.length ≤ k) (hs : s.sum ≤ 4096) (hr0 : s.r ≠ []) :
    Calls Tryd.prog 28 #[.pointer (some ⟨b, 0, none⟩)] w (EndS B b M l u w (atomS u (patF u k) s)) := by
  have H0 := Lib.hid (show Ht B b M l u w vn vd es clock s w from ⟨h, Below.refl _ _, hbw⟩)
  have HE := Lib.hid (fun w1 (hg : Below B w w1) => hE.low hg hB2)
  have hb2 : 2 < b := by have := h.hb; omega
  have HF := Lib.hid hs
  have HKL := Lib.hid hk
  have HNE := Lib.hid hr0
  clear h hE hs hk hr0
  go_enter Tryd.func28, Tryd.ntmps28
  go_wp2_with fail
  rcases Bool.eq_false_or_eq_true (hasP [40, 63, 58] s.r) with p1 | p1
  · have P1 := Lib.hid p1
    have L1 : Hid ((s.r.drop 3).length + 3 = s.r.length) := Lib.hid (has_drop p1)
    refine (is_yes H0.out.rs.rd hl p1).mono ?_
    rintro e w1 ⟨rfl, hr, hg⟩
    obtain ⟨q1, hq⟩ : ∃ q, q = s.r.drop 3 := ⟨_, rfl⟩
    replace hr : Rd b l u [.int .i64 (s.g : Int), .map (some M), vn, vd] q1 w1 := by rw [hq]; exact hr
    rw [← hq] at L1
    have H1 := Lib.hid (H0.out.next hr hg)
    have E1 := Lib.hid hq
    clear hr hg hq p1
    go_wp2_with fail
    have HG := Lib.hid (group_any B b M l u k hP { s with r := q1 } _ _ _ _ _ H1.out.rs hl (HE.out _ H1.out.be) H1.out.big (by have h1 := HF.out; have h2 := HKL.out; have h3 := L1.out; unfold St.sum at *; dsimp only; omega) (by have h1 := HF.out; have h2 := HKL.out; have h3 := L1.out; unfold St.sum at *; dsimp only; omega))
    have HRES : Hid (atomS u (patF u k) s = groupS (patF u k) { s with r := q1 }) := Lib.hid (by unfold atomS; rw [if_pos P1.out]; rw [← E1.out])
    go_wp2_with fail
    rcases hp : groupS (patF u k) { s with r := q1 } with f | s1
    · have PX := Lib.hid hp
      rw [hp] at HG
      clear hp
      refine HG.out.mono ?_
      rintro e w9 ⟨hb, rfl⟩
      try simp (config := { zetaDelta := true }) only [Exit.noGoto_ret, Exit.inBlock, Exit.then]
      refine ⟨rfl, ?_⟩
      rw [HRES.out, PX.out]
      exact ⟨H1.out.be.trans hb, rfl⟩
    · have PX := Lib.hid hp
      rw [hp] at HG
      clear hp
      refine HG.out.mono ?_
      rintro e w9 ⟨hb, rfl, vn1, vd1, es1, clock1, hr⟩
      have HX := Lib.hid (H1.out.heavy hb hr)
      clear hb hr
      go_wp2_with fail
      try simp (config := { zetaDelta := true }) only [Exit.noGoto_ret, Exit.inBlock, Exit.then]
      go_end0
      rw [HRES.out, PX.out]
      exact HX.out.ends
  · have P1 := Lib.hid p1
    refine (is_no H0.out.rs.rd hl p1).mono ?_
    rintro e w1 ⟨rfl, hr, hg⟩
    have H1 := Lib.hid (H0.out.next hr hg)
    clear hr hg p1
    go_wp2_with fail
    rcases Bool.eq_false_or_eq_true (hasP [40, 63, 60] s.r) with p2 | p2
    · have P2 := Lib.hid p2
      have L2 : Hid ((s.r.drop 3).length + 3 = s.r.length) := Lib.hid (has_drop p2)
      refine (is_yes H1.out.rs.rd hl p2).mono ?_
      rintro e w2 ⟨rfl, hr, hg⟩
      obtain ⟨q2, hq⟩ : ∃ q, q = s.r.drop 3 := ⟨_, rfl⟩
      replace hr : Rd b l u [.int .i64 (s.g : Int), .map (some M), vn, vd] q2 w2 := by rw [hq]; exact hr
      rw [← hq] at L2
      have H2 := Lib.hid (H1.out.next hr hg)
      have E2 := Lib.hid hq
      clear hr hg hq p2
      obtain ⟨k2, hk2, hd2, hb3⟩ := H2.out.rs.rd
      have c1 := hb3.cell 1
      have c3 := hb3.cell 3
      have f3 := hb3.frozen 3
      have HK2 := Lib.hid hk2
      have hsg : s.g ≤ 4096 := by have := HF.out; unfold St.sum at this; omega
      have hwr : wrap64 ((s.g : Int) + 1) = ((s.g + 1 : Nat) : Int) := by rw [IntWalk.wrap64_in _ ⟨by omega, by omega⟩]; omega
      have H3 := Lib.hid (H2.out.more hwr)
      clear hk2 hd2 hb3 hwr hsg
      go_wp2_with fail
      clear c1 c3 f3
      generalize hW : w2.setCell ⟨b, 3, none⟩ (.int .i64 (wrap64 ((s.g : Int) + 1))) = W
      rw [hW] at H3
      clear hW
      have HRS : Hid (atomS u (patF u k) s = (do
          let (t, r1) ← nameL q2
          if (s.nm.find? (fun x => x.1 == t)).isSome then .error (404, q2.length)
          else groupS (patF u k) { s with r := r1, g := s.g + 1, nm := s.nm ++ [(t, s.g + 1)] })) := Lib.hid (by unfold atomS; rw [if_neg (by rw [P1.out]; exact Bool.false_ne_true)]; rw [if_pos P2.out]; rw [← E2.out])
      have HY := Lib.hid (name_any b l u _ q2 W H3.out.rs.rd hl (fun w1 hg => (HE.out w1 (below_grown H3.out.be hbw hg H3.out.rs.hb)).1))
      rcases hn : nameL q2 with f | ⟨t, r1⟩
      · have PX := Lib.hid hn
        rw [hn] at HY
        clear hn
        refine HY.out.mono ?_
        rintro e w3 ⟨hg, rfl⟩
        try simp (config := { zetaDelta := true }) only [Exit.noGoto_ret, Exit.inBlock, Exit.then]
        refine ⟨rfl, ?_⟩
        rw [show atomS u (patF u k) s = .error f from by rw [HRS.out, PX.out]; rfl]
        exact H3.out.bad f hg
      · have PX := Lib.hid hn
        have HNL := Lib.hid (name_len hn)
        rw [hn] at HY
        clear hn
        refine HY.out.mono ?_
        rintro e w3 ⟨hg, rfl, hr⟩
        have H4 := Lib.hid (H3.out.next hr hg)
        clear hr hg HY
        obtain ⟨k4, hk4, hd4, hb4⟩ := H4.out.rs.rd
        have c4 := hb4.cell 4
        have c3 := hb4.cell 3
        obtain ⟨v0, hlk⟩ := lookup_names H4.out.rs.mp H4.out.rs.nm t
        clear hk4 hd4 hb4
        rcases Bool.eq_false_or_eq_true (s.nm.find? (fun x => x.1 == t)).isSome with hf | hf
        · have PF := Lib.hid hf
          have hlk' : (Instr.lookup 44 (.map (some M)) (.string (strOf t)) true).run Tryd.prog w3 = .ok (.tuple #[v0, .bool true]) w3 := by rw [hlk]; dsimp only; rw [hf]
          clear hf hlk
          go_wp2_with fail
          refine (fail_any _ _ _).mono ?_
          rintro e w9 ⟨he, rfl⟩
          replace he := he.trans (thrown_at 404 HK2.out)
          subst he
          try simp (config := { zetaDelta := true }) only [Exit.noGoto_ret, Exit.inBlock, Exit.then]
          refine ⟨rfl, ?_⟩
          rw [show atomS u (patF u k) s = .error (404, q2.length) from by rw [HRS.out, PX.out]; simp only [bind, Except.bind]; rw [if_pos PF.out]]
          exact H4.out.bad _ (grown_refl _ _)
        · have PF := Lib.hid hf
          have hlk' : (Instr.lookup 44 (.map (some M)) (.string (strOf t)) true).run Tryd.prog w3 = .ok (.tuple #[v0, .bool false]) w3 := by rw [hlk]; dsimp only; rw [hf]
          have H4d := Lib.hid (show Ht B b M l u w vn vd es clock { s with r := r1, g := s.g + 1 } w3.drew from H4.out.next (H4.out.rs.rd.drew 1) (grown_drew (grown_refl _ _) 1))
          have hup : (Instr.mapUpdate 44 (.map (some M)) (.string (strOf t)) (.int .i64 ((s.g : Int) + 1))).run Tryd.prog w3.drew = .ok () (putName w3.drew M es clock t (s.g + 1)) := update_names H4d.out.rs.mp H4d.out.rs.nm t (s.g + 1) hf
          have H5 := Lib.hid (H4d.out.put t (s.g + 1))
          clear hf hlk
          go_wp2_with fail
          refine wp_region_chain2 (fun w' => w'.cell? ⟨b, 4, none⟩ = some (.map (some M)) ∧ w'.cell? ⟨b, 3, none⟩ = some (.int .i64 ((s.g + 1 : Nat) : Int))) 9 0 _ (by kernel_rfl) rfl (by kernel_rfl) (by kernel_rfl) (by intro _ _ d _ _ h; cases d <;> exact h) ⟨c4, c3⟩ ?_
          simp only [List.take_succ_cons, List.take_zero, List.drop_succ_cons, List.drop_zero, List.cons_append, List.nil_append]
          repeat (refine wpHeld_step rfl ?_; apply Exists.intro; refine ⟨fun wq hq => ?_, ?_⟩; (obtain ⟨x1, x2⟩ := hq; go_simp; first | done | rfl | (rw [x1]; rfl) | (rw [x2]; rfl)); simp only [Act.put, List.setIfInBounds_toArray, List.set_cons_zero, List.set_cons_succ])
          change Oper.wp _ _ _ _ _ _
          clear c4 c3
          go_simp
          go_wp2_with fail
          have HG := Lib.hid (group_any B b M l u k hP { s with r := r1, g := s.g + 1, nm := s.nm ++ [(t, s.g + 1)] } _ _ _ _ _ H5.out.rs hl (HE.out _ H5.out.be) H5.out.big (by have h1 := HF.out; have h2 := HKL.out; have h3 := L2.out; have h4 := HNL.out; unfold St.sum at *; dsimp only; omega) (by have h1 := HF.out; have h2 := HKL.out; have h3 := L2.out; have h4 := HNL.out; unfold St.sum at *; dsimp only; omega))
          have HRES : Hid (atomS u (patF u k) s = groupS (patF u k) { s with r := r1, g := s.g + 1, nm := s.nm ++ [(t, s.g + 1)] }) := Lib.hid (by rw [HRS.out, PX.out]; simp only [bind, Except.bind]; rw [if_neg (by rw [PF.out]; exact Bool.false_ne_true)])
          go_wp2_with fail
          rcases hp : groupS (patF u k) { s with r := r1, g := s.g + 1, nm := s.nm ++ [(t, s.g + 1)] } with f | s1
          · have PX := Lib.hid hp
            rw [hp] at HG
            clear hp
            refine HG.out.mono ?_
            rintro e w9 ⟨hb, rfl⟩
            try simp (config := { zetaDelta := true }) only [Exit.noGoto_ret, Exit.inBlock, Exit.then]
            refine ⟨rfl, ?_⟩
            rw [HRES.out, PX.out]
            exact ⟨H5.out.be.trans hb, rfl⟩
          · have PX := Lib.hid hp
            rw [hp] at HG
            clear hp
            refine HG.out.mono ?_
            rintro e w9 ⟨hb, rfl, vn1, vd1, es1, clock1, hr⟩
            have HX := Lib.hid (H5.out.heavy hb hr)
            clear hb hr
            go_wp2_with fail
            try simp (config := { zetaDelta := true }) only [Exit.noGoto_ret, Exit.inBlock, Exit.then]
            go_end0
            rw [HRES.out, PX.out]
            exact HX.out.ends
    · have P2 := Lib.hid p2
      refine (is_no H1.out.rs.rd hl p2).mono ?_
      rintro e w2 ⟨rfl, hr, hg⟩
      have H2 := Lib.hid (H1.out.next hr hg)
      clear hr hg p2
      go_wp2_with fail
      rcases Bool.eq_false_or_eq_true (hasP [40] s.r) with p3 | p3
      · have P3 := Lib.hid p3
        have L3 : Hid ((s.r.drop 1).length + 1 = s.r.length) := Lib.hid (has_drop p3)
        refine (is_yes H2.out.rs.rd hl p3).mono ?_
        rintro e w3 ⟨rfl, hr, hg⟩
        obtain ⟨q3, hq⟩ : ∃ q, q = s.r.drop 1 := ⟨_, rfl⟩
        replace hr : Rd b l u [.int .i64 (s.g : Int), .map (some M), vn, vd] q3 w3 := by rw [hq]; exact hr
        rw [← hq] at L3
        have H3 := Lib.hid (H2.out.next hr hg)
        have E3 := Lib.hid hq
        clear hr hg hq p3
        obtain ⟨k2, hk2, hd2, hb3⟩ := H3.out.rs.rd
        have c3 := hb3.cell 3
        have f3 := hb3.frozen 3
        have hsg : s.g ≤ 4096 := by have := HF.out; unfold St.sum at this; omega
        have hwr : wrap64 ((s.g : Int) + 1) = ((s.g + 1 : Nat) : Int) := by rw [IntWalk.wrap64_in _ ⟨by omega, by omega⟩]; omega
        have H4 := Lib.hid (H3.out.more hwr)
        clear hk2 hd2 hb3 hwr hsg
        go_wp2_with fail
        clear c3 f3
        have HG := Lib.hid (group_any B b M l u k hP { s with r := q3, g := s.g + 1 } _ _ _ _ _ H4.out.rs hl (HE.out _ H4.out.be) H4.out.big (by have h1 := HF.out; have h2 := HKL.out; have h3 := L3.out; unfold St.sum at *; dsimp only; omega) (by have h1 := HF.out; have h2 := HKL.out; have h3 := L3.out; unfold St.sum at *; dsimp only; omega))
        have HRES : Hid (atomS u (patF u k) s = groupS (patF u k) { s with r := q3, g := s.g + 1 }) := Lib.hid (by unfold atomS; rw [if_neg (by rw [P1.out]; exact Bool.false_ne_true)]; rw [if_neg (by rw [P2.out]; exact Bool.false_ne_true)]; rw [if_pos P3.out]; rw [← E3.out])
        go_wp2_with fail
        rcases hp : groupS (patF u k) { s with r := q3, g := s.g + 1 } with f | s1
        · have PX := Lib.hid hp
          rw [hp] at HG
          clear hp
          refine HG.out.mono ?_
          rintro e w9 ⟨hb, rfl⟩
          try simp (config := { zetaDelta := true }) only [Exit.noGoto_ret, Exit.inBlock, Exit.then]
          refine ⟨rfl, ?_⟩
          rw [HRES.out, PX.out]
          exact ⟨H4.out.be.trans hb, rfl⟩
        · have PX := Lib.hid hp
          rw [hp] at HG
          clear hp
          refine HG.out.mono ?_
          rintro e w9 ⟨hb, rfl, vn1, vd1, es1, clock1, hr⟩
          have HX := Lib.hid (H4.out.heavy hb hr)
          clear hb hr
          go_wp2_with fail
          try simp (config := { zetaDelta := true }) only [Exit.noGoto_ret, Exit.inBlock, Exit.then]
          go_end0
          rw [HRES.out, PX.out]
          exact HX.out.ends
      · have P3 := Lib.hid p3
        refine (is_no H2.out.rs.rd hl p3).mono ?_
        rintro e w3 ⟨rfl, hr, hg⟩
        have H3 := Lib.hid (H2.out.next hr hg)
        clear hr hg p3
        go_wp2_with fail
        rcases Bool.eq_false_or_eq_true (hasP [91] s.r) with p4 | p4
        · have P4 := Lib.hid p4
          have L4 : Hid ((s.r.drop 1).length + 1 = s.r.length) := Lib.hid (has_drop p4)
          refine (is_yes H3.out.rs.rd hl p4).mono ?_
          rintro e w4 ⟨rfl, hr, hg⟩
          obtain ⟨q4, hq⟩ : ∃ q, q = s.r.drop 1 := ⟨_, rfl⟩
          replace hr : Rd b l u [.int .i64 (s.g : Int), .map (some M), vn, vd] q4 w4 := by rw [hq]; exact hr
          rw [← hq] at L4
          have H4 := Lib.hid (H3.out.next hr hg)
          have E4 := Lib.hid hq
          clear hr hg hq p4
          go_wp2_with fail
          have HY := Lib.hid (class_any b l u _ q4 w4 H4.out.rs.rd hl (HE.out w4 H4.out.be) hb2)
          have HRS : Hid (atomS u (patF u k) s = (do
              let r1 ← classL u q4
              .ok { s with r := r1 })) := Lib.hid (by unfold atomS; rw [if_neg (by rw [P1.out]; exact Bool.false_ne_true)]; rw [if_neg (by rw [P2.out]; exact Bool.false_ne_true)]; rw [if_neg (by rw [P3.out]; exact Bool.false_ne_true)]; rw [if_pos P4.out]; rw [← E4.out])
          rcases hn : classL u q4 with f | r1
          · have PX := Lib.hid hn
            rw [hn] at HY
            clear hn
            refine HY.out.mono ?_
            rintro e w5 ⟨hg, rfl⟩
            try simp (config := { zetaDelta := true }) only [Exit.noGoto_ret, Exit.inBlock, Exit.then]
            refine ⟨rfl, ?_⟩
            rw [show atomS u (patF u k) s = .error f from by rw [HRS.out, PX.out]; rfl]
            exact H4.out.bad f hg
          · have PX := Lib.hid hn
            rw [hn] at HY
            clear hn
            refine HY.out.mono ?_
            rintro e w5 ⟨hg, rfl, hr⟩
            have H5 := Lib.hid (H4.out.next hr hg)
            clear hr hg HY
            go_wp2_with fail
            try simp (config := { zetaDelta := true }) only [Exit.noGoto_ret, Exit.inBlock, Exit.then]
            go_end0
            rw [show atomS u (patF u k) s = .ok { s with r := r1 } from by rw [HRS.out, PX.out]; rfl]
            exact H5.out.ends
        · have P4 := Lib.hid p4
          refine (is_no H3.out.rs.rd hl p4).mono ?_
          rintro e w4 ⟨rfl, hr, hg⟩
          have H4 := Lib.hid (H3.out.next hr hg)
          clear hr hg p4
          go_wp2_with fail
          refine (peek_rd b l u _ s.r _ H4.out.rs.rd hl).mono ?_
          rintro e w5 ⟨rfl, hr, hg⟩
          have H5 := Lib.hid (H4.out.next hr (grown_of hg _))
          clear hr hg
          by_cases h92 : peekL s.r = 92
          · have z1 : ((peekL s.r : Int) == 92) = true := by simp; omega
            have HRS : Hid (atomS u (patF u k) s = escapedS u s) := Lib.hid (by unfold atomS; rw [if_neg (by rw [P1.out]; exact Bool.false_ne_true)]; rw [if_neg (by rw [P2.out]; exact Bool.false_ne_true)]; rw [if_neg (by rw [P3.out]; exact Bool.false_ne_true)]; rw [if_neg (by rw [P4.out]; exact Bool.false_ne_true)]; rw [if_pos h92])
            have HY := Lib.hid (escaped_any B b M l u vn vd es clock s w5 H5.out.rs hl (HE.out w5 H5.out.be) hB2 H5.out.big HNE.out HF.out)
            clear h92
            go_wp2_with fail
            clear z1
            rcases hn : escapedS u s with f | s1
            · have PX := Lib.hid hn
              rw [hn] at HY
              clear hn
              refine HY.out.mono ?_
              rintro e w6 ⟨hb, rfl⟩
              try simp (config := { zetaDelta := true }) only [Exit.noGoto_ret, Exit.inBlock, Exit.then]
              refine ⟨rfl, ?_⟩
              rw [HRS.out, PX.out]
              exact ⟨H5.out.be.trans hb, rfl⟩
            · have PX := Lib.hid hn
              rw [hn] at HY
              clear hn
              refine HY.out.mono ?_
              rintro e w6 ⟨hb, rfl, vn1, vd1, es1, clock1, hr⟩
              have HX := Lib.hid (H5.out.heavy hb hr)
              clear hb hr HY
              go_wp2_with fail
              try simp (config := { zetaDelta := true }) only [Exit.noGoto_ret, Exit.inBlock, Exit.then]
              go_end0
              rw [HRS.out, PX.out]
              exact HX.out.ends
          · have z1 : ((peekL s.r : Int) == 92) = false := by simp; omega
            have HRS : Hid (atomS u (patF u k) s = (if peekL s.r ≠ 0 && stopChars.contains (s.r.getD 0 0) then .error (form s.r)
              else do
                let (_, r1) ← takeL s.r
                .ok { s with r := r1 })) := Lib.hid (by unfold atomS; rw [if_neg (by rw [P1.out]; exact Bool.false_ne_true)]; rw [if_neg (by rw [P2.out]; exact Bool.false_ne_true)]; rw [if_neg (by rw [P3.out]; exact Bool.false_ne_true)]; rw [if_neg (by rw [P4.out]; exact Bool.false_ne_true)]; rw [if_neg h92])
            clear h92
            go_wp2_with fail
            clear z1
            refine (peek_rd b l u _ s.r _ H5.out.rs.rd hl).mono ?_
            rintro e w6 ⟨rfl, hr, hg⟩
            have H6 := Lib.hid (H5.out.next hr (grown_of hg _))
            clear hr hg
            by_cases hz : peekL s.r = 0
            · have z1 : ((peekL s.r : Int) != 0) = false := by simp; omega
              have HRT : Hid (atomS u (patF u k) s = (do
                  let (_, r1) ← takeL s.r
                  .ok { s with r := r1 })) := Lib.hid (by rw [HRS.out, if_neg (by simp [hz])])
              clear hz
              go_wp2_with fail
              clear z1
              have HY := Lib.hid (take_any b l u _ s.r _ H6.out.rs.rd (HE.out _ H6.out.be).1 hl)
              rcases hn : takeL s.r with f | ⟨c, r1⟩
              · have PX := Lib.hid hn
                rw [hn] at HY
                clear hn
                refine HY.out.mono ?_
                rintro e wA ⟨hg, rfl⟩
                try simp (config := { zetaDelta := true }) only [Exit.noGoto_ret, Exit.inBlock, Exit.then]
                refine ⟨rfl, ?_⟩
                rw [show atomS u (patF u k) s = .error f from by rw [HRT.out, PX.out]; rfl]
                exact H6.out.bad f hg
              · have PX := Lib.hid hn
                rw [hn] at HY
                clear hn
                refine HY.out.mono ?_
                rintro e wA ⟨hg, rfl, hr⟩
                have HA := Lib.hid (H6.out.next hr hg)
                clear hr hg HY
                go_wp2_with fail
                try simp (config := { zetaDelta := true }) only [Exit.noGoto_ret, Exit.inBlock, Exit.then]
                go_end0
                rw [show atomS u (patF u k) s = .ok { s with r := r1 } from by rw [HRT.out, PX.out]; rfl]
                exact HA.out.ends
            · have z1 : ((peekL s.r : Int) != 0) = true := by simp; omega
              go_wp2_with fail
              clear z1
              refine (peek_rd b l u _ s.r _ H6.out.rs.rd hl).mono ?_
              rintro e w7 ⟨rfl, hr, hg⟩
              have H7 := Lib.hid (H6.out.next hr (grown_of hg _))
              clear hr hg
              obtain ⟨i, hi, hI⟩ := index_at stopChars s.r
              have HI := Lib.hid hI
              clear hI
              cases hc : stopChars.contains (s.r.getD 0 0)
              · rw [hc] at hi
                have HRT : Hid (atomS u (patF u k) s = (do
                    let (_, r1) ← takeL s.r
                    .ok { s with r := r1 })) := Lib.hid (by rw [HRS.out, if_neg (by rw [hc]; simp)])
                clear hc hz
                go_wp2_with (go_at_call 16; refine (HI.out _).mono ?_; rintro e w8 ⟨rfl, rfl⟩)
                clear hi
                have HY := Lib.hid (take_any b l u _ s.r _ H7.out.rs.rd (HE.out _ H7.out.be).1 hl)
                rcases hn : takeL s.r with f | ⟨c, r1⟩
                · have PX := Lib.hid hn
                  rw [hn] at HY
                  clear hn
                  refine HY.out.mono ?_
                  rintro e wA ⟨hg, rfl⟩
                  try simp (config := { zetaDelta := true }) only [Exit.noGoto_ret, Exit.inBlock, Exit.then]
                  refine ⟨rfl, ?_⟩
                  rw [show atomS u (patF u k) s = .error f from by rw [HRT.out, PX.out]; rfl]
                  exact H7.out.bad f hg
                · have PX := Lib.hid hn
                  rw [hn] at HY
                  clear hn
                  refine HY.out.mono ?_
                  rintro e wA ⟨hg, rfl, hr⟩
                  have HA := Lib.hid (H7.out.next hr hg)
                  clear hr hg HY
                  go_wp2_with fail
                  try simp (config := { zetaDelta := true }) only [Exit.noGoto_ret, Exit.inBlock, Exit.then]
                  go_end0
                  rw [show atomS u (patF u k) s = .ok { s with r := r1 } from by rw [HRT.out, PX.out]; rfl]
                  exact HA.out.ends
              · rw [hc] at hi
                have HRT : Hid (atomS u (patF u k) s = .error (form s.r)) := Lib.hid (by rw [HRS.out, if_pos (by rw [hc]; simp [hz])])
                clear hc hz
                go_wp2_with (go_at_call 16; refine (HI.out _).mono ?_; rintro e w8 ⟨rfl, rfl⟩)
                clear hi
                refine (stop_any b l u _ s.r _ H7.out.rs.rd).mono ?_
                rintro e w9 ⟨rfl, rfl⟩
                try simp (config := { zetaDelta := true }) only [Exit.noGoto_ret, Exit.inBlock, Exit.then]
                refine ⟨rfl, ?_⟩
                rw [HRT.out]
                exact H7.out.bad _ (grown_refl _ _)
end Go.Proofs.YtnbadnmmolagfaaDoor
