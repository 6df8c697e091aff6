/- Package regex: escaped, walked (printed by gen_regesd.py). -/
import Derived.Test.YtnbadnmmolagfaaDoorRegPut
import Derived.Test.YtnbadnmmolagfaaDoorRegion2
namespace Go.Proofs.YtnbadnmmolagfaaDoor
open Go.RowKit
set_option maxRecDepth 100000
set_option linter.unusedVariables false
set_option linter.unusedSimpArgs false

/-- The whole reader, met in a world that came of w. -/
structure Ht (B b M : Nat) (l : Ln) (u : Bool) (w : World) (vn vd : Value) (es : Array MapEntry) (clock : Nat) (s : St) (w' : World) : Prop where
  rs : Rs B b M l u s vn vd es clock w'
  be : Below B w w'
  sz : B ≤ w.heap.size
theorem Ht.next {B b M : Nat} {l : Ln} {u : Bool} {w w1 w2 : World} {vn vd : Value} {es : Array MapEntry} {clock : Nat} {s : St} {r : Ln} (h : Ht B b M l u w vn vd es clock s w1) (h1 : Rd b l u [.int .i64 (s.g : Int), .map (some M), vn, vd] r w2) (h2 : w1.grownBy w2 (some b)) : Ht B b M l u w vn vd es clock { s with r := r } w2 :=
  ⟨h.rs.next h1 h2, below_grown h.be h.sz h2 h.rs.hb, h.sz⟩
theorem Ht.ends {B b M : Nat} {l : Ln} {u : Bool} {w w1 : World} {vn vd : Value} {es : Array MapEntry} {clock : Nat} {s : St} (h : Ht B b M l u w vn vd es clock s w1) : EndS B b M l u w (.ok s) (.returned (.tuple #[])) w1 := ⟨h.be, rfl, vn, vd, es, clock, h.rs⟩
theorem Ht.bad {B b M : Nat} {l : Ln} {u : Bool} {w w1 w2 : World} {vn vd : Value} {es : Array MapEntry} {clock : Nat} {s : St} (h : Ht B b M l u w vn vd es clock s w1) (f : Flt) (h2 : w1.grownBy w2 (some b)) : EndS B b M l u w (.error f) (thrown l.length f) w2 := ⟨below_grown h.be h.sz h2 h.rs.hb, rfl⟩
theorem Ht.inc {B b M : Nat} {l : Ln} {u : Bool} {w w1 : World} {vn vd : Value} {es : Array MapEntry} {clock : Nat} {s : St} (h : Ht B b M l u w vn vd es clock s w1) (hl : l.length ≤ 4096) (hr : s.r ≠ []) {k : Nat} (hk : w1.cell? ⟨b, 1, none⟩ = some (.int .i64 (k : Int))) :
    Ht B b M l u w vn vd es clock { s with r := s.r.drop 1 } (w1.setCell ⟨b, 1, none⟩ (.int .i64 (wrap64 ((k : Int) + 1)))) := by
  have h1 := At.inc (w := w1) ⟨h.rs.rd, grown_refl _ _⟩ hl hr hk
  exact h.next h1.rd h1.gr

set_option maxHeartbeats 16000000 in
theorem escaped_any (B b M : Nat) (l : Ln) (u : Bool) (vn vd : Value) (es : Array MapEntry) (clock : Nat) (s : St) (w : World) (h : Rs B b M l u s vn vd es clock w) (hl : l.length ≤ 4096) (hE : Env w) (hB2 : 2 < B) (hbw : B ≤ w.heap.size) (hr0 : s.r ≠ []) (hfit : s.fits 4096) :
    Calls Tryd.prog 34 #[.pointer (some ⟨b, 0, none⟩)] w (EndS B b M l u w (escapedS u s)) := by
  have H0 := Lib.hid (show Ht B b M l u w vn vd es clock s w from ⟨h, Below.refl _ _, hbw⟩)
  have HE := Lib.hid (fun w1 (hg : Below B w w1) => hE.low hg hB2)
  have HS := Lib.hid h
  have hb2 : 2 < b := by have := h.hb; omega
  obtain ⟨k, hk, hd, hb⟩ := h.rd
  have c1 := hb.cell 1
  have f1 := hb.frozen 1
  have HI := Lib.hid (H0.out.inc hl hr0 c1)
  have HK : Hid ((k : Int) = (l.length : Int) - (s.r.length : Int)) := Lib.hid (by omega)
  have HF := Lib.hid hfit
  clear hk hd hb hE h hr0 hfit
  go_enter Tryd.func34, Tryd.ntmps34
  go_wp2_with fail
  clear c1 f1
  generalize hW : w.setCell ⟨b, 1, none⟩ (.int .i64 (wrap64 ((k : Int) + 1))) = W
  rw [hW] at HI
  clear hW
  obtain ⟨r1, hr1⟩ : ∃ q, q = s.r.drop 1 := ⟨_, rfl⟩
  rw [← hr1] at HI
  have HR1 := Lib.hid hr1
  clear hr1
  have HSP : Hid (escapedS u s = if 49 ≤ peekL r1 ∧ peekL r1 ≤ 57 then (do
        let (t, r2) ← digitsL r1
        .ok { s with r := r2, nu := s.nu ++ [(s.r.length, t)] })
      else if hasP [107] r1 then (do
        let r2 ← wantL [60] (r1.drop 1)
        let (t, r3) ← nameL r2
        .ok { s with r := r3, nd := s.nd ++ [(s.r.length, t)] })
      else (do
        match ← setL u r1 with
        | some r2 => .ok { s with r := r2 }
        | none =>
          let (_, r2) ← escapeL u r1
          .ok { s with r := r2 })) := Lib.hid (by rw [HR1.out]; rfl)
  refine (peek_rd b l u _ r1 _ HI.out.rs.rd hl).mono ?_
  rintro e w1 ⟨rfl, hr, hg⟩
  have H1 := Lib.hid (HI.out.next hr (grown_of hg _))
  clear hr hg
  by_cases hq1 : 49 ≤ peekL r1
  · have t1 : decide ((49 : Int) ≤ (peekL r1 : Int)) = true := by simp; omega
    go_wp2_with fail
    refine (peek_rd b l u _ r1 _ H1.out.rs.rd hl).mono ?_
    rintro e w2 ⟨rfl, hr, hg⟩
    have H2 := Lib.hid (H1.out.next hr (grown_of hg _))
    clear hr hg
    by_cases hq2 : peekL r1 ≤ 57
    · have t2 : decide ((peekL r1 : Int) ≤ 57) = true := by simp; omega
      have HPQ := Lib.hid (And.intro hq1 hq2)
      clear hq1 hq2
      go_wp2_with fail
      clear t1 t2
      obtain ⟨k2, hk2, hd2, hb3⟩ := H2.out.rs.rd
      have c5 := hb3.cell 5
      have f5 := hb3.frozen 5
      clear hk2 hd2 hb3
      have HN := Lib.hid (digits_any b l u [.int .i64 (s.g : Int), .map (some M), vn, vd] r1 _ (H2.out.rs.rd.drew 1) hl)
      obtain ⟨i0, hi0, hz0, hz1, hzb⟩ := info_ask
      have HI0 := Lib.hid (And.intro hi0 (And.intro hz0 (And.intro hz1 hzb)))
      clear hi0 hz0 hz1 hzb
      refine wp_region_chain2 (fun w' => w'.cell? ⟨b, 5, none⟩ = some vn) 7 6 _ (by kernel_rfl) rfl (by kernel_rfl) (by kernel_rfl) (by intro _ _ d _ _ h; cases d <;> exact h) c5 ?_
      simp only [List.take_succ_cons, List.take_zero, List.drop_succ_cons, List.drop_zero, List.cons_append, List.nil_append]
      repeat (refine wpHeld_step rfl ?_; apply Exists.intro; refine ⟨fun wq hq => ?_, ?_⟩; (go_simp; first | done | rfl | (rw [hq]; rfl)); simp only [Act.put, List.setIfInBounds_toArray, List.set_cons_zero, List.set_cons_succ])
      change wpSeq _ _ _ _ _ _ _
      refine wpSeq_step rfl (fun K hK => ?_)
      go_simp
      go_at_call 36
      rcases hp : digitsL r1 with f4 | ⟨t, r2⟩
      · have HRES : Hid (escapedS u s = .error f4) := Lib.hid (by rw [HSP.out, if_pos HPQ.out, hp]; rfl)
        rw [hp] at HN
        clear hp
        refine HN.out.mono ?_
        rintro e w9 ⟨hg, rfl⟩
        try simp (config := { zetaDelta := true }) only [Exit.noGoto_ret, Exit.inBlock, Exit.then]
        refine ⟨rfl, ?_⟩
        rw [HRES.out]
        exact H2.out.bad f4 (grown_trans (grown_drew (grown_refl _ _) 1) hg)
      · have HRES : Hid (escapedS u s = .ok { s with r := r2, nu := s.nu ++ [(s.r.length, t)] }) := Lib.hid (by rw [HSP.out, if_pos HPQ.out, hp]; rfl)
        rw [hp] at HN
        clear hp
        refine HN.out.mono ?_
        rintro e wt ⟨hg, rfl, hr⟩
        have HN2 := Lib.hid (H2.out.next hr (grown_trans (grown_drew (grown_refl _ _) 1) hg))
        have HR2 := Lib.hid hr
        have hlb : b < wt.heap.size := by obtain ⟨_, _, _, q⟩ := hr; exact q.lt
        obtain ⟨k3, hk3, hd3, hb4⟩ := hr
        have d5 := hb4.cell 5
        have g5 := hb4.frozen 5
        clear hk3 hd3 hb4 hg HN c5 f5
        refine hK _ _ d5 ?_
        clear hK K
        try simp only [Act.put, List.setIfInBounds_toArray, List.set_cons_zero, List.set_cons_succ]
        refine wpSeq_step rfl (fun K hK => ?_)
        go_simp
        refine hK _ _ d5 ?_
        clear hK K
        try simp only [Act.put, List.setIfInBounds_toArray, List.set_cons_zero, List.set_cons_succ]
        refine wpSeq_step rfl (fun K hK => ?_)
        go_simp
        have e5 : ∀ o, (wt.alloc o).cell? ⟨b, 5, none⟩ = some vn := fun o => (cell_alloc wt o ⟨b, 5, none⟩ (by simpa using hlb)).trans d5
        refine hK _ _ (e5 _) ?_
        clear hK K
        try simp only [Act.put, List.setIfInBounds_toArray, List.set_cons_zero, List.set_cons_succ]
        refine wpSeq_step rfl (fun K hK => ?_)
        have hfb := HF.out
        unfold St.fits at hfb
        have hbt := HN2.out.be
        have HO := Lib.hid (HN2.out.rs.below ((Below.refl _ wt).alloc (Nat.le_refl _) (.cells #[.int .i64 (k : Int), .string (strOf t)] 52)))
        have hsz := Nat.le_trans hbw hbt.size
        refine wp_append_lies _ _ _ 45 rfl B 52 i0 _ 2 24 Tryd.underlying45 HI0.out.1 HI0.out.2.1 HI0.out.2.2.1 HI0.out.2.2.2 rfl (by omega) vn s.nu.length (askCells l.length s.nu) rfl HO.out.nu ⟨wt.heap.size, 0, none⟩ 1 1 [.int .i64 (k : Int), .string (strOf t)] rfl rfl (World.news_of_block (cs := #[.int .i64 (k : Int), .string (strOf t)]) (t := 52) (fr := (0, 0)) (heap_alloc_new wt _)) (by simp [Value.oneCell']) (by omega) (by unfold maxLen; omega) (by omega) (by simp; omega) (wt.heap.size + 1) (by simp) ?_
        intro gg cap w2 hown hgrow hat hlt
        have hvb : vn.ownBlock ≠ some b := fun e => (HN2.out.rs.ne.2.1 b e).1 rfl
        have h5 : w2.cell? ⟨b, 5, none⟩ = some vn := (World.cell?_of_block (hgrow.block b (by simp; omega) (fun e => hvb e.symm))).trans (e5 _)
        have z5 : w2.frozen? ⟨b, 5, none⟩ = false := (World.frozen?_of_block (hgrow.block b (by simp; omega) (fun e => hvb e.symm))).trans ((frozen_alloc' wt _ ⟨b, 5, none⟩ (by simpa using hlb)).trans g5)
        refine hK _ _ h5 ?_
        clear hK K
        try simp only [Act.put, List.setIfInBounds_toArray, List.set_cons_zero, List.set_cons_succ]
        have HPUT := Lib.hid (nu_put B b M l u s vn vd es clock w wt w2 r2 t k HS.out HK.out HR2.out hbt HN2.out.rs _ gg cap hown hgrow hat hlt hbw)
        clear hown hgrow hat hlt hvb hfb hbt hsz e5 d5 g5
        refine wpSeq_step rfl (fun K hK => ?_)
        go_simp
        refine hK _ _ h5 ?_
        clear hK K
        try simp only [Act.put, List.setIfInBounds_toArray, List.set_cons_zero, List.set_cons_succ]
        refine wpSeq_step rfl (fun K hK => ?_)
        go_simp
        refine hK _ _ h5 ?_
        clear hK K
        try simp only [Act.put, List.setIfInBounds_toArray, List.set_cons_zero, List.set_cons_succ]
        change Oper.wp _ _ _ _ _ _
        go_simp
        go_wp2_with fail
        try simp (config := { zetaDelta := true }) only [Exit.noGoto_ret, Exit.inBlock, Exit.then]
        go_end0
        rw [HRES.out]
        exact ⟨HPUT.out.1, rfl, HPUT.out.2⟩
    · have t2 : decide ((peekL r1 : Int) ≤ 57) = false := by simp; omega
      have HPQ : Hid (¬ (49 ≤ peekL r1 ∧ peekL r1 ≤ 57)) := Lib.hid (by omega)
      clear hq1 hq2
      go_wp2_with fail
      clear t1 t2
      rcases Bool.eq_false_or_eq_true (hasP [107] r1) with p3 | p3
      · have P3 := Lib.hid p3
        refine (is_yes H2.out.rs.rd hl p3).mono ?_
        rintro e w3 ⟨rfl, hr, hg⟩
        obtain ⟨q3, hq⟩ : ∃ q, q = r1.drop 1 := ⟨_, rfl⟩
        replace hr : Rd b l u [.int .i64 (s.g : Int), .map (some M), vn, vd] q3 w3 := by rw [hq]; exact hr
        have H3 := Lib.hid (H2.out.next hr hg)
        have E3 := Lib.hid hq
        clear hr hg hq p3
        go_wp2_with fail
        rcases Bool.eq_false_or_eq_true (hasP [60] q3) with p4 | p4
        · have P4 := Lib.hid p4
          refine (want_yes H3.out.rs.rd hl p4).mono ?_
          rintro e w4 ⟨rfl, hr, hg⟩
          obtain ⟨q4, hq⟩ : ∃ q, q = q3.drop 1 := ⟨_, rfl⟩
          replace hr : Rd b l u [.int .i64 (s.g : Int), .map (some M), vn, vd] q4 w4 := by rw [hq]; exact hr
          have H4 := Lib.hid (H3.out.next hr hg)
          have E4 := Lib.hid hq
          clear hr hg hq p4
          go_wp2_with fail
          obtain ⟨k2, hk2, hd2, hb3⟩ := H4.out.rs.rd
          have c5 := hb3.cell 6
          have f5 := hb3.frozen 6
          clear hk2 hd2 hb3
          have HN := Lib.hid (name_any b l u [.int .i64 (s.g : Int), .map (some M), vn, vd] q4 _ (H4.out.rs.rd.drew 1) hl (fun w1 hg => (HE.out w1 (below_grown H4.out.be hbw (grown_trans (grown_drew (grown_refl _ _) 1) hg) H4.out.rs.hb)).1))
          obtain ⟨i0, hi0, hz0, hz1, hzb⟩ := info_ask
          have HI0 := Lib.hid (And.intro hi0 (And.intro hz0 (And.intro hz1 hzb)))
          clear hi0 hz0 hz1 hzb
          refine wp_region_chain2 (fun w' => w'.cell? ⟨b, 6, none⟩ = some vd) 7 6 _ (by kernel_rfl) rfl (by kernel_rfl) (by kernel_rfl) (by intro _ _ d _ _ h; cases d <;> exact h) c5 ?_
          simp only [List.take_succ_cons, List.take_zero, List.drop_succ_cons, List.drop_zero, List.cons_append, List.nil_append]
          repeat (refine wpHeld_step rfl ?_; apply Exists.intro; refine ⟨fun wq hq => ?_, ?_⟩; (go_simp; first | done | rfl | (rw [hq]; rfl)); simp only [Act.put, List.setIfInBounds_toArray, List.set_cons_zero, List.set_cons_succ])
          change wpSeq _ _ _ _ _ _ _
          refine wpSeq_step rfl (fun K hK => ?_)
          go_simp
          go_at_call 32
          rcases hp : nameL q4 with f4 | ⟨t, r2⟩
          · have HRES : Hid (escapedS u s = .error f4) := Lib.hid (by rw [HSP.out, if_neg HPQ.out, if_pos P3.out, ← E3.out]; unfold wantL; rw [if_pos P4.out, show q3.drop ([60] : Ln).length = q4 from E4.out.symm]; simp only [bind, Except.bind]; rw [hp])
            rw [hp] at HN
            clear hp
            refine HN.out.mono ?_
            rintro e w9 ⟨hg, rfl⟩
            try simp (config := { zetaDelta := true }) only [Exit.noGoto_ret, Exit.inBlock, Exit.then]
            refine ⟨rfl, ?_⟩
            rw [HRES.out]
            exact H4.out.bad f4 (grown_trans (grown_drew (grown_refl _ _) 1) hg)
          · have HRES : Hid (escapedS u s = .ok { s with r := r2, nd := s.nd ++ [(s.r.length, t)] }) := Lib.hid (by rw [HSP.out, if_neg HPQ.out, if_pos P3.out, ← E3.out]; unfold wantL; rw [if_pos P4.out, show q3.drop ([60] : Ln).length = q4 from E4.out.symm]; simp only [bind, Except.bind]; rw [hp])
            rw [hp] at HN
            clear hp
            refine HN.out.mono ?_
            rintro e wt ⟨hg, rfl, hr⟩
            have HN2 := Lib.hid (H4.out.next hr (grown_trans (grown_drew (grown_refl _ _) 1) hg))
            have HR2 := Lib.hid hr
            have hlb : b < wt.heap.size := by obtain ⟨_, _, _, q⟩ := hr; exact q.lt
            obtain ⟨k3, hk3, hd3, hb4⟩ := hr
            have d5 := hb4.cell 6
            have g5 := hb4.frozen 6
            clear hk3 hd3 hb4 hg HN c5 f5
            refine hK _ _ d5 ?_
            clear hK K
            try simp only [Act.put, List.setIfInBounds_toArray, List.set_cons_zero, List.set_cons_succ]
            refine wpSeq_step rfl (fun K hK => ?_)
            go_simp
            refine hK _ _ d5 ?_
            clear hK K
            try simp only [Act.put, List.setIfInBounds_toArray, List.set_cons_zero, List.set_cons_succ]
            refine wpSeq_step rfl (fun K hK => ?_)
            go_simp
            have e5 : ∀ o, (wt.alloc o).cell? ⟨b, 6, none⟩ = some vd := fun o => (cell_alloc wt o ⟨b, 6, none⟩ (by simpa using hlb)).trans d5
            refine hK _ _ (e5 _) ?_
            clear hK K
            try simp only [Act.put, List.setIfInBounds_toArray, List.set_cons_zero, List.set_cons_succ]
            refine wpSeq_step rfl (fun K hK => ?_)
            have hfb := HF.out
            unfold St.fits at hfb
            have hbt := HN2.out.be
            have HO := Lib.hid (HN2.out.rs.below ((Below.refl _ wt).alloc (Nat.le_refl _) (.cells #[.int .i64 (k : Int), .string (strOf t)] 52)))
            have hsz := Nat.le_trans hbw hbt.size
            refine wp_append_lies _ _ _ 45 rfl B 52 i0 _ 2 24 Tryd.underlying45 HI0.out.1 HI0.out.2.1 HI0.out.2.2.1 HI0.out.2.2.2 rfl (by omega) vd s.nd.length (askCells l.length s.nd) rfl HO.out.nd ⟨wt.heap.size, 0, none⟩ 1 1 [.int .i64 (k : Int), .string (strOf t)] rfl rfl (World.news_of_block (cs := #[.int .i64 (k : Int), .string (strOf t)]) (t := 52) (fr := (0, 0)) (heap_alloc_new wt _)) (by simp [Value.oneCell']) (by omega) (by unfold maxLen; omega) (by omega) (by simp; omega) (wt.heap.size + 1) (by simp) ?_
            intro gg cap w2 hown hgrow hat hlt
            have hvb : vd.ownBlock ≠ some b := fun e => (HN2.out.rs.ne.2.2 b e).1 rfl
            have h5 : w2.cell? ⟨b, 6, none⟩ = some vd := (World.cell?_of_block (hgrow.block b (by simp; omega) (fun e => hvb e.symm))).trans (e5 _)
            have z5 : w2.frozen? ⟨b, 6, none⟩ = false := (World.frozen?_of_block (hgrow.block b (by simp; omega) (fun e => hvb e.symm))).trans ((frozen_alloc' wt _ ⟨b, 6, none⟩ (by simpa using hlb)).trans g5)
            refine hK _ _ h5 ?_
            clear hK K
            try simp only [Act.put, List.setIfInBounds_toArray, List.set_cons_zero, List.set_cons_succ]
            have HPUT := Lib.hid (nd_put B b M l u s vn vd es clock w wt w2 r2 t k HS.out HK.out HR2.out hbt HN2.out.rs _ gg cap hown hgrow hat hlt hbw)
            clear hown hgrow hat hlt hvb hfb hbt hsz e5 d5 g5
            refine wpSeq_step rfl (fun K hK => ?_)
            go_simp
            refine hK _ _ h5 ?_
            clear hK K
            try simp only [Act.put, List.setIfInBounds_toArray, List.set_cons_zero, List.set_cons_succ]
            refine wpSeq_step rfl (fun K hK => ?_)
            go_simp
            refine hK _ _ h5 ?_
            clear hK K
            try simp only [Act.put, List.setIfInBounds_toArray, List.set_cons_zero, List.set_cons_succ]
            change Oper.wp _ _ _ _ _ _
            go_simp
            go_wp2_with fail
            try simp (config := { zetaDelta := true }) only [Exit.noGoto_ret, Exit.inBlock, Exit.then]
            go_end0
            rw [HRES.out]
            exact ⟨HPUT.out.1, rfl, HPUT.out.2⟩
        · have P4 := Lib.hid p4
          refine (want_no H3.out.rs.rd hl p4).mono ?_
          rintro e w4 ⟨rfl, hg⟩
          clear p4
          try simp (config := { zetaDelta := true }) only [Exit.noGoto_ret, Exit.inBlock, Exit.then]
          refine ⟨rfl, ?_⟩
          rw [HSP.out, if_neg HPQ.out, if_pos P3.out, ← E3.out]
          unfold wantL
          rw [P4.out]
          exact H3.out.bad _ hg
      · have P3 := Lib.hid p3
        refine (is_no H2.out.rs.rd hl p3).mono ?_
        rintro e w3 ⟨rfl, hr, hg⟩
        have H3 := Lib.hid (H2.out.next hr hg)
        clear hr hg p3
        go_wp2_with fail
        have HY := Lib.hid (set_any b l u _ r1 w3 H3.out.rs.rd hl (HE.out w3 H3.out.be) hb2)
        have HSQ : Hid (escapedS u s = (do
                match ← setL u r1 with
                | some r2 => .ok { s with r := r2 }
                | none =>
                  let (_, r2) ← escapeL u r1
                  .ok { s with r := r2 })) := Lib.hid (by rw [HSP.out, if_neg HPQ.out, P3.out]; rfl)
        rcases hs : setL u r1 with f4 | o
        · have PS := Lib.hid hs
          rw [hs] at HY
          clear hs
          refine HY.out.mono ?_
          rintro e w8 ⟨hg2, rfl⟩
          try simp (config := { zetaDelta := true }) only [Exit.noGoto_ret, Exit.inBlock, Exit.then]
          refine ⟨rfl, ?_⟩
          rw [show escapedS u s = .error f4 from by rw [HSQ.out, PS.out]; rfl]
          exact H3.out.bad f4 hg2
        · have PS := Lib.hid hs
          rw [hs] at HY
          clear hs
          refine HY.out.mono ?_
          rintro e w8 ⟨hg2, rfl, hr⟩
          have H8 := Lib.hid (H3.out.next hr hg2)
          clear hr hg2 HY
          cases o with
          | some r2 =>
            go_wp2_with fail
            try simp (config := { zetaDelta := true }) only [Exit.noGoto_ret, Exit.inBlock, Exit.then]
            go_end0
            rw [show escapedS u s = .ok { s with r := r2 } from by rw [HSQ.out, PS.out]; rfl]
            exact H8.out.ends
          | none =>
            have HZ := Lib.hid (escape_any b l u _ r1 w8 H8.out.rs.rd hl (HE.out w8 H8.out.be) hb2)
            go_wp2_with fail
            rcases hx : escapeL u r1 with f4 | ⟨c, r3⟩
            · have PX := Lib.hid hx
              rw [hx] at HZ
              clear hx
              refine HZ.out.mono ?_
              rintro e w9 ⟨hg2, rfl⟩
              try simp (config := { zetaDelta := true }) only [Exit.noGoto_ret, Exit.inBlock, Exit.then]
              refine ⟨rfl, ?_⟩
              rw [show escapedS u s = .error f4 from by rw [HSQ.out, PS.out]; simp only [bind, Except.bind]; rw [PX.out]]
              exact H8.out.bad f4 hg2
            · have PX := Lib.hid hx
              rw [hx] at HZ
              clear hx
              refine HZ.out.mono ?_
              rintro e w9 ⟨hg2, rfl, hr⟩
              have H9 := Lib.hid (H8.out.next hr hg2)
              clear hr hg2 HZ
              go_wp2_with fail
              try simp (config := { zetaDelta := true }) only [Exit.noGoto_ret, Exit.inBlock, Exit.then]
              go_end0
              rw [show escapedS u s = .ok { s with r := r3 } from by rw [HSQ.out, PS.out]; simp only [bind, Except.bind]; rw [PX.out]]
              exact H9.out.ends
  · have t1 : decide ((49 : Int) ≤ (peekL r1 : Int)) = false := by simp; omega
    have HPQ : Hid (¬ (49 ≤ peekL r1 ∧ peekL r1 ≤ 57)) := Lib.hid (by omega)
    clear hq1
    go_wp2_with fail
    clear t1
    rcases Bool.eq_false_or_eq_true (hasP [107] r1) with p3 | p3
    · have P3 := Lib.hid p3
      refine (is_yes H1.out.rs.rd hl p3).mono ?_
      rintro e w3 ⟨rfl, hr, hg⟩
      obtain ⟨q3, hq⟩ : ∃ q, q = r1.drop 1 := ⟨_, rfl⟩
      replace hr : Rd b l u [.int .i64 (s.g : Int), .map (some M), vn, vd] q3 w3 := by rw [hq]; exact hr
      have H3 := Lib.hid (H1.out.next hr hg)
      have E3 := Lib.hid hq
      clear hr hg hq p3
      go_wp2_with fail
      rcases Bool.eq_false_or_eq_true (hasP [60] q3) with p4 | p4
      · have P4 := Lib.hid p4
        refine (want_yes H3.out.rs.rd hl p4).mono ?_
        rintro e w4 ⟨rfl, hr, hg⟩
        obtain ⟨q4, hq⟩ : ∃ q, q = q3.drop 1 := ⟨_, rfl⟩
        replace hr : Rd b l u [.int .i64 (s.g : Int), .map (some M), vn, vd] q4 w4 := by rw [hq]; exact hr
        have H4 := Lib.hid (H3.out.next hr hg)
        have E4 := Lib.hid hq
        clear hr hg hq p4
        go_wp2_with fail
        obtain ⟨k2, hk2, hd2, hb3⟩ := H4.out.rs.rd
        have c5 := hb3.cell 6
        have f5 := hb3.frozen 6
        clear hk2 hd2 hb3
        have HN := Lib.hid (name_any b l u [.int .i64 (s.g : Int), .map (some M), vn, vd] q4 _ (H4.out.rs.rd.drew 1) hl (fun w1 hg => (HE.out w1 (below_grown H4.out.be hbw (grown_trans (grown_drew (grown_refl _ _) 1) hg) H4.out.rs.hb)).1))
        obtain ⟨i0, hi0, hz0, hz1, hzb⟩ := info_ask
        have HI0 := Lib.hid (And.intro hi0 (And.intro hz0 (And.intro hz1 hzb)))
        clear hi0 hz0 hz1 hzb
        refine wp_region_chain2 (fun w' => w'.cell? ⟨b, 6, none⟩ = some vd) 7 6 _ (by kernel_rfl) rfl (by kernel_rfl) (by kernel_rfl) (by intro _ _ d _ _ h; cases d <;> exact h) c5 ?_
        simp only [List.take_succ_cons, List.take_zero, List.drop_succ_cons, List.drop_zero, List.cons_append, List.nil_append]
        repeat (refine wpHeld_step rfl ?_; apply Exists.intro; refine ⟨fun wq hq => ?_, ?_⟩; (go_simp; first | done | rfl | (rw [hq]; rfl)); simp only [Act.put, List.setIfInBounds_toArray, List.set_cons_zero, List.set_cons_succ])
        change wpSeq _ _ _ _ _ _ _
        refine wpSeq_step rfl (fun K hK => ?_)
        go_simp
        go_at_call 32
        rcases hp : nameL q4 with f4 | ⟨t, r2⟩
        · have HRES : Hid (escapedS u s = .error f4) := Lib.hid (by rw [HSP.out, if_neg HPQ.out, if_pos P3.out, ← E3.out]; unfold wantL; rw [if_pos P4.out, show q3.drop ([60] : Ln).length = q4 from E4.out.symm]; simp only [bind, Except.bind]; rw [hp])
          rw [hp] at HN
          clear hp
          refine HN.out.mono ?_
          rintro e w9 ⟨hg, rfl⟩
          try simp (config := { zetaDelta := true }) only [Exit.noGoto_ret, Exit.inBlock, Exit.then]
          refine ⟨rfl, ?_⟩
          rw [HRES.out]
          exact H4.out.bad f4 (grown_trans (grown_drew (grown_refl _ _) 1) hg)
        · have HRES : Hid (escapedS u s = .ok { s with r := r2, nd := s.nd ++ [(s.r.length, t)] }) := Lib.hid (by rw [HSP.out, if_neg HPQ.out, if_pos P3.out, ← E3.out]; unfold wantL; rw [if_pos P4.out, show q3.drop ([60] : Ln).length = q4 from E4.out.symm]; simp only [bind, Except.bind]; rw [hp])
          rw [hp] at HN
          clear hp
          refine HN.out.mono ?_
          rintro e wt ⟨hg, rfl, hr⟩
          have HN2 := Lib.hid (H4.out.next hr (grown_trans (grown_drew (grown_refl _ _) 1) hg))
          have HR2 := Lib.hid hr
          have hlb : b < wt.heap.size := by obtain ⟨_, _, _, q⟩ := hr; exact q.lt
          obtain ⟨k3, hk3, hd3, hb4⟩ := hr
          have d5 := hb4.cell 6
          have g5 := hb4.frozen 6
          clear hk3 hd3 hb4 hg HN c5 f5
          refine hK _ _ d5 ?_
          clear hK K
          try simp only [Act.put, List.setIfInBounds_toArray, List.set_cons_zero, List.set_cons_succ]
          refine wpSeq_step rfl (fun K hK => ?_)
          go_simp
          refine hK _ _ d5 ?_
          clear hK K
          try simp only [Act.put, List.setIfInBounds_toArray, List.set_cons_zero, List.set_cons_succ]
          refine wpSeq_step rfl (fun K hK => ?_)
          go_simp
          have e5 : ∀ o, (wt.alloc o).cell? ⟨b, 6, none⟩ = some vd := fun o => (cell_alloc wt o ⟨b, 6, none⟩ (by simpa using hlb)).trans d5
          refine hK _ _ (e5 _) ?_
          clear hK K
          try simp only [Act.put, List.setIfInBounds_toArray, List.set_cons_zero, List.set_cons_succ]
          refine wpSeq_step rfl (fun K hK => ?_)
          have hfb := HF.out
          unfold St.fits at hfb
          have hbt := HN2.out.be
          have HO := Lib.hid (HN2.out.rs.below ((Below.refl _ wt).alloc (Nat.le_refl _) (.cells #[.int .i64 (k : Int), .string (strOf t)] 52)))
          have hsz := Nat.le_trans hbw hbt.size
          refine wp_append_lies _ _ _ 45 rfl B 52 i0 _ 2 24 Tryd.underlying45 HI0.out.1 HI0.out.2.1 HI0.out.2.2.1 HI0.out.2.2.2 rfl (by omega) vd s.nd.length (askCells l.length s.nd) rfl HO.out.nd ⟨wt.heap.size, 0, none⟩ 1 1 [.int .i64 (k : Int), .string (strOf t)] rfl rfl (World.news_of_block (cs := #[.int .i64 (k : Int), .string (strOf t)]) (t := 52) (fr := (0, 0)) (heap_alloc_new wt _)) (by simp [Value.oneCell']) (by omega) (by unfold maxLen; omega) (by omega) (by simp; omega) (wt.heap.size + 1) (by simp) ?_
          intro gg cap w2 hown hgrow hat hlt
          have hvb : vd.ownBlock ≠ some b := fun e => (HN2.out.rs.ne.2.2 b e).1 rfl
          have h5 : w2.cell? ⟨b, 6, none⟩ = some vd := (World.cell?_of_block (hgrow.block b (by simp; omega) (fun e => hvb e.symm))).trans (e5 _)
          have z5 : w2.frozen? ⟨b, 6, none⟩ = false := (World.frozen?_of_block (hgrow.block b (by simp; omega) (fun e => hvb e.symm))).trans ((frozen_alloc' wt _ ⟨b, 6, none⟩ (by simpa using hlb)).trans g5)
          refine hK _ _ h5 ?_
          clear hK K
          try simp only [Act.put, List.setIfInBounds_toArray, List.set_cons_zero, List.set_cons_succ]
          have HPUT := Lib.hid (nd_put B b M l u s vn vd es clock w wt w2 r2 t k HS.out HK.out HR2.out hbt HN2.out.rs _ gg cap hown hgrow hat hlt hbw)
          clear hown hgrow hat hlt hvb hfb hbt hsz e5 d5 g5
          refine wpSeq_step rfl (fun K hK => ?_)
          go_simp
          refine hK _ _ h5 ?_
          clear hK K
          try simp only [Act.put, List.setIfInBounds_toArray, List.set_cons_zero, List.set_cons_succ]
          refine wpSeq_step rfl (fun K hK => ?_)
          go_simp
          refine hK _ _ h5 ?_
          clear hK K
          try simp only [Act.put, List.setIfInBounds_toArray, List.set_cons_zero, List.set_cons_succ]
          change Oper.wp _ _ _ _ _ _
          go_simp
          go_wp2_with fail
          try simp (config := { zetaDelta := true }) only [Exit.noGoto_ret, Exit.inBlock, Exit.then]
          go_end0
          rw [HRES.out]
          exact ⟨HPUT.out.1, rfl, HPUT.out.2⟩
      · have P4 := Lib.hid p4
        refine (want_no H3.out.rs.rd hl p4).mono ?_
        rintro e w4 ⟨rfl, hg⟩
        clear p4
        try simp (config := { zetaDelta := true }) only [Exit.noGoto_ret, Exit.inBlock, Exit.then]
        refine ⟨rfl, ?_⟩
        rw [HSP.out, if_neg HPQ.out, if_pos P3.out, ← E3.out]
        unfold wantL
        rw [P4.out]
        exact H3.out.bad _ hg
    · have P3 := Lib.hid p3
      refine (is_no H1.out.rs.rd hl p3).mono ?_
      rintro e w3 ⟨rfl, hr, hg⟩
      have H3 := Lib.hid (H1.out.next hr hg)
      clear hr hg p3
      go_wp2_with fail
      have HY := Lib.hid (set_any b l u _ r1 w3 H3.out.rs.rd hl (HE.out w3 H3.out.be) hb2)
      have HSQ : Hid (escapedS u s = (do
              match ← setL u r1 with
              | some r2 => .ok { s with r := r2 }
              | none =>
                let (_, r2) ← escapeL u r1
                .ok { s with r := r2 })) := Lib.hid (by rw [HSP.out, if_neg HPQ.out, P3.out]; rfl)
      rcases hs : setL u r1 with f4 | o
      · have PS := Lib.hid hs
        rw [hs] at HY
        clear hs
        refine HY.out.mono ?_
        rintro e w8 ⟨hg2, rfl⟩
        try simp (config := { zetaDelta := true }) only [Exit.noGoto_ret, Exit.inBlock, Exit.then]
        refine ⟨rfl, ?_⟩
        rw [show escapedS u s = .error f4 from by rw [HSQ.out, PS.out]; rfl]
        exact H3.out.bad f4 hg2
      · have PS := Lib.hid hs
        rw [hs] at HY
        clear hs
        refine HY.out.mono ?_
        rintro e w8 ⟨hg2, rfl, hr⟩
        have H8 := Lib.hid (H3.out.next hr hg2)
        clear hr hg2 HY
        cases o with
        | some r2 =>
          go_wp2_with fail
          try simp (config := { zetaDelta := true }) only [Exit.noGoto_ret, Exit.inBlock, Exit.then]
          go_end0
          rw [show escapedS u s = .ok { s with r := r2 } from by rw [HSQ.out, PS.out]; rfl]
          exact H8.out.ends
        | none =>
          have HZ := Lib.hid (escape_any b l u _ r1 w8 H8.out.rs.rd hl (HE.out w8 H8.out.be) hb2)
          go_wp2_with fail
          rcases hx : escapeL u r1 with f4 | ⟨c, r3⟩
          · have PX := Lib.hid hx
            rw [hx] at HZ
            clear hx
            refine HZ.out.mono ?_
            rintro e w9 ⟨hg2, rfl⟩
            try simp (config := { zetaDelta := true }) only [Exit.noGoto_ret, Exit.inBlock, Exit.then]
            refine ⟨rfl, ?_⟩
            rw [show escapedS u s = .error f4 from by rw [HSQ.out, PS.out]; simp only [bind, Except.bind]; rw [PX.out]]
            exact H8.out.bad f4 hg2
          · have PX := Lib.hid hx
            rw [hx] at HZ
            clear hx
            refine HZ.out.mono ?_
            rintro e w9 ⟨hg2, rfl, hr⟩
            have H9 := Lib.hid (H8.out.next hr hg2)
            clear hr hg2 HZ
            go_wp2_with fail
            try simp (config := { zetaDelta := true }) only [Exit.noGoto_ret, Exit.inBlock, Exit.then]
            go_end0
            rw [show escapedS u s = .ok { s with r := r3 } from by rw [HSQ.out, PS.out]; simp only [bind, Except.bind]; rw [PX.out]]
            exact H9.out.ends
end Go.Proofs.YtnbadnmmolagfaaDoor
