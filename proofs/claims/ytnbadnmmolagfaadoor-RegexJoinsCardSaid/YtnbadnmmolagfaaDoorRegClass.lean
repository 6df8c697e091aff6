/- Package regex: class. -/
import Derived.Test.YtnbadnmmolagfaaDoorRegNext
import Derived.Test.YtnbadnmmolagfaaDoorRegLen
namespace Go.Proofs.YtnbadnmmolagfaaDoor
open Go.RowKit
set_option maxRecDepth 100000
set_option linter.unusedVariables false
set_option linter.unusedSimpArgs false

/-- How many points half holds. -/
def halfN (gh : Nat) (w : World) : Nat := match w.cell? ⟨gh, 0, none⟩ with | some (.slice _ n _) => n | _ => 0
theorem ClAt.meas {b : Nat} {l : Ln} {u : Bool} {xs : List Value} {w0 w : World} {gr gh : Nat} {h : Option Pt} {r : Ln} (k : ClAt b l u xs w0 gr gh h r w) : 2 * (l.length - posOf b w) + halfN gh w = 2 * r.length + some1 h := by
  have h1 := k.at_.rd.pos
  have h2 : halfN gh w = some1 h := by
    obtain ⟨v, hv, hh⟩ := k.bh
    unfold halfN
    rw [hv.cell 0]
    cases h with
    | none =>
      replace hh : v = .slice none 0 0 := hh
      subst hh
      rfl
    | some p =>
      obtain ⟨g, rfl, _⟩ := hh
      rfl
  omega
theorem ClAt.alloc {b : Nat} {l : Ln} {u : Bool} {xs : List Value} {w0 w : World} {gr gh : Nat} {h : Option Pt} {r : Ln} (k : ClAt b l u xs w0 gr gh h r w) (o : Obj) : ClAt b l u xs w0 gr gh h r (w.alloc o) := by
  obtain ⟨v, hv, hh⟩ := k.bh
  exact ⟨k.at_.alloc o, k.br.alloc o, ⟨v, hv.alloc o, hh.next ((Two.refl b gh w).alloc o)⟩, k.ger, k.geh, k.nrh, k.nrb, k.nhb⟩
theorem ClAt.drew {b : Nat} {l : Ln} {u : Bool} {xs : List Value} {w0 w : World} {gr gh : Nat} {h : Option Pt} {r : Ln} (k : ClAt b l u xs w0 gr gh h r w) (n : Nat) : ClAt b l u xs w0 gr gh h r (w.drewN n) :=
  ⟨⟨k.at_.rd.drew n, grown_drew k.at_.gr n⟩, k.br, k.bh, k.ger, k.geh, k.nrh, k.nrb, k.nhb⟩
theorem next_any_cl (b : Nat) (l : Ln) (u : Bool) (xs : List Value) (w0 : World) (gr gh : Nat) (h : Option Pt) (r : Ln) (w : World) (hC : ClAt b l u xs w0 gr gh h r w) (hl : l.length ≤ 4096) (hE : ∀ w1, w0.grownBy w1 (some b) → Env w1) (hb2 : 2 < b) :
    Calls Tryd.prog 42 #[.pointer (some ⟨gh, 0, none⟩), .pointer (some ⟨gr, 0, none⟩)] w (NextEnd b l u xs w0 gr gh w (ptNext u h r)) := by
  cases h with
  | none => exact next_point b l u xs w0 gr gh r w hC hl hE hb2
  | some p => exact next_half b l u xs w0 gr gh p r w hC hl

theorem ClAt.inc {b : Nat} {l : Ln} {u : Bool} {xs : List Value} {w0 w : World} {gr gh : Nat} {h : Option Pt} {r : Ln} (k : ClAt b l u xs w0 gr gh h r w) (hl : l.length ≤ 4096) (hr : r ≠ []) {z : Nat} (hk : w.cell? ⟨b, 1, none⟩ = some (.int .i64 (z : Int))) :
    ClAt b l u xs w0 gr gh h (r.drop 1) (w.setCell ⟨b, 1, none⟩ (.int .i64 (wrap64 ((z : Int) + 1)))) := by
  obtain ⟨v, hv, hh⟩ := k.bh
  exact ⟨k.at_.inc hl hr hk, k.br.set_other (by simpa using k.nrb) _, ⟨v, hv.set_other (by simpa using k.nhb) _, hh.next ((Two.refl b gh w).set (.inl rfl) 1 _)⟩, k.ger, k.geh, k.nrh, k.nrb, k.nhb⟩
theorem thrown_pt (n : Nat) (a : Pt) : Ending.panicked [{ v := .iface 40 (.agg #[.int .i64 403, .int .i64 ((n : Int) - (a.rem : Int))]), recovered := false }] = thrown n (403, a.rem) := rfl

set_option maxHeartbeats 16000000 in
theorem class_any (b : Nat) (l : Ln) (u : Bool) (xs : List Value) (r : Ln) (w : World) (h : Rd b l u xs r w) (hl : l.length ≤ 4096) (hE : Env w) (hb2 : 2 < b) :
    Calls Tryd.prog 33 #[.pointer (some ⟨b, 0, none⟩)] w (Ends b l u xs w ((classL u r).map fun p => (.tuple #[], p))) := by
  have hmf : ∀ (fn : Fn) (first cap : Array Value) (w : World), (Instr.makeFunc fn first cap).run Tryd.prog w = .ok (.func fn first cap) w := fun _ _ _ _ => rfl
  have HE := Lib.hid (fun w1 (hg : w.grownBy w1 (some b)) => hE.grown hg hb2)
  have HBL : Hid (b < w.heap.size) := Lib.hid (by obtain ⟨k, hk, hd, hb⟩ := h; exact hb.lt)
  have H0 := Lib.hid h
  clear h hE
  go_enter Tryd.func33, Tryd.ntmps33
  go_wp2_with fail
  obtain ⟨gr, hgr⟩ : ∃ g, g = w.heap.size := ⟨_, rfl⟩
  rw [← hgr]
  obtain ⟨W, hW⟩ : ∃ W, w.alloc (.cells #[.pointer (some ⟨b, 0, none⟩)] 42) = W := ⟨_, rfl⟩
  rw [hW]
  have hA : At b l u xs w r W ∧ Blk W gr [.pointer (some ⟨b, 0, none⟩)] 42 := by
    rw [← hW]
    exact ⟨At.alloc ⟨H0.out, grown_refl _ _⟩ _, Blk.new' _ _ hgr⟩
  have HA := Lib.hid hA
  have HGR := Lib.hid hgr
  clear hA hW hgr
  refine (is_any b l u xs r W HA.out.1.rd hl [94]).mono ?_
  rintro e w1 ⟨rfl, hr, hg⟩
  obtain ⟨r1, hr1⟩ : ∃ q, q = skipL [94] r := ⟨_, rfl⟩
  rw [← hr1] at hr
  have hgb : gr ≠ b := by have := HGR.out; have := HBL.out; omega
  have HA1 := Lib.hid (And.intro (HA.out.1.next hr hg) (HA.out.2.grown hg (by simpa using hgb)))
  have HGB := Lib.hid hgb
  have HCL : Hid (classL u r = classR u (2 * r.length + 2) none r1) := Lib.hid (by rw [hr1]; rfl)
  have HSK : Hid (r1.length ≤ r.length) := Lib.hid (by rw [hr1]; exact skip_len _ _)
  clear hr hg hgb hr1
  go_wp2_with fail
  obtain ⟨gh, hgh⟩ : ∃ g, g = w1.heap.size := ⟨_, rfl⟩
  rw [← hgh]
  obtain ⟨W2, hW2⟩ : ∃ W2, w1.alloc (.cells #[.slice none 0 0] 62) = W2 := ⟨_, rfl⟩
  rw [hW2]
  have hC0 : ClAt b l u xs w gr gh none r1 W2 := by
    have h1 := HA1.out.1
    have h2 := HA1.out.2
    have h3 := h1.lt
    have h4 := h2.lt
    have h5 := h1.gr.size
    have h6 := HGR.out
    rw [← hW2]
    exact ⟨h1.alloc _, h2.alloc _, ⟨_, Blk.new' _ _ hgh, rfl⟩, by omega, by omega, by omega, HGB.out, by omega⟩
  have HC0 := Lib.hid hC0
  clear hW2 hC0 hgh
  go_loopw [9] (fun _ wr => ∃ (f : Nat) (h : Option Pt) (r' : Ln), classL u r = classR u f h r' ∧ 2 * r'.length + some1 h < f ∧ ClAt b l u xs w gr gh h r' wr) (fun _ wr => 2 * (l.length - posOf b wr) + halfN gh wr)
  case atStart => exact ⟨2 * r.length + 2, none, r1, HCL.out, by have := HSK.out; simp [some1]; omega, HC0.out⟩
  case round =>
    obtain ⟨f, h, r', hcl, hf, hC⟩ := hrel
    have HM := Lib.hid hC.meas
    have HC := Lib.hid hC
    have HR := Lib.hid (And.intro hcl hf)
    obtain ⟨f, rfl⟩ : ∃ f', f = f' + 1 := ⟨f - 1, by omega⟩
    clear hcl hf
    obtain ⟨hv, hbv, hhv⟩ := hC.bh
    have c0 := hbv.cell 0
    have g0 := hC.br.cell 0
    have HHV := Lib.hid (And.intro hbv hhv)
    clear hbv hC
    have hgo : ((h = none ∧ peekL r' = 93) ∨ (∃ q, h = some q) ∨ (h = none ∧ peekL r' ≠ 93)) := by
      cases h with
      | none => by_cases hp : peekL r' = 93 <;> simp [hp]
      | some q => exact .inr (.inl ⟨q, rfl⟩)
    rcases hgo with ⟨rfl, hp⟩ | hgo
    · replace hhv : hv = .slice none 0 0 := hhv
      subst hhv
      have z1 : ((peekL r' : Int) != 93) = false := by simp; omega
      have hne : r' ≠ [] := peek_ne (by omega)
      have HRES : Hid (classL u r = .ok (r'.drop 1)) := Lib.hid (by
        rw [HR.out.1]
        conv => lhs; unfold classR
        rw [hp]
        rfl)
      have HNE := Lib.hid hne
      clear hp hne
      go_wp2_with fail
      refine (peek_rd b l u xs r' wr HC.out.at_.rd hl).mono ?_
      rintro e w3 ⟨rfl, hr, hg⟩
      have HC3 := Lib.hid (HC.out.next hr (grown_of hg _))
      clear hr hg c0 g0
      have g1 := HC3.out.br.cell 0
      obtain ⟨k3, hk3, hd3, hb3⟩ := HC3.out.at_.rd
      have c1 := hb3.cell 1
      have f1 := hb3.frozen 1
      have HIN := Lib.hid (HC3.out.at_.inc hl HNE.out c1)
      clear hk3 hd3 hb3
      go_wp2_with fail
      try simp (config := { zetaDelta := true }) only [Exit.noGoto_ret, Exit.inBlock, Exit.then]
      go_end0
      rw [HRES.out]
      exact ⟨HIN.out.gr, rfl, HIN.out.rd⟩
    · have HSTEP : Hid (classL u r = match ptNext u h r' with
          | .error e => .error e
          | .ok (a, h1, r1) =>
            if h1.isSome || peekL r1 ≠ 45 || hasP [45, 93] r1 then classR u f h1 r1
            else match ptNext u none (r1.drop 1) with
              | .error e => .error e
              | .ok (b, h2, r2) => if !a.single || !b.single || decide (b.val < a.val) then .error (403, a.rem) else classR u f h2 r2) := Lib.hid (by
        rw [HR.out.1]
        conv => lhs; unfold classR
        rcases hgo with ⟨q, rfl⟩ | ⟨rfl, hp⟩
        · rfl
        · simp only [hp]
          rfl)
      have hhd : (∃ n a c, hv = .slice a n c ∧ ((n : Int) > 0) ∧ h ≠ none) ∨ (hv = .slice none 0 0 ∧ h = none ∧ ((peekL r' : Int) != 93) = true) := by
        rcases hgo with ⟨q, rfl⟩ | ⟨rfl, hp⟩
        · obtain ⟨g, rfl, _⟩ := hhv
          exact .inl ⟨1, _, 1, rfl, by decide, by simp⟩
        · replace hhv : hv = .slice none 0 0 := hhv
          exact .inr ⟨hhv, rfl, by simp; omega⟩
      have HHD := Lib.hid hhd
      clear hgo hhv hhd
      rcases HHD.out with ⟨n4, a4, c4, rfl, hn, hne⟩ | ⟨rfl, hh0, hz⟩
      · have HC4 := HC
        have hn' : (0 : Int) < (n4 : Int) := hn
        clear hne
        go_wp2_with fail
        clear hn hn' c0 g0
        have HY := Lib.hid (next_any_cl b l u xs w gr gh h r' _ HC4.out hl HE.out hb2)
        rcases hp : ptNext u h r' with f5 | ⟨a, h1, r2⟩
        · have HRES : Hid (classL u r = .error f5) := Lib.hid (by rw [HSTEP.out, hp])
          rw [hp] at HY
          clear hp
          refine HY.out.mono ?_
          rintro e w5 ⟨rfl, hg⟩
          try simp (config := { zetaDelta := true }) only [Exit.noGoto_ret, Exit.inBlock, Exit.then]
          refine ⟨rfl, ?_⟩
          rw [HRES.out]
          exact ⟨hg, rfl⟩
        have HL1 := Lib.hid (ptNext_len hp)
        have HST2 : Hid (classL u r = if h1.isSome || peekL r2 ≠ 45 || hasP [45, 93] r2 then classR u f h1 r2
            else match ptNext u none (r2.drop 1) with
              | .error e => .error e
              | .ok (b, h2, r3) => if !a.single || !b.single || decide (b.val < a.val) then .error (403, a.rem) else classR u f h2 r3) := Lib.hid (by rw [HSTEP.out, hp])
        rw [hp] at HY
        clear hp
        refine HY.out.mono ?_
        rintro e w5 ⟨rfl, hC5, hT5⟩
        obtain ⟨ar, av, asg⟩ := a
        unfold ptV
        dsimp only at HST2 hC5 ⊢
        go_wp2_with fail
        obtain ⟨ga, hga⟩ : ∃ g, g = w5.heap.size := ⟨_, rfl⟩
        rw [← hga]
        obtain ⟨W5, hW5⟩ : ∃ W, w5.alloc (.cells #[.int .i64 ((l.length : Int) - (ar : Int)), .int .i64 (av : Int), .bool asg] 64) = W := ⟨_, rfl⟩
        rw [hW5]
        have hC6 : ClAt b l u xs w gr gh h1 r2 W5 ∧ Blk W5 ga [.int .i64 ((l.length : Int) - (ar : Int)), .int .i64 (av : Int), .bool asg] 64 ∧ ga ≠ b ∧ ga ≠ gh := by
          have g1 := hC5.at_.lt
          obtain ⟨v, g2, _⟩ := hC5.bh
          have g3 := g2.lt
          rw [← hW5]
          exact ⟨hC5.alloc _, Blk.new' _ _ hga, by omega, by omega⟩
        have HC6 := Lib.hid hC6
        clear hC5 hT5 hC6 hW5 hga HY
        obtain ⟨v6, hb6, hh6⟩ := HC6.out.1.bh
        have c0 := hb6.cell 0
        have g0 := HC6.out.1.br.cell 0
        obtain ⟨k6, hk6, hd6, hbb6⟩ := HC6.out.1.at_.rd
        have s0 := hbb6.cell 0
        have s1 := hbb6.cell 1
        have hsl := slice_rest hk6 hd6
        have HPK := Lib.hid (fun n => peek_any b l u xs r2 (W5.drewN n) (HC6.out.1.at_.rd.drew n) hl)
        have HPF : Hid (∀ w, Calls Tryd.prog 30 #[.string (strOf r2), .string (strOf [45, 93])] w fun e w' => e = .returned (.bool (hasP [45, 93] r2)) ∧ w' = w) := Lib.hid (fun w => by
          have := Tryd.strings_HasPrefix (strOf r2) (strOf [45, 93]) w
          rw [strOf_list, strOf_list] at this
          exact this)
        clear hb6 hk6 hd6 hbb6
        have hgo2 : ((∃ n a c, v6 = .slice a n c ∧ ((n : Int) > 0)) ∧ h1 ≠ none) ∨ (v6 = .slice none 0 0 ∧ h1 = none ∧ peekL r2 ≠ 45) ∨ (v6 = .slice none 0 0 ∧ h1 = none ∧ peekL r2 = 45 ∧ hasP [45, 93] r2 = true) ∨ (v6 = .slice none 0 0 ∧ h1 = none ∧ peekL r2 = 45 ∧ hasP [45, 93] r2 = false) := by
          cases h1 with
          | some q =>
            obtain ⟨g, rfl, _⟩ := hh6
            exact .inl ⟨⟨1, _, 1, rfl, by decide⟩, by simp⟩
          | none =>
            replace hh6 : v6 = .slice none 0 0 := hh6
            by_cases hp : peekL r2 = 45
            · rcases Bool.eq_false_or_eq_true (hasP [45, 93] r2) with q | q
              · exact .inr (.inr (.inl ⟨hh6, rfl, hp, q⟩))
              · exact .inr (.inr (.inr ⟨hh6, rfl, hp, q⟩))
            · exact .inr (.inl ⟨hh6, rfl, hp⟩)
        clear hh6
        rcases hgo2 with ⟨⟨n6, a6, c6, rfl, hn6⟩, hs6⟩ | ⟨rfl, rfl, hp⟩ | ⟨rfl, rfl, hp, hq⟩ | ⟨rfl, rfl, hp, hq⟩
        · have HRES : Hid (classL u r = classR u f h1 r2) := Lib.hid (by
            rw [HST2.out]
            cases h1 with
            | none => exact absurd rfl hs6
            | some q => rfl)
          have hn6' : (0 : Int) < (n6 : Int) := hn6
          have hd6 : decide (0 < n6) = true := by simp; omega
          clear hs6
          go_quiet (fail)
          generalize hw6 : W5.drewN nq = w6
          have hC7 : ClAt b l u xs w gr gh h1 r2 w6 := by rw [← hw6]; exact HC6.out.1.drew _
          have HC7 := Lib.hid hC7
          clear c0 g0 s0 s1 hsl hw6 hC7
          go_wp2_with fail
          go_roundw
          case rel =>
            have h1 := HL1.out.1
            have h2 := HR.out.2
            exact ⟨f, _, r2, HRES.out, by omega, HC7.out⟩
          case measure =>
            have h1 := HL1.out.1
            have h2 := HC7.out.meas
            have h3 := HM.out
            omega
        · have HRES : Hid (classL u r = classR u f none r2) := Lib.hid (by
            rw [HST2.out, if_pos]
            simp [hp])
          have z1 : ((peekL r2 : Int) != 45) = true := by simp; omega
          clear hp
          go_quiet (first | (go_at_call 21; exact Calls.quiet_of (HPK.out _)))
          generalize hw6 : W5.drewN nq = w6
          have hC7 : ClAt b l u xs w gr gh none r2 w6 := by rw [← hw6]; exact HC6.out.1.drew _
          have HC7 := Lib.hid hC7
          clear c0 g0 s0 s1 hsl hw6 hC7
          go_wp2_with fail
          go_roundw
          case rel =>
            have h1 := HL1.out.1
            have h2 := HR.out.2
            exact ⟨f, _, r2, HRES.out, by omega, HC7.out⟩
          case measure =>
            have h1 := HL1.out.1
            have h2 := HC7.out.meas
            have h3 := HM.out
            omega
        · have HRES : Hid (classL u r = classR u f none r2) := Lib.hid (by
            rw [HST2.out, if_pos]
            simp [hq])
          have z1 : ((peekL r2 : Int) != 45) = false := by simp; omega
          rw [hq] at HPF
          clear hp hq
          go_quiet (first | (go_at_call 21; exact Calls.quiet_of (HPK.out _)) | (go_at_call 30; exact Calls.quiet_of_same (HPF.out _)))
          generalize hw6 : W5.drewN nq = w6
          have hC7 : ClAt b l u xs w gr gh none r2 w6 := by rw [← hw6]; exact HC6.out.1.drew _
          have HC7 := Lib.hid hC7
          clear c0 g0 s0 s1 hsl hw6 hC7
          go_wp2_with fail
          go_roundw
          case rel =>
            have h1 := HL1.out.1
            have h2 := HR.out.2
            exact ⟨f, _, r2, HRES.out, by omega, HC7.out⟩
          case measure =>
            have h1 := HL1.out.1
            have h2 := HC7.out.meas
            have h3 := HM.out
            omega
        · have HST3 : Hid (classL u r = match ptNext u none (r2.drop 1) with
              | .error e => .error e
              | .ok (b, h2, r3) => if !asg || !b.single || decide (b.val < av) then .error (403, ar) else classR u f h2 r3) := Lib.hid (by
            rw [HST2.out, if_neg]
            simp [hp, hq])
          have z1 : ((peekL r2 : Int) != 45) = false := by simp; omega
          have HNE2 : Hid (r2 ≠ []) := Lib.hid (peek_ne (by omega))
          rw [hq] at HPF
          clear hp hq
          go_quiet (first | (go_at_call 21; exact Calls.quiet_of (HPK.out _)) | (go_at_call 30; exact Calls.quiet_of_same (HPF.out _)))
          generalize hw6 : W5.drewN nq = w6
          have hC7 : ClAt b l u xs w gr gh none r2 w6 ∧ Blk w6 ga [.int .i64 ((l.length : Int) - (ar : Int)), .int .i64 (av : Int), .bool asg] 64 := by rw [← hw6]; exact ⟨HC6.out.1.drew _, HC6.out.2.1⟩
          have HC7 := Lib.hid hC7
          clear c0 g0 s0 s1 hsl z1 hw6 hC7
          have g0 := HC7.out.1.br.cell 0
          obtain ⟨k7, hk7, hd7, hb7⟩ := HC7.out.1.at_.rd
          have c1 := hb7.cell 1
          have f1 := hb7.frozen 1
          have hIN := HC7.out.1.inc hl HNE2.out c1
          have HIN := Lib.hid hIN
          have gi := hIN.br.cell 0
          have HBA := Lib.hid (HC7.out.2.set_other (a := ⟨b, 1, none⟩) (by simpa using HC6.out.2.2.1) (.int .i64 (wrap64 ((k7 : Int) + 1))))
          have hgrb : ¬ b = gr := fun e => HC7.out.1.nrb e.symm
          have hgrb2 : ¬ gr = b := HC7.out.1.nrb
          clear hk7 hd7 hb7 hIN
          go_wp2_with fail
          obtain ⟨r3, hr3⟩ : ∃ q, q = r2.drop 1 := ⟨_, rfl⟩
          rw [← hr3] at HIN HST3
          have HR3 := Lib.hid hr3
          clear hr3 gi g0 c1 f1
          have HY := Lib.hid (next_any_cl b l u xs w gr gh none r3 _ HIN.out hl HE.out hb2)
          rcases hp : ptNext u none r3 with f5 | ⟨a2, h2, r4⟩
          · have HRES : Hid (classL u r = .error f5) := Lib.hid (by rw [HST3.out, hp])
            rw [hp] at HY
            clear hp
            refine HY.out.mono ?_
            rintro e w8 ⟨rfl, hg⟩
            try simp (config := { zetaDelta := true }) only [Exit.noGoto_ret, Exit.inBlock, Exit.then]
            refine ⟨rfl, ?_⟩
            rw [HRES.out]
            exact ⟨hg, rfl⟩
          have HL2 := Lib.hid (ptNext_len hp)
          have HST4 : Hid (classL u r = if !asg || !a2.single || decide (a2.val < av) then .error (403, ar) else classR u f h2 r4) := Lib.hid (by rw [HST3.out, hp])
          rw [hp] at HY
          clear hp
          refine HY.out.mono ?_
          rintro e w8 ⟨rfl, hC8, hT8⟩
          obtain ⟨br, bv, bsg⟩ := a2
          unfold ptV
          dsimp only at HST4 hC8 ⊢
          have hBA8 := HBA.out.two hT8 HC6.out.2.2.1 HC6.out.2.2.2
          have a0 := hBA8.cell 0
          have a1 := hBA8.cell 1
          have a2 := hBA8.cell 2
          have hal := hBA8.lt
          have HC8 := Lib.hid (hC8.alloc (.cells #[.int .i64 ((l.length : Int) - (br : Int)), .int .i64 (bv : Int), .bool bsg] 64))
          clear hC8 hT8 hBA8 HY
          by_cases hbad : asg = false ∨ bsg = false ∨ bv < av
          · have HRES : Hid (classL u r = .error (403, ar)) := Lib.hid (by
              rw [HST4.out, if_pos]
              rcases hbad with h | h | h <;> simp [h])
            have hb' : asg = false ∨ (asg = true ∧ bsg = false) ∨ (asg = true ∧ bsg = true ∧ ((bv : Int) < (av : Int))) := by
              cases asg <;> cases bsg <;> simp at hbad ⊢
              omega
            clear hbad
            rcases hb' with rfl | ⟨rfl, rfl⟩ | ⟨rfl, rfl, hlt⟩
            all_goals
              go_wp2_with fail
              refine (fail_any _ _ _).mono ?_
              rintro e w9 ⟨he, rfl⟩
              replace he := he.trans (thrown_pt l.length ⟨ar, av, true⟩)
              subst he
              try simp (config := { zetaDelta := true }) only [Exit.noGoto_ret, Exit.inBlock, Exit.then]
              refine ⟨rfl, ?_⟩
              rw [HRES.out]
              exact ⟨HC8.out.at_.gr, rfl⟩
          · have hb' : asg = true ∧ bsg = true ∧ ¬ ((bv : Int) < (av : Int)) := by
              cases asg <;> cases bsg <;> simp at hbad ⊢
              omega
            have HRES : Hid (classL u r = classR u f h2 r4) := Lib.hid (by
              rw [HST4.out, if_neg]
              simp [hb'.1, hb'.2.1]
              omega)
            obtain ⟨rfl, rfl, hnl⟩ := hb'
            have hnl2 : ¬ ((av : Int) > (bv : Int)) := hnl
            clear hbad
            go_wp2_with fail
            go_roundw
            case rel =>
              have h1 := HL1.out.1
              have h2 := HL2.out.1
              have h3 := HR.out.2
              have h4 := congrArg List.length HR3.out
              rw [List.length_drop] at h4
              have h5 := List.length_pos_iff.2 HNE2.out
              refine ⟨f, _, r4, HRES.out, ?_, HC8.out⟩
              have e0 : some1 none = 0 := rfl
              omega
            case measure =>
              have h1 := HL1.out.1
              have h2 := HL2.out.1
              have h4 := congrArg List.length HR3.out
              rw [List.length_drop] at h4
              have h5 := List.length_pos_iff.2 HNE2.out
              have h6 := HC8.out.meas
              have h7 := HM.out
              have e0 : some1 none = 0 := rfl
              omega
      · go_wp2_with fail
        refine (peek_rd b l u xs r' wr HC.out.at_.rd hl).mono ?_
        rintro e w4 ⟨rfl, hr, hg⟩
        have HC4 := Lib.hid (HC.out.next hr (grown_of hg _))
        clear hr hg c0 g0 hh0
        go_wp2_with fail
        clear hz
        have HY := Lib.hid (next_any_cl b l u xs w gr gh h r' _ HC4.out hl HE.out hb2)
        rcases hp : ptNext u h r' with f5 | ⟨a, h1, r2⟩
        · have HRES : Hid (classL u r = .error f5) := Lib.hid (by rw [HSTEP.out, hp])
          rw [hp] at HY
          clear hp
          refine HY.out.mono ?_
          rintro e w5 ⟨rfl, hg⟩
          try simp (config := { zetaDelta := true }) only [Exit.noGoto_ret, Exit.inBlock, Exit.then]
          refine ⟨rfl, ?_⟩
          rw [HRES.out]
          exact ⟨hg, rfl⟩
        have HL1 := Lib.hid (ptNext_len hp)
        have HST2 : Hid (classL u r = if h1.isSome || peekL r2 ≠ 45 || hasP [45, 93] r2 then classR u f h1 r2
            else match ptNext u none (r2.drop 1) with
              | .error e => .error e
              | .ok (b, h2, r3) => if !a.single || !b.single || decide (b.val < a.val) then .error (403, a.rem) else classR u f h2 r3) := Lib.hid (by rw [HSTEP.out, hp])
        rw [hp] at HY
        clear hp
        refine HY.out.mono ?_
        rintro e w5 ⟨rfl, hC5, hT5⟩
        obtain ⟨ar, av, asg⟩ := a
        unfold ptV
        dsimp only at HST2 hC5 ⊢
        go_wp2_with fail
        obtain ⟨ga, hga⟩ : ∃ g, g = w5.heap.size := ⟨_, rfl⟩
        rw [← hga]
        obtain ⟨W5, hW5⟩ : ∃ W, w5.alloc (.cells #[.int .i64 ((l.length : Int) - (ar : Int)), .int .i64 (av : Int), .bool asg] 64) = W := ⟨_, rfl⟩
        rw [hW5]
        have hC6 : ClAt b l u xs w gr gh h1 r2 W5 ∧ Blk W5 ga [.int .i64 ((l.length : Int) - (ar : Int)), .int .i64 (av : Int), .bool asg] 64 ∧ ga ≠ b ∧ ga ≠ gh := by
          have g1 := hC5.at_.lt
          obtain ⟨v, g2, _⟩ := hC5.bh
          have g3 := g2.lt
          rw [← hW5]
          exact ⟨hC5.alloc _, Blk.new' _ _ hga, by omega, by omega⟩
        have HC6 := Lib.hid hC6
        clear hC5 hT5 hC6 hW5 hga HY
        obtain ⟨v6, hb6, hh6⟩ := HC6.out.1.bh
        have c0 := hb6.cell 0
        have g0 := HC6.out.1.br.cell 0
        obtain ⟨k6, hk6, hd6, hbb6⟩ := HC6.out.1.at_.rd
        have s0 := hbb6.cell 0
        have s1 := hbb6.cell 1
        have hsl := slice_rest hk6 hd6
        have HPK := Lib.hid (fun n => peek_any b l u xs r2 (W5.drewN n) (HC6.out.1.at_.rd.drew n) hl)
        have HPF : Hid (∀ w, Calls Tryd.prog 30 #[.string (strOf r2), .string (strOf [45, 93])] w fun e w' => e = .returned (.bool (hasP [45, 93] r2)) ∧ w' = w) := Lib.hid (fun w => by
          have := Tryd.strings_HasPrefix (strOf r2) (strOf [45, 93]) w
          rw [strOf_list, strOf_list] at this
          exact this)
        clear hb6 hk6 hd6 hbb6
        have hgo2 : ((∃ n a c, v6 = .slice a n c ∧ ((n : Int) > 0)) ∧ h1 ≠ none) ∨ (v6 = .slice none 0 0 ∧ h1 = none ∧ peekL r2 ≠ 45) ∨ (v6 = .slice none 0 0 ∧ h1 = none ∧ peekL r2 = 45 ∧ hasP [45, 93] r2 = true) ∨ (v6 = .slice none 0 0 ∧ h1 = none ∧ peekL r2 = 45 ∧ hasP [45, 93] r2 = false) := by
          cases h1 with
          | some q =>
            obtain ⟨g, rfl, _⟩ := hh6
            exact .inl ⟨⟨1, _, 1, rfl, by decide⟩, by simp⟩
          | none =>
            replace hh6 : v6 = .slice none 0 0 := hh6
            by_cases hp : peekL r2 = 45
            · rcases Bool.eq_false_or_eq_true (hasP [45, 93] r2) with q | q
              · exact .inr (.inr (.inl ⟨hh6, rfl, hp, q⟩))
              · exact .inr (.inr (.inr ⟨hh6, rfl, hp, q⟩))
            · exact .inr (.inl ⟨hh6, rfl, hp⟩)
        clear hh6
        rcases hgo2 with ⟨⟨n6, a6, c6, rfl, hn6⟩, hs6⟩ | ⟨rfl, rfl, hp⟩ | ⟨rfl, rfl, hp, hq⟩ | ⟨rfl, rfl, hp, hq⟩
        · have HRES : Hid (classL u r = classR u f h1 r2) := Lib.hid (by
            rw [HST2.out]
            cases h1 with
            | none => exact absurd rfl hs6
            | some q => rfl)
          have hn6' : (0 : Int) < (n6 : Int) := hn6
          have hd6 : decide (0 < n6) = true := by simp; omega
          clear hs6
          go_quiet (fail)
          generalize hw6 : W5.drewN nq = w6
          have hC7 : ClAt b l u xs w gr gh h1 r2 w6 := by rw [← hw6]; exact HC6.out.1.drew _
          have HC7 := Lib.hid hC7
          clear c0 g0 s0 s1 hsl hw6 hC7
          go_wp2_with fail
          go_roundw
          case rel =>
            have h1 := HL1.out.1
            have h2 := HR.out.2
            exact ⟨f, _, r2, HRES.out, by omega, HC7.out⟩
          case measure =>
            have h1 := HL1.out.1
            have h2 := HC7.out.meas
            have h3 := HM.out
            omega
        · have HRES : Hid (classL u r = classR u f none r2) := Lib.hid (by
            rw [HST2.out, if_pos]
            simp [hp])
          have z1 : ((peekL r2 : Int) != 45) = true := by simp; omega
          clear hp
          go_quiet (first | (go_at_call 21; exact Calls.quiet_of (HPK.out _)))
          generalize hw6 : W5.drewN nq = w6
          have hC7 : ClAt b l u xs w gr gh none r2 w6 := by rw [← hw6]; exact HC6.out.1.drew _
          have HC7 := Lib.hid hC7
          clear c0 g0 s0 s1 hsl hw6 hC7
          go_wp2_with fail
          go_roundw
          case rel =>
            have h1 := HL1.out.1
            have h2 := HR.out.2
            exact ⟨f, _, r2, HRES.out, by omega, HC7.out⟩
          case measure =>
            have h1 := HL1.out.1
            have h2 := HC7.out.meas
            have h3 := HM.out
            omega
        · have HRES : Hid (classL u r = classR u f none r2) := Lib.hid (by
            rw [HST2.out, if_pos]
            simp [hq])
          have z1 : ((peekL r2 : Int) != 45) = false := by simp; omega
          rw [hq] at HPF
          clear hp hq
          go_quiet (first | (go_at_call 21; exact Calls.quiet_of (HPK.out _)) | (go_at_call 30; exact Calls.quiet_of_same (HPF.out _)))
          generalize hw6 : W5.drewN nq = w6
          have hC7 : ClAt b l u xs w gr gh none r2 w6 := by rw [← hw6]; exact HC6.out.1.drew _
          have HC7 := Lib.hid hC7
          clear c0 g0 s0 s1 hsl hw6 hC7
          go_wp2_with fail
          go_roundw
          case rel =>
            have h1 := HL1.out.1
            have h2 := HR.out.2
            exact ⟨f, _, r2, HRES.out, by omega, HC7.out⟩
          case measure =>
            have h1 := HL1.out.1
            have h2 := HC7.out.meas
            have h3 := HM.out
            omega
        · have HST3 : Hid (classL u r = match ptNext u none (r2.drop 1) with
              | .error e => .error e
              | .ok (b, h2, r3) => if !asg || !b.single || decide (b.val < av) then .error (403, ar) else classR u f h2 r3) := Lib.hid (by
            rw [HST2.out, if_neg]
            simp [hp, hq])
          have z1 : ((peekL r2 : Int) != 45) = false := by simp; omega
          have HNE2 : Hid (r2 ≠ []) := Lib.hid (peek_ne (by omega))
          rw [hq] at HPF
          clear hp hq
          go_quiet (first | (go_at_call 21; exact Calls.quiet_of (HPK.out _)) | (go_at_call 30; exact Calls.quiet_of_same (HPF.out _)))
          generalize hw6 : W5.drewN nq = w6
          have hC7 : ClAt b l u xs w gr gh none r2 w6 ∧ Blk w6 ga [.int .i64 ((l.length : Int) - (ar : Int)), .int .i64 (av : Int), .bool asg] 64 := by rw [← hw6]; exact ⟨HC6.out.1.drew _, HC6.out.2.1⟩
          have HC7 := Lib.hid hC7
          clear c0 g0 s0 s1 hsl z1 hw6 hC7
          have g0 := HC7.out.1.br.cell 0
          obtain ⟨k7, hk7, hd7, hb7⟩ := HC7.out.1.at_.rd
          have c1 := hb7.cell 1
          have f1 := hb7.frozen 1
          have hIN := HC7.out.1.inc hl HNE2.out c1
          have HIN := Lib.hid hIN
          have gi := hIN.br.cell 0
          have HBA := Lib.hid (HC7.out.2.set_other (a := ⟨b, 1, none⟩) (by simpa using HC6.out.2.2.1) (.int .i64 (wrap64 ((k7 : Int) + 1))))
          have hgrb : ¬ b = gr := fun e => HC7.out.1.nrb e.symm
          have hgrb2 : ¬ gr = b := HC7.out.1.nrb
          clear hk7 hd7 hb7 hIN
          go_wp2_with fail
          obtain ⟨r3, hr3⟩ : ∃ q, q = r2.drop 1 := ⟨_, rfl⟩
          rw [← hr3] at HIN HST3
          have HR3 := Lib.hid hr3
          clear hr3 gi g0 c1 f1
          have HY := Lib.hid (next_any_cl b l u xs w gr gh none r3 _ HIN.out hl HE.out hb2)
          rcases hp : ptNext u none r3 with f5 | ⟨a2, h2, r4⟩
          · have HRES : Hid (classL u r = .error f5) := Lib.hid (by rw [HST3.out, hp])
            rw [hp] at HY
            clear hp
            refine HY.out.mono ?_
            rintro e w8 ⟨rfl, hg⟩
            try simp (config := { zetaDelta := true }) only [Exit.noGoto_ret, Exit.inBlock, Exit.then]
            refine ⟨rfl, ?_⟩
            rw [HRES.out]
            exact ⟨hg, rfl⟩
          have HL2 := Lib.hid (ptNext_len hp)
          have HST4 : Hid (classL u r = if !asg || !a2.single || decide (a2.val < av) then .error (403, ar) else classR u f h2 r4) := Lib.hid (by rw [HST3.out, hp])
          rw [hp] at HY
          clear hp
          refine HY.out.mono ?_
          rintro e w8 ⟨rfl, hC8, hT8⟩
          obtain ⟨br, bv, bsg⟩ := a2
          unfold ptV
          dsimp only at HST4 hC8 ⊢
          have hBA8 := HBA.out.two hT8 HC6.out.2.2.1 HC6.out.2.2.2
          have a0 := hBA8.cell 0
          have a1 := hBA8.cell 1
          have a2 := hBA8.cell 2
          have hal := hBA8.lt
          have HC8 := Lib.hid (hC8.alloc (.cells #[.int .i64 ((l.length : Int) - (br : Int)), .int .i64 (bv : Int), .bool bsg] 64))
          clear hC8 hT8 hBA8 HY
          by_cases hbad : asg = false ∨ bsg = false ∨ bv < av
          · have HRES : Hid (classL u r = .error (403, ar)) := Lib.hid (by
              rw [HST4.out, if_pos]
              rcases hbad with h | h | h <;> simp [h])
            have hb' : asg = false ∨ (asg = true ∧ bsg = false) ∨ (asg = true ∧ bsg = true ∧ ((bv : Int) < (av : Int))) := by
              cases asg <;> cases bsg <;> simp at hbad ⊢
              omega
            clear hbad
            rcases hb' with rfl | ⟨rfl, rfl⟩ | ⟨rfl, rfl, hlt⟩
            all_goals
              go_wp2_with fail
              refine (fail_any _ _ _).mono ?_
              rintro e w9 ⟨he, rfl⟩
              replace he := he.trans (thrown_pt l.length ⟨ar, av, true⟩)
              subst he
              try simp (config := { zetaDelta := true }) only [Exit.noGoto_ret, Exit.inBlock, Exit.then]
              refine ⟨rfl, ?_⟩
              rw [HRES.out]
              exact ⟨HC8.out.at_.gr, rfl⟩
          · have hb' : asg = true ∧ bsg = true ∧ ¬ ((bv : Int) < (av : Int)) := by
              cases asg <;> cases bsg <;> simp at hbad ⊢
              omega
            have HRES : Hid (classL u r = classR u f h2 r4) := Lib.hid (by
              rw [HST4.out, if_neg]
              simp [hb'.1, hb'.2.1]
              omega)
            obtain ⟨rfl, rfl, hnl⟩ := hb'
            have hnl2 : ¬ ((av : Int) > (bv : Int)) := hnl
            clear hbad
            go_wp2_with fail
            go_roundw
            case rel =>
              have h1 := HL1.out.1
              have h2 := HL2.out.1
              have h3 := HR.out.2
              have h4 := congrArg List.length HR3.out
              rw [List.length_drop] at h4
              have h5 := List.length_pos_iff.2 HNE2.out
              refine ⟨f, _, r4, HRES.out, ?_, HC8.out⟩
              have e0 : some1 none = 0 := rfl
              omega
            case measure =>
              have h1 := HL1.out.1
              have h2 := HL2.out.1
              have h4 := congrArg List.length HR3.out
              rw [List.length_drop] at h4
              have h5 := List.length_pos_iff.2 HNE2.out
              have h6 := HC8.out.meas
              have h7 := HM.out
              have e0 : some1 none = 0 := rfl
              omega
end Go.Proofs.YtnbadnmmolagfaaDoor
