/- Package regex: the closure of class, walked. -/
import Derived.Test.YtnbadnmmolagfaaDoorRegHalf
namespace Go.Proofs.YtnbadnmmolagfaaDoor
open Go.RowKit
set_option maxRecDepth 100000
set_option linter.unusedVariables false
set_option linter.unusedSimpArgs false

/-- How the closure's call ends. -/
def NextEnd (b : Nat) (l : Ln) (u : Bool) (xs : List Value) (w0 : World) (gr gh : Nat) (w : World) (R : Except Flt (Pt × Option Pt × Ln)) (e : Ending) (w' : World) : Prop :=
  match R with
  | .ok p => e = .returned (ptV l.length p.1) ∧ ClAt b l u xs w0 gr gh p.2.1 p.2.2 w' ∧ Two b gh w w'
  | .error f => e = thrown l.length f ∧ w0.grownBy w' (some b)
/-- All of class's blocks but the reader's lie behind the world it began in. -/
theorem two_at {b : Nat} {gh : Nat} {w0 w w' : World} (h : w0.grownBy w (some b)) (hg : w0.heap.size ≤ gh) (k : Two b gh w w') : w0.grownBy w' (some b) :=
  ⟨k.os.trans h.os, k.tape.trans h.tape, k.output.trans h.output, Nat.le_trans h.size k.size, fun i hi hn => (k.block i (Nat.lt_of_lt_of_le hi h.size) (by simpa using hn) (by omega)).trans (h.block i hi hn)⟩

set_option maxHeartbeats 8000000 in
theorem next_half (b : Nat) (l : Ln) (u : Bool) (xs : List Value) (w0 : World) (gr gh : Nat) (p : Pt) (r : Ln) (w : World) (h : ClAt b l u xs w0 gr gh (some p) r w) (hl : l.length ≤ 4096) :
    Calls Tryd.prog 42 #[.pointer (some ⟨gh, 0, none⟩), .pointer (some ⟨gr, 0, none⟩)] w (NextEnd b l u xs w0 gr gh w (.ok (p, none, r))) := by
  have H := Lib.hid h
  obtain ⟨v, hv, hh⟩ := h.bh
  obtain ⟨g, rfl, hg, h3, h4, h5, h6⟩ := hh
  have hlt := hv.lt
  have hlg := hg.lt
  have c0 := hv.cell 0
  have f0 := hv.frozen 0
  have g0 := hg.cell 0
  have g1 := hg.cell 1
  have g2 := hg.cell 2
  have HH := Lib.hid (And.intro hv (And.intro hg (And.intro h3 (And.intro h4 (And.intro h5 h6)))))
  clear h hv hg h3 h4 h5 h6
  go_enter Tryd.func42, Tryd.ntmps42
  go_wp2_with fail
  refine bodyPost_ret (v := ptV l.length p) (by simp [results, Tryd.results42, go_sem, ptV]) rfl ?_
  have hc := H.out
  obtain ⟨hv, hg, h3, h4, h5, h6⟩ := HH.out
  have h2 : Two b gh w (w.setCell ⟨gh, 0, none⟩ (.slice none 0 0)) := (Two.refl b gh w).set (.inr (.inl rfl)) 0 _
  refine ⟨rfl, ⟨((hc.at_.set hc.geh hc.nhb 0 _).alloc _).alloc _, (((hc.br.set_other (by simpa using hc.nrh) _).alloc _).alloc _), ⟨.slice none 0 0, ((hv.set 0 _).alloc _).alloc _, rfl⟩, hc.ger, hc.geh, hc.nrh, hc.nrb, hc.nhb⟩, (h2.alloc _).alloc _⟩

/-- Three stores into a block of one's own. -/
def set3 (w : World) (q : Nat) (x y z : Value) : World := ((w.setCell ⟨q, 0, none⟩ x).setCell ⟨q, 1, none⟩ y).setCell ⟨q, 2, none⟩ z
theorem At.set3 {b : Nat} {l : Ln} {u : Bool} {xs : List Value} {w w1 : World} {r : Ln} (h : At b l u xs w r w1) {q : Nat} (hg : w.heap.size ≤ q) (hne : q ≠ b) (x y z : Value) : At b l u xs w r (set3 w1 q x y z) := ((h.set hg hne 0 x).set hg hne 1 y).set hg hne 2 z
theorem Two.set3 {b g : Nat} {w w' : World} (h : Two b g w w') {q : Nat} (hq : w.heap.size ≤ q) (x y z : Value) : Two b g w (set3 w' q x y z) := ((h.set (.inr (.inr hq)) 0 x).set (.inr (.inr hq)) 1 y).set (.inr (.inr hq)) 2 z
theorem Blk.set3 {W : World} {g : Nat} {cs : List Value} {e : TypeId} (h : Blk W g cs e) {q : Nat} (ha : g ≠ q) (x y z : Value) : Blk (set3 W q x y z) g cs e := ((h.set_other (by simpa using ha) x).set_other (by simpa using ha) y).set_other (by simpa using ha) z

set_option maxHeartbeats 8000000 in
theorem next_point (b : Nat) (l : Ln) (u : Bool) (xs : List Value) (w0 : World) (gr gh : Nat) (r : Ln) (w : World) (h : ClAt b l u xs w0 gr gh none r w) (hl : l.length ≤ 4096) (hE : ∀ w1, w0.grownBy w1 (some b) → Env w1) (hb2 : 2 < b) :
    Calls Tryd.prog 42 #[.pointer (some ⟨gh, 0, none⟩), .pointer (some ⟨gr, 0, none⟩)] w (NextEnd b l u xs w0 gr gh w (ptNext u none r)) := by
  have H := Lib.hid h
  obtain ⟨v, hv, hh⟩ := h.bh
  replace hh : v = .slice none 0 0 := hh
  subst hh
  have hlt := hv.lt
  have hlr := h.br.lt
  have c0 := hv.cell 0
  have g0 := h.br.cell 0
  have HV := Lib.hid hv
  have HEN := Lib.hid hE
  clear h hv hE
  go_enter Tryd.func42, Tryd.ntmps42
  go_wp2_with fail
  clear c0 g0 hlt hlr
  obtain ⟨q, hq⟩ : ∃ q, q = w.heap.size := ⟨_, rfl⟩
  rw [← hq]
  obtain ⟨W, hW⟩ : ∃ W, w.alloc (.cells #[.int .i64 0, .int .i64 0, .bool false] 64) = W := ⟨_, rfl⟩
  rw [hW]
  have hC : ClAt b l u xs w0 gr gh none r W ∧ Blk W q [.int .i64 0, .int .i64 0, .bool false] 64 ∧ Two b gh w W := by
    rw [← hW]
    have hc := H.out
    exact ⟨⟨hc.at_.alloc _, hc.br.alloc _, ⟨_, HV.out.alloc _, rfl⟩, hc.ger, hc.geh, hc.nrh, hc.nrb, hc.nhb⟩, Blk.new' _ _ hq, (Two.refl b gh w).alloc _⟩
  have hqn : q ≠ b ∧ q ≠ gh ∧ q ≠ gr := by
    have h1 := H.out.at_.lt
    have h2 := HV.out.lt
    have h3 := H.out.br.lt
    omega
  have hq0 : w0.heap.size ≤ q := by have := H.out.at_.gr.size; omega
  have HC := Lib.hid hC
  have HQN := Lib.hid (And.intro hqn hq0)
  have HQ := Lib.hid hq
  clear hW hC hqn hq0 hq
  have HY := Lib.hid (point_any b l u xs r W HC.out.1.at_.rd hl (HEN.out W HC.out.1.at_.gr) hb2)
  rcases hp : pointL u r with f4 | ⟨p, r1⟩
  · have HRES : Hid (ptNext u none r = .error f4) := Lib.hid (by unfold ptNext; rw [hp]; rfl)
    rw [hp] at HY
    clear hp
    refine HY.out.mono ?_
    rintro e w2 ⟨hg2, rfl⟩
    try simp (config := { zetaDelta := true }) only [Exit.noGoto_ret, Exit.inBlock, Exit.then]
    refine ⟨rfl, ?_⟩
    rw [HRES.out]
    exact ⟨rfl, grown_trans HC.out.1.at_.gr hg2⟩
  · have hval := pointL_val hp
    have HRES : Hid (ptNext u none r = if p.single && decide (65535 < p.val) && !u then .ok (⟨p.rem, 55296 + (p.val - 65536) / 1024, true⟩, some ⟨p.rem, 56320 + (p.val - 65536) % 1024, true⟩, r1) else .ok (p, none, r1)) := Lib.hid (by unfold ptNext; rw [hp]; rfl)
    rw [hp] at HY
    clear hp
    refine HY.out.mono ?_
    rintro e w2 ⟨hg2, rfl, hr⟩
    have HC2 := Lib.hid (HC.out.1.next hr hg2)
    have HT2 := Lib.hid (HC.out.2.2.trans (.of hg2))
    have HB2 := Lib.hid (HC.out.2.1.grown hg2 (by simp; have := HQN.out; omega))
    have HS2 := Lib.hid hg2.size
    clear hr hg2 HY
    obtain ⟨pr, pv, ps⟩ := p
    have hql : q < w2.heap.size := HB2.out.lt
    have e0 := HB2.out.cell 0
    have e1 := HB2.out.cell 1
    have e2 := HB2.out.cell 2
    have y0 := HB2.out.frozen 0
    have y1 := HB2.out.frozen 1
    have y2 := HB2.out.frozen 2
    have ge := HC2.out.br.cell 0
    have hlr := HC2.out.br.lt
    have hbl := HC2.out.at_.lt
    obtain ⟨k, hk, hd, hb⟩ := HC2.out.at_.rd
    have c2 := hb.cell 2
    obtain ⟨v2, hv2, hh2⟩ := HC2.out.bh
    have hgl := hv2.lt
    have m0 := hv2.cell 0
    have mf := hv2.frozen 0
    have HV2 := Lib.hid (And.intro hv2 hh2)
    clear hk hd hb hv2 hh2
    unfold ptV
    dsimp only at hval HRES ⊢
    have hqg : ¬ q = gh := HQN.out.1.2.1
    have hgq : ¬ gh = q := fun e => hqg e.symm
    cases ps
    · have HR2 : Hid (ptNext u none r = .ok (⟨pr, pv, false⟩, none, r1)) := Lib.hid (by rw [HRES.out]; rfl)
      go_wp2_with fail
      refine bodyPost_ret (v := ptV l.length ⟨pr, pv, false⟩) (by simp [results, Tryd.results42, go_sem, ptV, e0, e1, e2, hql]) rfl ?_
      rw [HR2.out]
      have hc := HC2.out
      obtain ⟨hv2, hh2⟩ := HV2.out
      have hqq := HQN.out
      exact ⟨rfl, ⟨(hc.at_.set3 hqq.2 hqq.1.1 _ _ _).alloc _, (hc.br.set3 (Ne.symm hqq.1.2.2) _ _ _).alloc _, ⟨_, (hv2.set3 hgq _ _ _).alloc _, hh2⟩, hc.ger, hc.geh, hc.nrh, hc.nrb, hc.nhb⟩, (HT2.out.set3 (by rw [HQ.out]; exact Nat.le_refl _) _ _ _).alloc _⟩
    · by_cases hbig : 65535 < pv
      · cases u
        · have HR2 : Hid (ptNext false none r = .ok (⟨pr, 55296 + (pv - 65536) / 1024, true⟩, some ⟨pr, 56320 + (pv - 65536) % 1024, true⟩, r1)) := Lib.hid (by rw [HRES.out]; simp [hbig])
          have hbi : (65535 : Int) < (pv : Int) := by omega
          have hbd : decide ((pv : Int) > 65535) = true := by simp; omega
          obtain ⟨x, hx⟩ : ∃ x, x = pv - 65536 := ⟨_, rfl⟩
          have hsub : (pv : Int) - 65536 = (x : Int) := by omega
          have hxb : x ≤ 1048575 := by omega
          have HX := Lib.hid hx
          clear hx
          have ha := and1023 x (by omega)
          have hm : x % 1024 < 1024 := Nat.mod_lt _ (by decide)
          clear hbig
          go_wp2_with fail
          refine bodyPost_ret (v := .agg #[.int .i64 ((l.length : Int) - (pr : Int)), .int .i64 (55296 + (x : Int) / 1024), .bool true]) (by simp [results, Tryd.results42, go_sem, e0, e1, e2, hql, hqg]) rfl ?_
          rw [HR2.out]
          have hc := HC2.out
          obtain ⟨hv2, hh2⟩ := HV2.out
          have hqq := HQN.out
          have hsz := HS2.out
          have hwz := HT2.out.size
          have hw0 := H.out.at_.gr.size
          have hx := HX.out
          have ex1 : ((55296 + (pv - 65536) / 1024 : Nat) : Int) = 55296 + (x : Int) / 1024 := by omega
          have ex2 : ((56320 + (pv - 65536) % 1024 : Nat) : Int) = 56320 + (x : Int) % 1024 := by omega
          refine ⟨?_, ⟨(((hc.at_.set hc.geh hc.nhb 0 _).set3 hqq.2 hqq.1.1 _ _ _).alloc _).alloc _, (((hc.br.set_other (by simpa using hc.nrh) _).set3 (Ne.symm hqq.1.2.2) _ _ _).alloc _).alloc _, ⟨_, (((hv2.set 0 _).set3 hgq _ _ _).alloc _).alloc _, w2.heap.size + 1, rfl, ?_, by omega, by omega, by omega, by omega⟩, hc.ger, hc.geh, hc.nrh, hc.nrb, hc.nhb⟩, (((HT2.out.set (.inr (.inl rfl)) 0 _).set3 (by rw [HQ.out]; exact Nat.le_refl _) _ _ _).alloc _).alloc _⟩
          · unfold ptV
            dsimp only
            rw [ex1]
          · dsimp only
            rw [ex2]
            exact Blk.new' _ _ (by simp)
        · have HR2 : Hid (ptNext true none r = .ok (⟨pr, pv, true⟩, none, r1)) := Lib.hid (by rw [HRES.out]; simp)
          have hbi : (65535 : Int) < (pv : Int) := by omega
          have hbd : decide ((pv : Int) > 65535) = true := by simp; omega
          go_wp2_with fail
          refine bodyPost_ret (v := ptV l.length ⟨pr, pv, true⟩) (by simp [results, Tryd.results42, go_sem, ptV, e0, e1, e2, hql]) rfl ?_
          rw [HR2.out]
          have hc := HC2.out
          obtain ⟨hv2, hh2⟩ := HV2.out
          have hqq := HQN.out
          exact ⟨rfl, ⟨(hc.at_.set3 hqq.2 hqq.1.1 _ _ _).alloc _, (hc.br.set3 (Ne.symm hqq.1.2.2) _ _ _).alloc _, ⟨_, (hv2.set3 hgq _ _ _).alloc _, hh2⟩, hc.ger, hc.geh, hc.nrh, hc.nrb, hc.nhb⟩, (HT2.out.set3 (by rw [HQ.out]; exact Nat.le_refl _) _ _ _).alloc _⟩
      · have HR2 : Hid (ptNext u none r = .ok (⟨pr, pv, true⟩, none, r1)) := Lib.hid (by rw [HRES.out]; simp [hbig])
        have hbi : ¬ (65535 : Int) < (pv : Int) := by omega
        have hbd : decide ((pv : Int) > 65535) = false := by simp; omega
        go_wp2_with fail
        refine bodyPost_ret (v := ptV l.length ⟨pr, pv, true⟩) (by simp [results, Tryd.results42, go_sem, ptV, e0, e1, e2, hql]) rfl ?_
        rw [HR2.out]
        have hc := HC2.out
        obtain ⟨hv2, hh2⟩ := HV2.out
        have hqq := HQN.out
        exact ⟨rfl, ⟨(hc.at_.set3 hqq.2 hqq.1.1 _ _ _).alloc _, (hc.br.set3 (Ne.symm hqq.1.2.2) _ _ _).alloc _, ⟨_, (hv2.set3 hgq _ _ _).alloc _, hh2⟩, hc.ger, hc.geh, hc.nrh, hc.nrb, hc.nhb⟩, (HT2.out.set3 (by rw [HQ.out]; exact Nat.le_refl _) _ _ _).alloc _⟩
end Go.Proofs.YtnbadnmmolagfaaDoor
