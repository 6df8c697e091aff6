/- edits.pairs: the iterator over the lines that are kept. -/
import Derived.Test.YtakolehlaejhfaaEdTable
import Derived.Test.YtakolehlaejhfaaRangeT
import Derived.Test.YtakolehlaejhfaaRows
import Derived.WalkSmall
import Derived.Outline
import Derived.BigRegion
import Derived.BigQuiet
import Derived.IntWalk
import Derived.Deep.Cut
import Derived.Deep.LoopGhost
import Derived.Deep.QuietTactic
namespace Go.Proofs.Ytakolehlaejhfaa
open Go.RowKit Go.Shelf
set_option maxRecDepth 100000
set_option linter.unusedVariables false
set_option linter.unusedSimpArgs false
attribute [local go_sem] Oper.semAt_some

def encP (p : Nat × Nat) : Array Value := #[.int .i64 p.1, .int .i64 p.2]
/-- What the iterator reads. -/
structure PIt (a b : List Ln) (A1 A2 : Option Addr) (c1 c2 Ba Bb g n0 N N1 : Nat) (W : World) : Prop where
  ba : W.cell? ⟨Ba, 0, none⟩ = some (.slice A1 a.length c1)
  bb : W.cell? ⟨Bb, 0, none⟩ = some (.slice A2 b.length c2)
  ta : TxtAt W 0 n0 A1 a
  tb : TxtAt W 0 n0 A2 b
  rows : RowsAt W N N1 (some ⟨g, 0, none⟩) a b
  z1 : Ba < W.heap.size
  z2 : Bb < W.heap.size
  z3 : N1 ≤ W.heap.size
  z4 : n0 ≤ W.heap.size
theorem PIt.next {a b : List Ln} {A1 A2 : Option Addr} {c1 c2 Ba Bb g n0 N N1 : Nat} {W W' : World} (h : PIt a b A1 A2 c1 c2 Ba Bb g n0 N N1 W) {T : Nat → Prop} (hT : ∀ k, k = Ba ∨ k = Bb ∨ (N ≤ k ∧ k < N1) → T k) (hk : KT n0 T W W') : PIt a b A1 A2 c1 c2 Ba Bb g n0 N N1 W' := by
  have hs := hk.1
  have := h.z1
  have := h.z2
  have h3 := h.z3
  have h4 := h.z4
  exact ⟨(hk.cell (p := ⟨Ba, 0, none⟩) h.z1 (.inr (hT _ (.inl rfl)))).trans h.ba, (hk.cell (p := ⟨Bb, 0, none⟩) h.z2 (.inr (hT _ (.inr (.inl rfl))))).trans h.bb,
    h.ta.of fun k _ hk' => hk.2 k (by omega) (.inl hk'), h.tb.of fun k _ hk' => hk.2 k (by omega) (.inl hk'), h.rows.of fun k h1 h2 => hk.2 k (by omega) (.inr (hT _ (.inr (.inr ⟨h1, h2⟩)))), by omega, by omega, by omega, by omega⟩
theorem PIt.drewN {a b : List Ln} {A1 A2 : Option Addr} {c1 c2 Ba Bb g n0 N N1 : Nat} {W : World} (h : PIt a b A1 A2 c1 c2 Ba Bb g n0 N N1 W) (n : Nat) : PIt a b A1 A2 c1 c2 Ba Bb g n0 N N1 (W.drewN n) := ⟨h.ba, h.bb, h.ta, h.tb, h.rows, h.z1, h.z2, h.z3, h.z4⟩
theorem PIt.cell {a b : List Ln} {A1 A2 : Option Addr} {c1 c2 Ba Bb g n0 N N1 : Nat} {W : World} (h : PIt a b A1 A2 c1 c2 Ba Bb g n0 N N1 W) {i k : Nat} (hi : i ≤ a.length) (hk : k ≤ b.length) :
    ∃ q o c, W.cell? ⟨g, i, none⟩ = some (.slice (some ⟨q, o, none⟩) (b.length + 1) c) ∧ W.cell? ⟨q, o + k, none⟩ = some (.int .i64 (lcs (a.drop i) (b.drop k) : Nat)) := by
  obtain ⟨g', e, _, _, h3⟩ := h.rows
  cases e
  obtain ⟨q, o, c, c1, _, _, _, c2⟩ := h3 i hi
  exact ⟨q, o, c, c1, c2 k hk⟩
theorem KX.drewN (X : Nat → Prop) (W : World) (n : Nat) : KX X W (W.drewN n) := ⟨rfl, rfl, rfl, Nat.le_refl _, fun _ _ _ => rfl⟩
theorem drop_cons' {l : List Ln} {i : Nat} {x : Ln} (h : l[i]? = some x) : l.drop i = x :: l.drop (i + 1) := by
  obtain ⟨h1, e1⟩ := List.getElem?_eq_some_iff.1 h
  rw [List.drop_eq_getElem_cons h1, e1]

theorem pairs_step_none {a b : List Ln} {xx k : Nat} {x : Ln} (hx : a[xx]? = some x) (h : keptAt x (a.drop (xx + 1)) (b.drop k) = none) :
    pairsB (a.drop xx) (b.drop k) xx k = pairsB (a.drop (xx + 1)) (b.drop k) (xx + 1) k ∧ lcs (a.drop (xx + 1)) (b.drop k) = lcs (a.drop xx) (b.drop k) := by
  rw [drop_cons' hx]
  refine ⟨?_, (keptAt_none h).2.symm⟩
  conv => lhs; unfold pairsB
  rw [h]
theorem pairs_step_some {a b : List Ln} {xx k j : Nat} {x : Ln} (hx : a[xx]? = some x) (h : keptAt x (a.drop (xx + 1)) (b.drop k) = some j) :
    pairsB (a.drop xx) (b.drop k) xx k = (xx, k + j) :: pairsB (a.drop (xx + 1)) (b.drop (k + j + 1)) (xx + 1) (k + j + 1) := by
  rw [drop_cons' hx]
  conv => lhs; unfold pairsB
  rw [h]
  simp only [List.drop_drop, Nat.add_assoc]
/-- Where the inner search ends. -/
theorem first_at (x : Ln) (b : List Ln) (k : Nat) (hk : k ≤ b.length) : ∃ Y, k ≤ Y ∧ Y ≤ b.length ∧ (∀ z, k ≤ z → z < Y → ∃ y, b[z]? = some y ∧ y ≠ x) ∧
    ((Y < b.length ∧ b[Y]? = some x ∧ idxOfLn x (b.drop k) = some (Y - k)) ∨ (Y = b.length ∧ idxOfLn x (b.drop k) = none)) := by
  cases h : idxOfLn x (b.drop k) with
  | none =>
    refine ⟨b.length, hk, Nat.le_refl _, fun z h1 h2 => ⟨b[z], List.getElem?_eq_getElem h2, fun e => ?_⟩, .inr ⟨rfl, rfl⟩⟩
    have := idxOf_none x _ h (z - k)
    rw [List.getElem?_drop, show k + (z - k) = z by omega, List.getElem?_eq_getElem h2, e] at this
    exact this rfl
  | some j =>
    obtain ⟨h1, h2⟩ := idxOf_some x _ j h
    rw [List.getElem?_drop] at h1
    have hlt := (List.getElem?_eq_some_iff.1 h1).1
    refine ⟨k + j, by omega, by omega, fun z h3 h4 => ⟨b[z], List.getElem?_eq_getElem (by omega), fun e => ?_⟩, .inl ⟨hlt, h1, by rw [Nat.add_sub_cancel_left]⟩⟩
    have := h2 (z - k) (by omega)
    rw [List.getElem?_drop, show k + (z - k) = z by omega, List.getElem?_eq_getElem (by omega), e] at this
    exact this rfl

set_option maxHeartbeats 8000000 in
theorem pairs_iter (a b : List Ln) (A1 A2 : Option Addr) (c1 c2 Ba Bb n0 m0 : Nat) (W : World) (ha : a.length ≤ 1024) (hb : b.length ≤ 1024)
    (hba : W.cell? ⟨Ba, 0, none⟩ = some (.slice A1 a.length c1)) (hbb : W.cell? ⟨Bb, 0, none⟩ = some (.slice A2 b.length c2)) (hta : TxtAt W 0 n0 A1 a) (htb : TxtAt W 0 n0 A2 b)
    (h1 : m0 ≤ Ba) (h2 : m0 ≤ Bb) (h3 : Ba < W.heap.size) (h4 : Bb < W.heap.size) (h5 : n0 ≤ W.heap.size) (h6 : m0 ≤ W.heap.size) :
    IterT (α := Nat × Nat) Try.prog 38 #[.pointer (some ⟨Ba, 0, none⟩), .pointer (some ⟨Bb, 0, none⟩)] encP n0 m0 (fun _ => False) (fun xs => xs = pairsB a b 0 0) (fun pre => ∃ r, pre ++ r = pairsB a b 0 0) W := by
  intro l J Jx hJ hJx hY h0
  have HJ := Lib.hid hJ
  have HJX := Lib.hid hJx
  have HY := Lib.hid hY
  have H0 := Lib.hid h0
  have HTA := Lib.hid hta
  have HTB := Lib.hid htb
  clear hJ hJx hY h0 hta htb
  go_enter Try.func38, Try.ntmps38
  go_wp2_with fail
  refine (table_any a b A1 A2 c1 c2 W ha hb (HTA.out.wide (Nat.le_refl _) h5) (HTB.out.wide (Nat.le_refl _) h5)).mono ?_
  rintro e W1 ⟨A, rfl, hrows, hb1⟩
  obtain ⟨g, rfl⟩ : ∃ g, A = some ⟨g, 0, none⟩ := by obtain ⟨g, e, _⟩ := hrows; exact ⟨g, e⟩
  have hz1 := hb1.size
  have hp0 : PIt a b A1 A2 c1 c2 Ba Bb g n0 W.heap.size W1.heap.size W1 :=
    ⟨(hb1.cell (p := ⟨Ba, 0, none⟩) h3).trans hba, (hb1.cell (p := ⟨Bb, 0, none⟩) h4).trans hbb, HTA.out.below hb1 h5, HTB.out.below hb1 h5, hrows, by omega, by omega, Nat.le_refl _, by omega⟩
  obtain ⟨T, hTd⟩ : ∃ T : Nat → Prop, T = fun k => k = Ba ∨ k = Bb ∨ (W.heap.size ≤ k ∧ k < W1.heap.size) := ⟨_, rfl⟩
  have hT0 : ∀ k, T k → m0 ≤ k ∧ k < W1.heap.size := by
    intro k hk
    rw [hTd] at hk
    rcases hk with rfl | rfl | ⟨hk1, hk2⟩ <;> omega
  have hj0 := H0.out T W1 hT0 (KX.of_below hb1)
  have HYT := Lib.hid (HY.out T (fun k hk => (hT0 k hk).1))
  have HTD := Lib.hid (show ∀ k, k = Ba ∨ k = Bb ∨ (W.heap.size ≤ k ∧ k < W1.heap.size) → T k from fun k hk => by rw [hTd]; exact hk)
  have HJT := Lib.hid (HJ.out T)
  have HP0 := Lib.hid hp0
  have HJ0 := Lib.hid hj0
  obtain ⟨N, hN⟩ : ∃ N, N = W.heap.size := ⟨_, rfl⟩
  obtain ⟨N1, hN1⟩ : ∃ N, N = W1.heap.size := ⟨_, rfl⟩
  rw [← hN, ← hN1] at HP0 HTD
  clear hrows hp0 hT0 hj0 hTd hb1 hba hbb HY H0 HJ hN hN1 hz1 h1 h2 h3 h4 h5 h6
  go_wp2_with fail
  go_loopg [5, 6, 7, 8, 9] a.length (fun gk i k _ _ _ wr => ∃ (ii kk : Nat) (pre : List (Nat × Nat)), i = .int .i64 (ii : Int) ∧ k = .int .i64 (kk : Int) ∧ ii ≤ a.length ∧ kk ≤ b.length ∧ gk = a.length - ii ∧ pre ++ pairsB (a.drop ii) (b.drop kk) ii kk = pairsB a b 0 0 ∧ J T pre wr ∧ PIt a b A1 A2 c1 c2 Ba Bb g n0 N N1 wr)
  case atStart => exact ⟨0, 0, [], rfl, rfl, Nat.zero_le _, Nat.zero_le _, rfl, rfl, HJ0.out, HP0.out⟩
  case round =>
    obtain ⟨i, k, pre, rfl, rfl, hi, hk, hgk, hpre, hj, hp⟩ := hrel
    obtain ⟨q, o, c, d1, d2⟩ := hp.cell hi hk
    obtain ⟨lv, hlv⟩ : ∃ lv, lv = lcs (a.drop i) (b.drop k) := ⟨_, rfl⟩
    rw [← hlv] at d2
    have hlb : lv ≤ 1024 := by rw [hlv]; exact Nat.le_trans (lcs_le _ _) (by rw [List.length_drop]; omega)
    have HP := Lib.hid hp
    have HJ1 := Lib.hid hj
    have HPRE := Lib.hid hpre
    have HGK := Lib.hid hgk
    have HLV := Lib.hid hlv
    have hii : (i : Int) < (a.length : Int) + 1 := by omega
    have hkk : (k : Int) < (b.length : Int) + 1 := by omega
    clear hp hj hpre hgk hlv
    by_cases hl0 : lv = 0
    · subst hl0
      go_wp2_with fail
      go_end0
      refine ⟨⟨_, rfl⟩, .inl ⟨pre, T, ?_, HJ1.out⟩⟩
      have h := HPRE.out
      rwa [pairsB_zero _ _ _ _ HLV.out.symm, List.append_nil] at h
    · have hl1 : (0 : Int) < (lv : Int) := by omega
      go_wp2_with fail
      have hila : i < a.length := by
        rcases Nat.lt_or_ge i a.length with h | h
        · exact h
        · exfalso
          have := HLV.out
          rw [List.drop_eq_nil_of_le h, lcs_nil] at this
          exact hl0 this
      obtain ⟨wo, rfl⟩ : ∃ wo : World, wo = wr := ⟨_, rfl⟩
      have HI := Lib.hid hi
      clear hii hi
      go_loopw [8, 9] (fun x _ wr => ∃ xx : Nat, x = .int .i64 (xx : Int) ∧ i ≤ xx ∧ xx < a.length ∧ lcs (a.drop xx) (b.drop k) = lv ∧ pre ++ pairsB (a.drop xx) (b.drop k) xx k = pairsB a b 0 0 ∧ J T pre wr ∧ PIt a b A1 A2 c1 c2 Ba Bb g n0 N N1 wr) (fun x _ _ => a.length - (intOf x).toNat)
      case atStart => exact ⟨i, rfl, Nat.le_refl _, hila, HLV.out.symm, HPRE.out, HJ1.out, HP.out⟩
      case round =>
        obtain ⟨xx, rfl, hix, hxa, hlx, hpx, hj, hp⟩ := hrel
        have hxe := List.getElem?_eq_getElem hxa
        generalize a[xx]'hxa = x at *
        obtain ⟨Y, hY1, hY2, hYne, hYat⟩ := first_at x b k hk
        have HX := Lib.hid hxe
        have HLX := Lib.hid hlx
        have HPX := Lib.hid hpx
        have HJ2 := Lib.hid hj
        have HP2 := Lib.hid hp
        have HYN := Lib.hid hYne
        have HYA := Lib.hid hYat
        clear hxe hlx hpx hj hp hYne hYat d1 d2
        go_wp2_with fail
        obtain ⟨wp, rfl⟩ : ∃ wo : World, wo = wr := ⟨_, rfl⟩
        go_loopw [9] (fun y wr => ∃ yy : Nat, y = .int .i64 (yy : Int) ∧ k ≤ yy ∧ yy ≤ Y ∧ J T pre wr ∧ PIt a b A1 A2 c1 c2 Ba Bb g n0 N N1 wr) (fun y _ => b.length - (intOf y).toNat)
        case atStart => exact ⟨k, rfl, Nat.le_refl _, hY1, HJ2.out, HP2.out⟩
        case round =>
          obtain ⟨yy, rfl, hky, hyY, hj, hp⟩ := hrel
          have e1 := hp.ba
          have e2 := hp.bb
          have HJ3 := Lib.hid hj
          have HP3 := Lib.hid hp
          obtain ⟨ba, oa, eA, _, hba, hca⟩ := hp.ta.at_ hxa
          rw [show a[xx] = x from by have := HX.out; rw [List.getElem?_eq_getElem hxa] at this; exact Option.some.inj this] at hca
          subst eA
          have hxi : (xx : Int) < (a.length : Int) := by omega
          by_cases hlt : yy < Y
          · obtain ⟨y, hy, hne⟩ := HYN.out yy hky hlt
            have hyb := (List.getElem?_eq_some_iff.1 hy).1
            obtain ⟨bb, ob, eB, _, hbb, hcb⟩ := hp.tb.at_ hyb
            rw [show b[yy] = y from by rw [List.getElem?_eq_getElem hyb] at hy; exact Option.some.inj hy] at hcb
            subst eB
            have hyi : (yy : Int) < (b.length : Int) := by omega
            have hne1 := str_ne hne
            clear hj hp hy hne
            go_wp2_with fail
            go_quiet (fail)
            go_wp2_with fail
            go_roundw
            case rel => exact ⟨yy + 1, by go_num, by omega, by omega, HJT.out _ _ _ HJ3.out (KX.drewN _ _ _), HP3.out.drewN _⟩
            case measure => simp [intOf]; omega
          · have hyY2 : yy = Y := by omega
            subst hyY2
            rcases HYA.out with ⟨hYb, hYx, hidx⟩ | ⟨hYb, hidx⟩
            · obtain ⟨bb, ob, eB, _, hbb, hcb⟩ := hp.tb.at_ hYb
              rw [show b[yy] = x from by rw [List.getElem?_eq_getElem hYb] at hYx; exact Option.some.inj hYx] at hcb
              subst eB
              have hyi : (yy : Int) < (b.length : Int) := by omega
              have hse : ((strOf x).toList == (strOf x).toList) = true := by simp
              obtain ⟨q2, o2, cc2, d1, d2⟩ := hp.cell (i := xx + 1) (k := yy + 1) (by omega) (by omega)
              obtain ⟨lt, hlt2⟩ : ∃ lt, lt = lcs (a.drop (xx + 1)) (b.drop (yy + 1)) := ⟨_, rfl⟩
              rw [← hlt2] at d2
              have hltb : lt ≤ 1024 := by rw [hlt2]; exact Nat.le_trans (lcs_le _ _) (by rw [List.length_drop]; omega)
              have HLT := Lib.hid hlt2
              have HID := Lib.hid hidx
              clear hj hp hYx hidx hlt2
              go_wp2_with fail
              go_quiet (fail)
              change (wr.drewN nq).cell? _ = _ at d1
              change (wr.drewN nq).cell? _ = _ at d2
              have hp3 := HP3.out.drewN nq
              have hj3 := HJT.out _ _ _ HJ3.out (KX.drewN _ wr nq)
              have HP4 := Lib.hid hp3
              have HJ4 := Lib.hid hj3
              have f1 := hp3.bb
              clear hp3 hj3 HP3 HJ3 e1 e2 hca hcb
              generalize wr.drewN nq = ws at *
              by_cases hbr : lt + 1 = lv
              · have hbr2 : (lt : Int) + 1 = (lv : Int) := by omega
                have hka : keptAt x (a.drop (xx + 1)) (b.drop k) = some (yy - k) := by
                  unfold keptAt
                  rw [HID.out]
                  simp only [List.drop_drop]
                  rw [show k + (yy - k + 1) = yy + 1 by omega, ← HLT.out, ← drop_cons' HX.out, HLX.out, if_pos hbr]
                have hps := pairs_step_some HX.out hka
                rw [show k + (yy - k) = yy by omega] at hps
                have hpx := HPX.out
                rw [hps] at hpx
                have hyx := HYT.out pre (xx, yy) ws ⟨_, by rw [List.append_assoc]; exact hpx⟩ HJ4.out
                obtain ⟨fn, tmps, asg, bdy, hy, hR⟩ := hyx
                simp only [encP] at hy
                have HR := Lib.hid hR
                have HPX2 := Lib.hid hpx
                clear hR hps hka hpx hbr
                go_upto_region 10 with (fail)
                refine (wpIn_wide (n := 4)).1 ?_
                gi_wp2_with fail
                refine HR.out.mono ?_
                rintro e W3 (⟨rfl, hJ3, hk3⟩ | ⟨rfl, hJx3⟩)
                · have HJ5 := Lib.hid hJ3
                  have HP5 := Lib.hid (HP4.out.next HTD.out hk3)
                  clear hJ3 hk3 hy d1 d2 f1
                  gi_wp2_with fail
                  go_wp2_with fail
                  go_roundg (a.length - (xx + 1))
                  case measure => rw [HGK.out]; omega
                  case rel => exact ⟨xx + 1, yy + 1, pre ++ [(xx, yy)], by go_num, by go_num, by omega, by omega, rfl, by rw [← HPX2.out, List.append_assoc]; rfl, HJ5.out, HP5.out⟩
                · have HJX3 := Lib.hid hJx3
                  clear hJx3 hy d1 d2 f1
                  gi_wp2_with fail
                  go_wp2_with fail
                  refine bodyPost_ret (results_none rfl _ _ _) rfl ?_
                  exact ⟨⟨_, rfl⟩, .inr ⟨pre ++ [(xx, yy)], ⟨_, by rw [List.append_assoc]; exact HPX2.out⟩, HJX3.out⟩⟩
              · have hbr2 : ((lt : Int) + 1 == (lv : Int)) = false := by simp; omega
                have hka : keptAt x (a.drop (xx + 1)) (b.drop k) = none := by
                  unfold keptAt
                  rw [HID.out]
                  simp only [List.drop_drop]
                  rw [show k + (yy - k + 1) = yy + 1 by omega, ← HLT.out, ← drop_cons' HX.out, HLX.out, if_neg hbr]
                obtain ⟨hps, hls⟩ := pairs_step_none HX.out hka
                have hxn : xx + 1 < a.length := by
                  rcases Nat.lt_or_ge (xx + 1) a.length with h | h
                  · exact h
                  · exfalso
                    rw [List.drop_eq_nil_of_le h, lcs_nil, HLX.out] at hls
                    exact hl0 hls.symm
                have HPS := Lib.hid hps
                have HLS := Lib.hid hls
                clear hps hls hka hbr
                go_wp2_with fail
                go_roundw
                case rel => exact ⟨xx + 1, by go_num, by omega, hxn, by rw [HLS.out, HLX.out], by rw [← HPS.out]; exact HPX.out, HJ4.out, HP4.out⟩
                case measure => simp [intOf]; omega
            · have hyi : decide ((yy : Int) < (b.length : Int)) = false := by simp; omega
              have HID := Lib.hid hidx
              clear hj hp hidx
              go_wp2_with fail
              go_quiet (fail)
              have hp3 := HP3.out.drewN nq
              have hj3 := HJT.out _ _ _ HJ3.out (KX.drewN _ wr nq)
              have HP4 := Lib.hid hp3
              have HJ4 := Lib.hid hj3
              have f1 := hp3.bb
              clear hp3 hj3 HP3 HJ3 e1 e2 hca
              generalize wr.drewN nq = ws at *
              have hka : keptAt x (a.drop (xx + 1)) (b.drop k) = none := by unfold keptAt; rw [HID.out]
              obtain ⟨hps, hls⟩ := pairs_step_none HX.out hka
              have hxn : xx + 1 < a.length := by
                rcases Nat.lt_or_ge (xx + 1) a.length with h | h
                · exact h
                · exfalso
                  rw [List.drop_eq_nil_of_le h, lcs_nil, HLX.out] at hls
                  exact hl0 hls.symm
              have HPS := Lib.hid hps
              have HLS := Lib.hid hls
              clear hps hls hka
              go_wp2_with fail
              go_roundw
              case rel => exact ⟨xx + 1, by go_num, by omega, hxn, by rw [HLS.out, HLX.out], by rw [← HPS.out]; exact HPX.out, HJ4.out, HP4.out⟩
              case measure => simp [intOf]; omega
end Go.Proofs.Ytakolehlaejhfaa
