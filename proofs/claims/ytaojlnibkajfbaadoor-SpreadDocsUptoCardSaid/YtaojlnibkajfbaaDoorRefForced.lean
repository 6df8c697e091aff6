/- platenref16.forced. -/
import Derived.Test.YtaojlnibkajfbaaDoorFrcPlain
import Derived.Test.YtaojlnibkajfbaaDoorDocRow
namespace Go.Proofs.YtaojlnibkajfbaaDoor
open Go.RowKit
set_option maxRecDepth 100000
set_option linter.unusedVariables false
set_option linter.unusedSimpArgs false

theorem any_none {ks : List Doc} (h : ∀ x (hx : x < ks.length), (ks[x]).frc = false) : frcL ks = false := by
  rw [frcL_any, List.any_eq_false]
  intro d hd
  obtain ⟨i, hi, rfl⟩ := List.getElem_of_mem hd
  simp [h i hi]
theorem any_some {ks : List Doc} {j : Nat} (hj : j < ks.length) (h : (ks[j]).frc = true) : frcL ks = true := by
  rw [frcL_any, List.any_eq_true]
  exact ⟨_, List.getElem_mem hj, h⟩
theorem frcH_get {ks : List Doc} (h : 0 < ks.length) : frcH ks = (ks[0]).frc := by
  cases ks with
  | nil => simp at h
  | cons x xs => rfl
def FrcIn (d : Doc) : Prop := ∀ (kv : Value) (w : World), KV w 0 w.heap.size d kv → d.shape = true → d.bulk ≤ 4194304 →
    Calls Tryd.prog 44 #[docV d kv] w fun e w' => e = .returned (.bool d.frc) ∧ Below w.heap.size w w'
set_option maxHeartbeats 8000000 in
theorem forced_any (d : Doc) : FrcIn d := by
  refine Doc.ind (P := FrcIn) (fun d ih => ?_) d
  intro kv w hk hsh hb
  obtain ⟨h1, h2⟩ := shape_parts hsh
  obtain ⟨a, cap, rfl⟩ := hk.slice
  have hkid := fun j hj => hk.kid (j := j) hj
  have hmem : ∀ j (hj : j < d.kids.length), FrcIn d.kids[j] ∧ (d.kids[j]).bulk ≤ 4194304 ∧ (d.kids[j]).shape = true := fun j hj => ⟨ih _ (List.getElem_mem hj), by have := Doc.kid_bulk (List.getElem_mem hj); omega, h2 _ (List.getElem_mem hj)⟩
  have hlen : d.kids.length < 4194304 := by have := d.kids_len; omega
  have hcond : d.kind = 8 → 0 < d.kids.length := formed_cond h1
  have hfe := d.frc_eq
  obtain ⟨W0, hW0⟩ : ∃ W0, W0 = w.alloc (.cells (docCells d (.slice a d.kids.length cap)).toArray 24) := ⟨_, rfl⟩
  have hst : Blk W0 w.heap.size (docCells d (.slice a d.kids.length cap)) 24 ∧ Below w.heap.size w W0 := by
    rw [hW0]
    exact ⟨Blk.new _ _ _, (Below.refl _ w).alloc (Nat.le_refl _) _⟩
  obtain ⟨len, hlen2⟩ : ∃ z, z = d.kids.length := ⟨_, rfl⟩
  rw [← hlen2] at hlen hst hW0 hcond
  have HFE := Lib.hid hfe
  have HKID := Lib.hid hkid
  have HMEM := Lib.hid hmem
  have HLEN := Lib.hid hlen2
  have HST := Lib.hid hst
  have HW0 := Lib.hid hW0
  clear hk hkid hmem ih hst hW0 hfe h1 h2 hsh
  rw [← hlen2]
  clear hlen2
  obtain ⟨fr, hfr⟩ : ∃ fr, fr = d.frc := ⟨_, rfl⟩
  rw [← hfr] at HFE ⊢
  clear hfr
  obtain ⟨kk, hkk⟩ : ∃ kk, kk = d.kind := ⟨_, rfl⟩
  obtain ⟨bb, hbb⟩ : ∃ bb, bb = d.brk := ⟨_, rfl⟩
  unfold docV
  simp only [docCells] at HW0 HST
  rw [← hkk] at HFE HST HW0 hcond ⊢
  rw [← hbb] at HFE HST HW0 ⊢
  clear hkk hbb
  have hkc : ((kk == 14) = true ∧ kk = 14) ∨ (((kk == 14) = false ∧ (kk == 8) = true) ∧ kk = 8) ∨ (((kk == 14) = false ∧ (kk == 8) = false ∧ (kk == 5) = true) ∧ kk = 5) ∨ (((kk == 14) = false ∧ (kk == 8) = false ∧ (kk == 5) = false ∧ (kk == 6) = true) ∧ kk = 6) ∨
      (((kk == 14) = false ∧ (kk == 8) = false ∧ (kk == 5) = false ∧ (kk == 6) = false ∧ (kk == 16) = true) ∧ kk = 16) ∨ (((kk == 14) = false ∧ (kk == 8) = false ∧ (kk == 5) = false ∧ (kk == 6) = false ∧ (kk == 16) = false ∧ (kk == 7) = true) ∧ kk = 7) ∨
      (((kk == 14) = false ∧ (kk == 8) = false ∧ (kk == 5) = false ∧ (kk == 6) = false ∧ (kk == 16) = false ∧ (kk == 7) = false) ∧ (kk ≠ 14 ∧ kk ≠ 8 ∧ kk ≠ 5 ∧ kk ≠ 6 ∧ kk ≠ 16 ∧ kk ≠ 7)) := by
    simp only [beq_iff_eq, beq_eq_false_iff_ne, ne_eq]
    omega
  rcases hkc with ⟨e1, ek⟩ | ⟨⟨e1, e2⟩, ek⟩ | ⟨⟨e1, e2, e3⟩, ek⟩ | ⟨⟨e1, e2, e3, e4⟩, ek⟩ | ⟨⟨e1, e2, e3, e4, e5⟩, ek⟩ | ⟨⟨e1, e2, e3, e4, e5, e6⟩, ek⟩ | ⟨⟨e1, e2, e3, e4, e5, e6⟩, ek⟩
  case inl =>
    have hfr : fr = false := by rw [HFE.out, if_pos ek]
    subst hfr
    clear ek hcond
    go_enter Tryd.func44, Tryd.ntmps44
    go_wp2_with fail
    go_ret
    exact ⟨rfl, (Below.refl _ w).alloc (Nat.le_refl _) _⟩
  case inr.inl =>
    have h0 := hcond ek
    have h0i : (0 : Int) < (len : Int) := by omega
    have hfr : fr = (bb || frcH d.kids) := by rw [HFE.out, if_neg (by omega), if_pos ek]
    have HFR := Lib.hid hfr
    clear hfr ek hcond
    cases bb with
    | true =>
      have hfr : fr = true := by rw [HFR.out]; rfl
      subst hfr
      go_enter Tryd.func44, Tryd.ntmps44
      go_wp2_with fail
      go_ret
      exact ⟨rfl, (Below.refl _ w).alloc (Nat.le_refl _) _⟩
    | false =>
      have hj2 : 0 < d.kids.length := by rw [← HLEN.out]; exact h0
      obtain ⟨g, off, rfl, _, hg, kv2, h6, hk2⟩ := HKID.out 0 hj2
      have h6' := h6.of (HST.out.2.block _ hg)
      have hkw : KV W0 0 W0.heap.size (d.kids[0]'hj2) kv2 := (hk2.below HST.out.2 (Nat.le_refl _)).wide (Nat.le_refl _) HST.out.2.size
      have HC := Lib.hid ((HMEM.out 0 hj2).1 kv2 W0 hkw (HMEM.out 0 hj2).2.2 (HMEM.out 0 hj2).2.1)
      have hfr : fr = (d.kids[0]'hj2).frc := by
        rw [HFR.out, Bool.false_or, frcH_get hj2]
      have g0 := h6'.kind
      have g1 := h6'.text
      have g2 := h6'.kids
      have g3 := h6'.brk
      have g4 := h6'.id
      have g5 := h6'.width
      rw [HW0.out] at g0 g1 g2 g3 g4 g5
      simp only [Nat.zero_mul, Nat.add_zero] at g0 g1 g2 g3 g4 g5
      clear HFR HFE h6 h6' hk2 hkw
      generalize d.kids[0]'hj2 = K at *
      obtain ⟨kf, hkf⟩ : ∃ kf, kf = K.frc := ⟨_, rfl⟩
      rw [← hkf] at HC hfr
      subst hfr
      clear hkf
      unfold docV at HC
      go_enter Tryd.func44, Tryd.ntmps44
      go_wp2_with fail
      refine (Calls.at_world (by rw [HW0.out]) HC.out).mono ?_
      rintro e w1 ⟨rfl, hb1⟩
      have HB1 := Lib.hid (HST.out.2.call (show Below W0.heap.size W0 w1 from hb1))
      clear hb1
      go_wp2_with fail
      go_ret
      exact ⟨rfl, HB1.out⟩
  case inr.inr.inr.inr.inr.inl =>
    cases bb with
    | true =>
      have hfr : fr = true := by rw [HFE.out, if_neg (by omega), if_neg (by omega), if_neg (by omega), if_pos ⟨ek, rfl⟩]
      subst hfr
      clear ek hcond
      go_enter Tryd.func44, Tryd.ntmps44
      go_wp2_with fail
      go_ret
      exact ⟨rfl, (Below.refl _ w).alloc (Nat.le_refl _) _⟩
    | false =>
      have hfr : fr = frcL d.kids := by rw [HFE.out, if_neg (by omega), if_neg (by omega), if_neg (by omega), if_neg (fun h => by cases h.2)]
      have HFR := Lib.hid hfr
      clear hfr ek hcond
      go_enter Tryd.func44, Tryd.ntmps44
      go_wp2_with fail
      go_loopw [3] (fun i wr => ∃ j : Nat, j ≤ len ∧ i = .int .i64 (j : Int) ∧ (∀ x (hx : x < d.kids.length), x < j → (d.kids[x]).frc = false) ∧ Blk wr w.heap.size [.int .i64 kk, .string d.text, .slice a len cap, .bool false, .int .i64 d.id, .int .i64 d.width] 24 ∧ Below w.heap.size w wr) (fun i _ => len - (intOf i).toNat)
      case atStart =>
        have h := HST.out
        rw [HW0.out] at h
        exact ⟨0, Nat.zero_le _, rfl, fun x _ h => absurd h (Nat.not_lt_zero x), h.1, h.2⟩
      case round =>
        obtain ⟨j, hj, rfl, hall, hbk, hbw⟩ := hrel
        have c2 := hbk.cell 2
        simp only [List.getElem?_cons_zero, List.getElem?_cons_succ] at c2
        have HALL := Lib.hid hall
        have HB := Lib.hid hbk
        have HBW := Lib.hid hbw
        by_cases hlt : j < len
        · have hjm : (j : Int) < (len : Int) := by omega
          have hj2 : j < d.kids.length := by rw [← HLEN.out]; exact hlt
          obtain ⟨g, off, rfl, _, hg, kv2, h6, hk2⟩ := HKID.out j hj2
          have h6' := h6.of (hbw.block _ hg)
          have g0 := h6'.kind
          have g1 := h6'.text
          have g2 := h6'.kids
          have g3 := h6'.brk
          have g4 := h6'.id
          have g5 := h6'.width
          have hkw : KV wr 0 wr.heap.size (d.kids[j]'hj2) kv2 := (hk2.below hbw (Nat.le_refl _)).wide (Nat.le_refl _) hbw.size
          have HC := Lib.hid ((HMEM.out j hj2).1 kv2 wr hkw (HMEM.out j hj2).2.2 (HMEM.out j hj2).2.1)
          have HONE := Lib.hid (fun h => any_some (ks := d.kids) hj2 h)
          obtain ⟨K, hK⟩ : ∃ K, K = d.kids[j]'hj2 := ⟨_, rfl⟩
          rw [← hK] at g0 g1 g3 g4 g5 HC HONE
          have HKK := Lib.hid hK
          clear h6 h6' hk2 hbk hbw hkw hall hK
          obtain ⟨kf, hkf⟩ : ∃ kf, kf = K.frc := ⟨_, rfl⟩
          rw [← hkf] at HC HONE
          have HKF := Lib.hid hkf
          clear hkf
          go_wp2_with fail
          refine HC.out.mono ?_
          rintro e w2 ⟨rfl, hb2⟩
          have HB2 := Lib.hid (HBW.out.call hb2)
          have HBK2 := Lib.hid (HB.out.below hb2)
          clear hb2 c2 g0 g1 g2 g3 g4 g5
          cases kf with
          | false =>
            go_wp2_with fail
            go_roundw
            case rel =>
              refine ⟨j + 1, by omega, by go_num, fun x hx hxj => ?_, HBK2.out, HB2.out⟩
              rcases Nat.lt_or_ge x j with h | h
              · exact HALL.out x hx h
              · obtain rfl : x = j := by omega
                rw [← HKK.out]
                exact HKF.out.symm
            case measure => simp [intOf]; omega
          | true =>
            have hfr : fr = true := by rw [HFR.out]; exact HONE.out rfl
            subst hfr
            go_wp2_with fail
            go_ret
            exact ⟨rfl, HB2.out⟩
        · have hjm : (len : Int) ≤ (j : Int) := by omega
          have hfr : fr = false := by rw [HFR.out]; exact any_none (fun x hx => hall x hx (by have := HLEN.out; omega))
          subst hfr
          clear hall hbk hbw
          go_wp2_with fail
          go_ret
          exact ⟨rfl, HBW.out⟩
  case inr.inr.inr.inr.inr.inr =>
    have hfr : fr = frcL d.kids := by rw [HFE.out, if_neg (by omega), if_neg (by omega), if_neg (by omega), if_neg (by omega)]
    have HFR := Lib.hid hfr
    clear hfr ek hcond
    go_enter Tryd.func44, Tryd.ntmps44
    go_wp2_with fail
    go_loopw [3] (fun i wr => ∃ j : Nat, j ≤ len ∧ i = .int .i64 (j : Int) ∧ (∀ x (hx : x < d.kids.length), x < j → (d.kids[x]).frc = false) ∧ Blk wr w.heap.size [.int .i64 kk, .string d.text, .slice a len cap, .bool bb, .int .i64 d.id, .int .i64 d.width] 24 ∧ Below w.heap.size w wr) (fun i _ => len - (intOf i).toNat)
    case atStart =>
      have h := HST.out
      rw [HW0.out] at h
      exact ⟨0, Nat.zero_le _, rfl, fun x _ h => absurd h (Nat.not_lt_zero x), h.1, h.2⟩
    case round =>
      obtain ⟨j, hj, rfl, hall, hbk, hbw⟩ := hrel
      have c2 := hbk.cell 2
      simp only [List.getElem?_cons_zero, List.getElem?_cons_succ] at c2
      have HALL := Lib.hid hall
      have HB := Lib.hid hbk
      have HBW := Lib.hid hbw
      by_cases hlt : j < len
      · have hjm : (j : Int) < (len : Int) := by omega
        have hj2 : j < d.kids.length := by rw [← HLEN.out]; exact hlt
        obtain ⟨g, off, rfl, _, hg, kv2, h6, hk2⟩ := HKID.out j hj2
        have h6' := h6.of (hbw.block _ hg)
        have g0 := h6'.kind
        have g1 := h6'.text
        have g2 := h6'.kids
        have g3 := h6'.brk
        have g4 := h6'.id
        have g5 := h6'.width
        have hkw : KV wr 0 wr.heap.size (d.kids[j]'hj2) kv2 := (hk2.below hbw (Nat.le_refl _)).wide (Nat.le_refl _) hbw.size
        have HC := Lib.hid ((HMEM.out j hj2).1 kv2 wr hkw (HMEM.out j hj2).2.2 (HMEM.out j hj2).2.1)
        have HONE := Lib.hid (fun h => any_some (ks := d.kids) hj2 h)
        obtain ⟨K, hK⟩ : ∃ K, K = d.kids[j]'hj2 := ⟨_, rfl⟩
        rw [← hK] at g0 g1 g3 g4 g5 HC HONE
        have HKK := Lib.hid hK
        clear h6 h6' hk2 hbk hbw hkw hall hK
        obtain ⟨kf, hkf⟩ : ∃ kf, kf = K.frc := ⟨_, rfl⟩
        rw [← hkf] at HC HONE
        have HKF := Lib.hid hkf
        clear hkf
        go_wp2_with fail
        refine HC.out.mono ?_
        rintro e w2 ⟨rfl, hb2⟩
        have HB2 := Lib.hid (HBW.out.call hb2)
        have HBK2 := Lib.hid (HB.out.below hb2)
        clear hb2 c2 g0 g1 g2 g3 g4 g5
        cases kf with
        | false =>
          go_wp2_with fail
          go_roundw
          case rel =>
            refine ⟨j + 1, by omega, by go_num, fun x hx hxj => ?_, HBK2.out, HB2.out⟩
            rcases Nat.lt_or_ge x j with h | h
            · exact HALL.out x hx h
            · obtain rfl : x = j := by omega
              rw [← HKK.out]
              exact HKF.out.symm
          case measure => simp [intOf]; omega
        | true =>
          have hfr : fr = true := by rw [HFR.out]; exact HONE.out rfl
          subst hfr
          go_wp2_with fail
          go_ret
          exact ⟨rfl, HB2.out⟩
      · have hjm : (len : Int) ≤ (j : Int) := by omega
        have hfr : fr = false := by rw [HFR.out]; exact any_none (fun x hx => hall x hx (by have := HLEN.out; omega))
        subst hfr
        clear hall hbk hbw
        go_wp2_with fail
        go_ret
        exact ⟨rfl, HBW.out⟩
  all_goals
    have hfr : fr = true := by rw [HFE.out, if_neg (by omega), if_neg (by omega), if_pos (by omega)]
    subst hfr
    clear ek hcond
    go_enter Tryd.func44, Tryd.ntmps44
    go_wp2_with fail
    go_ret
    exact ⟨rfl, (Below.refl _ w).alloc (Nat.le_refl _) _⟩
end Go.Proofs.YtaojlnibkajfbaaDoor
