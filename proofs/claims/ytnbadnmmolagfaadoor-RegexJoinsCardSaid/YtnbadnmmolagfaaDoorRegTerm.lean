/- Package regex: term (printed by gen_regterm.py). -/
import Derived.Test.YtnbadnmmolagfaaDoorRegAtom2
namespace Go.Proofs.YtnbadnmmolagfaaDoor
open Go.RowKit
set_option maxRecDepth 100000
set_option linter.unusedVariables false
set_option linter.unusedSimpArgs false

set_option maxHeartbeats 32000000 in
theorem term_any (B b M : Nat) (l : Ln) (u : Bool) (k : Nat) (hP : PatOk B b M l u k) (s : St) (vn vd : Value) (es : Array MapEntry) (clock : Nat) (w : World) (h : Rs B b M l u s vn vd es clock w) (hl : l.length ≤ 4096) (hE : Env w) (hB2 : 2 < B) (hbw : B ≤ w.heap.size) (hk : s.r.length ≤ k) (hs : s.sum ≤ 4096) (hr0 : s.r ≠ []) :
    Calls Tryd.prog 22 #[.pointer (some ⟨b, 0, none⟩)] w (EndS B b M l u w (termS u (patF u k) s)) := by
  have H0 := Lib.hid (show Ht B b M l u w vn vd es clock s w from ⟨h, Below.refl _ _, hbw⟩)
  have HBL : Hid (b < w.heap.size) := Lib.hid (by obtain ⟨_, _, _, q⟩ := h.rd; exact q.lt)
  have HE := Lib.hid (fun w1 (hg : Below B w w1) => hE.low hg hB2)
  have HF := Lib.hid hs
  have HKL := Lib.hid hk
  have HNE := Lib.hid hr0
  clear h hE hs hk hr0
  go_enter Tryd.func22, Tryd.ntmps22
  go_wp2_with fail
  obtain ⟨g1, hg1⟩ : ∃ g, g = w.heap.size := ⟨_, rfl⟩
  rw [← hg1]
  obtain ⟨X1, hX1⟩ : ∃ X, w.alloc (.cells #[.string ⟨#[94]⟩, .string ⟨#[36]⟩, .string ⟨#[92, 98]⟩, .string ⟨#[92, 66]⟩] 9) = X := ⟨_, rfl⟩
  rw [hX1]
  have hx1 : Ht B b M l u w vn vd es clock s X1 ∧ Blk X1 g1 [.string (strOf [94]), .string (strOf [36]), .string (strOf [92, 98]), .string (strOf [92, 66])] 9 ∧ g1 ≠ b := by
    have h1 := HBL.out
    have h3 := H0.out.rs.rd
    rw [← hX1]
    refine ⟨H0.out.next (h3.grown ((Below.refl _ w).alloc (Nat.le_refl _) _)) (grown_of ((Below.refl _ w).alloc (Nat.le_refl _) _) _), Blk.new' _ _ hg1, by omega⟩
  have HX1 := Lib.hid hx1
  clear hX1 hx1 hg1
  go_loopw [8] (fun j wr => ∃ jj : Nat, jj ≤ 4 ∧ j = .int .i64 (jj : Int) ∧ (∀ i, i < jj → hasP (([[94], [36], [92, 98], [92, 66]] : List Ln).getD i []) s.r = false) ∧ Ht B b M l u w vn vd es clock s wr ∧ Blk wr g1 [.string (strOf [94]), .string (strOf [36]), .string (strOf [92, 98]), .string (strOf [92, 66])] 9 ∧ g1 ≠ b) (fun j _ => 4 - (intOf j).toNat)
  case atStart => exact ⟨0, Nat.zero_le _, rfl, fun i hi => absurd hi (Nat.not_lt_zero _), HX1.out.1, HX1.out.2.1, HX1.out.2.2⟩
  case round =>
    obtain ⟨jj, hj, rfl, hno, hht, hbk, hgb⟩ := hrel
    have HNO := Lib.hid hno
    have HA := Lib.hid hht
    have HB := Lib.hid (And.intro hbk hgb)
    have hcs : jj = 0 ∨ jj = 1 ∨ jj = 2 ∨ jj = 3 ∨ jj = 4 := by omega
    clear hno hht hgb hj
    rcases hcs with rfl | rfl | rfl | rfl | rfl
    · have d := hbk.cell 0
      clear hbk
      go_wp2_with fail
      clear d
      rcases Bool.eq_false_or_eq_true (hasP [94] s.r) with p | p
      · have HN1 := HNO
        have PY := Lib.hid p
        refine (is_yes HA.out.rs.rd hl p).mono ?_
        rintro e w5 ⟨rfl, hr, hg⟩
        obtain ⟨q5, hq⟩ : ∃ q, q = s.r.drop 1 := ⟨_, rfl⟩
        replace hr : Rd b l u [.int .i64 (s.g : Int), .map (some M), vn, vd] q5 w5 := by rw [hq]; exact hr
        have H5 := Lib.hid (HA.out.next hr hg)
        have E5 := Lib.hid hq
        have LN : Hid ((s.r.drop 1).length + 1 = s.r.length) := Lib.hid (has_drop p)
        rw [← hq] at LN
        clear hr hg hq p
        go_wp2_with fail
        try simp (config := { zetaDelta := true }) only [Exit.noGoto_ret, Exit.inBlock, Exit.then]
        go_end0
        rw [show termS u (patF u k) s = .ok { s with r := q5 } from by unfold termS; rw [if_pos PY.out, ← E5.out]]
        exact H5.out.ends
      · have PY := Lib.hid p
        refine (is_no HA.out.rs.rd hl p).mono ?_
        rintro e w5 ⟨rfl, hr, hg⟩
        have H5 := Lib.hid (HA.out.next hr hg)
        have HB5 := Lib.hid (HB.out.1.grown hg (by simpa using HB.out.2))
        clear hr hg p
        go_wp2_with fail
        go_roundw
        case rel =>
          refine ⟨1, by omega, by go_num, fun i hi => ?_, H5.out, HB5.out, HB.out.2⟩
          by_cases hi2 : i < 0
          · exact HNO.out i hi2
          · obtain rfl : i = 0 := by omega
            exact PY.out
        case measure => simp [intOf]
    · have d := hbk.cell 1
      clear hbk
      go_wp2_with fail
      clear d
      rcases Bool.eq_false_or_eq_true (hasP [36] s.r) with p | p
      · have HN1 := HNO
        have PY := Lib.hid p
        refine (is_yes HA.out.rs.rd hl p).mono ?_
        rintro e w5 ⟨rfl, hr, hg⟩
        obtain ⟨q5, hq⟩ : ∃ q, q = s.r.drop 1 := ⟨_, rfl⟩
        replace hr : Rd b l u [.int .i64 (s.g : Int), .map (some M), vn, vd] q5 w5 := by rw [hq]; exact hr
        have H5 := Lib.hid (HA.out.next hr hg)
        have E5 := Lib.hid hq
        have LN : Hid ((s.r.drop 1).length + 1 = s.r.length) := Lib.hid (has_drop p)
        rw [← hq] at LN
        clear hr hg hq p
        go_wp2_with fail
        try simp (config := { zetaDelta := true }) only [Exit.noGoto_ret, Exit.inBlock, Exit.then]
        go_end0
        have z0 : hasP [94] s.r = false := HNO.out 0 (by decide)
        rw [show termS u (patF u k) s = .ok { s with r := q5 } from by unfold termS; rw [if_neg (by rw [z0]; exact Bool.false_ne_true), if_pos PY.out, ← E5.out]]
        exact H5.out.ends
      · have PY := Lib.hid p
        refine (is_no HA.out.rs.rd hl p).mono ?_
        rintro e w5 ⟨rfl, hr, hg⟩
        have H5 := Lib.hid (HA.out.next hr hg)
        have HB5 := Lib.hid (HB.out.1.grown hg (by simpa using HB.out.2))
        clear hr hg p
        go_wp2_with fail
        go_roundw
        case rel =>
          refine ⟨2, by omega, by go_num, fun i hi => ?_, H5.out, HB5.out, HB.out.2⟩
          by_cases hi2 : i < 1
          · exact HNO.out i hi2
          · obtain rfl : i = 1 := by omega
            exact PY.out
        case measure => simp [intOf]
    · have d := hbk.cell 2
      clear hbk
      go_wp2_with fail
      clear d
      rcases Bool.eq_false_or_eq_true (hasP [92, 98] s.r) with p | p
      · have HN1 := HNO
        have PY := Lib.hid p
        refine (is_yes HA.out.rs.rd hl p).mono ?_
        rintro e w5 ⟨rfl, hr, hg⟩
        obtain ⟨q5, hq⟩ : ∃ q, q = s.r.drop 2 := ⟨_, rfl⟩
        replace hr : Rd b l u [.int .i64 (s.g : Int), .map (some M), vn, vd] q5 w5 := by rw [hq]; exact hr
        have H5 := Lib.hid (HA.out.next hr hg)
        have E5 := Lib.hid hq
        have LN : Hid ((s.r.drop 2).length + 2 = s.r.length) := Lib.hid (has_drop p)
        rw [← hq] at LN
        clear hr hg hq p
        go_wp2_with fail
        try simp (config := { zetaDelta := true }) only [Exit.noGoto_ret, Exit.inBlock, Exit.then]
        go_end0
        have z0 : hasP [94] s.r = false := HNO.out 0 (by decide)
        have z1 : hasP [36] s.r = false := HNO.out 1 (by decide)
        rw [show termS u (patF u k) s = .ok { s with r := q5 } from by unfold termS; rw [if_neg (by rw [z0]; exact Bool.false_ne_true), if_neg (by rw [z1]; exact Bool.false_ne_true), if_pos PY.out, ← E5.out]]
        exact H5.out.ends
      · have PY := Lib.hid p
        refine (is_no HA.out.rs.rd hl p).mono ?_
        rintro e w5 ⟨rfl, hr, hg⟩
        have H5 := Lib.hid (HA.out.next hr hg)
        have HB5 := Lib.hid (HB.out.1.grown hg (by simpa using HB.out.2))
        clear hr hg p
        go_wp2_with fail
        go_roundw
        case rel =>
          refine ⟨3, by omega, by go_num, fun i hi => ?_, H5.out, HB5.out, HB.out.2⟩
          by_cases hi2 : i < 2
          · exact HNO.out i hi2
          · obtain rfl : i = 2 := by omega
            exact PY.out
        case measure => simp [intOf]
    · have d := hbk.cell 3
      clear hbk
      go_wp2_with fail
      clear d
      rcases Bool.eq_false_or_eq_true (hasP [92, 66] s.r) with p | p
      · have HN1 := HNO
        have PY := Lib.hid p
        refine (is_yes HA.out.rs.rd hl p).mono ?_
        rintro e w5 ⟨rfl, hr, hg⟩
        obtain ⟨q5, hq⟩ : ∃ q, q = s.r.drop 2 := ⟨_, rfl⟩
        replace hr : Rd b l u [.int .i64 (s.g : Int), .map (some M), vn, vd] q5 w5 := by rw [hq]; exact hr
        have H5 := Lib.hid (HA.out.next hr hg)
        have E5 := Lib.hid hq
        have LN : Hid ((s.r.drop 2).length + 2 = s.r.length) := Lib.hid (has_drop p)
        rw [← hq] at LN
        clear hr hg hq p
        go_wp2_with fail
        try simp (config := { zetaDelta := true }) only [Exit.noGoto_ret, Exit.inBlock, Exit.then]
        go_end0
        have z0 : hasP [94] s.r = false := HNO.out 0 (by decide)
        have z1 : hasP [36] s.r = false := HNO.out 1 (by decide)
        have z2 : hasP [92, 98] s.r = false := HNO.out 2 (by decide)
        rw [show termS u (patF u k) s = .ok { s with r := q5 } from by unfold termS; rw [if_neg (by rw [z0]; exact Bool.false_ne_true), if_neg (by rw [z1]; exact Bool.false_ne_true), if_neg (by rw [z2]; exact Bool.false_ne_true), if_pos PY.out, ← E5.out]]
        exact H5.out.ends
      · have PY := Lib.hid p
        refine (is_no HA.out.rs.rd hl p).mono ?_
        rintro e w5 ⟨rfl, hr, hg⟩
        have H5 := Lib.hid (HA.out.next hr hg)
        have HB5 := Lib.hid (HB.out.1.grown hg (by simpa using HB.out.2))
        clear hr hg p
        go_wp2_with fail
        go_roundw
        case rel =>
          refine ⟨4, by omega, by go_num, fun i hi => ?_, H5.out, HB5.out, HB.out.2⟩
          by_cases hi2 : i < 3
          · exact HNO.out i hi2
          · obtain rfl : i = 3 := by omega
            exact PY.out
        case measure => simp [intOf]
    · clear hbk
      have N10 := HNO.out 0 (by decide)
      have N11 := HNO.out 1 (by decide)
      have N12 := HNO.out 2 (by decide)
      have N13 := HNO.out 3 (by decide)
      simp only [List.getD_cons_zero, List.getD_cons_succ] at N10 N11 N12 N13
      have HN1 := Lib.hid (And.intro N10 (And.intro N11 (And.intro N12 N13)))
      clear N10 N11 N12 N13
      rw [show ((4 : Nat) : Int) = 4 from rfl]
      go_wp2_with fail
      obtain ⟨g2, hg2⟩ : ∃ g, g = wr.heap.size := ⟨_, rfl⟩
      rw [← hg2]
      obtain ⟨X2, hX2⟩ : ∃ X, wr.alloc (.cells #[.string ⟨#[40, 63, 61]⟩, .string ⟨#[40, 63, 33]⟩, .string ⟨#[40, 63, 60, 61]⟩, .string ⟨#[40, 63, 60, 33]⟩] 9) = X := ⟨_, rfl⟩
      rw [hX2]
      have hx2 : Ht B b M l u w vn vd es clock s X2 ∧ Blk X2 g2 [.string (strOf [40, 63, 61]), .string (strOf [40, 63, 33]), .string (strOf [40, 63, 60, 61]), .string (strOf [40, 63, 60, 33])] 9 ∧ g2 ≠ b := by
        have h1 := HBL.out
        have h2 := HA.out.be.size
        have h3 := HA.out.rs.rd
        rw [← hX2]
        refine ⟨HA.out.next (h3.grown ((Below.refl _ wr).alloc (Nat.le_refl _) _)) (grown_of ((Below.refl _ wr).alloc (Nat.le_refl _) _) _), Blk.new' _ _ hg2, by omega⟩
      have HX2 := Lib.hid hx2
      clear hX2 hx2 hg2
      go_loopw [18] (fun j wr => ∃ jj : Nat, jj ≤ 4 ∧ j = .int .i64 (jj : Int) ∧ (∀ i, i < jj → hasP (([[40, 63, 61], [40, 63, 33], [40, 63, 60, 61], [40, 63, 60, 33]] : List Ln).getD i []) s.r = false) ∧ Ht B b M l u w vn vd es clock s wr ∧ Blk wr g2 [.string (strOf [40, 63, 61]), .string (strOf [40, 63, 33]), .string (strOf [40, 63, 60, 61]), .string (strOf [40, 63, 60, 33])] 9 ∧ g2 ≠ b) (fun j _ => 4 - (intOf j).toNat)
      case atStart => exact ⟨0, Nat.zero_le _, rfl, fun i hi => absurd hi (Nat.not_lt_zero _), HX2.out.1, HX2.out.2.1, HX2.out.2.2⟩
      case round =>
        obtain ⟨jj, hj, rfl, hno, hht, hbk, hgb⟩ := hrel
        have HNO := Lib.hid hno
        have HA := Lib.hid hht
        have HB := Lib.hid (And.intro hbk hgb)
        have hcs : jj = 0 ∨ jj = 1 ∨ jj = 2 ∨ jj = 3 ∨ jj = 4 := by omega
        clear hno hht hgb hj
        rcases hcs with rfl | rfl | rfl | rfl | rfl
        · have d := hbk.cell 0
          clear hbk
          go_wp2_with fail
          clear d
          rcases Bool.eq_false_or_eq_true (hasP [40, 63, 61] s.r) with p | p
          · have HN2 := HNO
            have PY := Lib.hid p
            refine (is_yes HA.out.rs.rd hl p).mono ?_
            rintro e w5 ⟨rfl, hr, hg⟩
            obtain ⟨q5, hq⟩ : ∃ q, q = s.r.drop 3 := ⟨_, rfl⟩
            replace hr : Rd b l u [.int .i64 (s.g : Int), .map (some M), vn, vd] q5 w5 := by rw [hq]; exact hr
            have H5 := Lib.hid (HA.out.next hr hg)
            have E5 := Lib.hid hq
            have LN : Hid ((s.r.drop 3).length + 3 = s.r.length) := Lib.hid (has_drop p)
            rw [← hq] at LN
            clear hr hg hq p
            go_wp2_with fail
            have HRES : Hid (termS u (patF u k) s = groupS (patF u k) { s with r := q5 }) := Lib.hid (by

              unfold termS; rw [if_neg (by rw [HN1.out.1]; exact Bool.false_ne_true), if_neg (by rw [HN1.out.2.1]; exact Bool.false_ne_true), if_neg (by rw [HN1.out.2.2.1]; exact Bool.false_ne_true), if_neg (by rw [HN1.out.2.2.2]; exact Bool.false_ne_true), if_pos PY.out, ← E5.out])
            have HG := Lib.hid (group_any B b M l u k hP { s with r := q5 } _ _ _ _ _ H5.out.rs hl (HE.out _ H5.out.be) H5.out.big (by have h1 := HF.out; have h2 := HKL.out; have h3 := LN.out; unfold St.sum at *; dsimp only; omega) (by have h1 := HF.out; have h2 := HKL.out; have h3 := LN.out; unfold St.sum at *; dsimp only; omega))
            rcases hp : groupS (patF u k) { s with r := q5 } with f | s1
            · have PX := Lib.hid hp
              rw [hp] at HG
              clear hp
              refine HG.out.mono ?_
              rintro e w9 ⟨hb, rfl⟩
              try simp (config := { zetaDelta := true }) only [Exit.noGoto_ret, Exit.inBlock, Exit.then]
              refine ⟨rfl, ?_⟩
              rw [HRES.out, PX.out]
              exact ⟨H5.out.be.trans hb, rfl⟩
            · have PX := Lib.hid hp
              rw [hp] at HG
              clear hp
              refine HG.out.mono ?_
              rintro e w9 ⟨hb, rfl, vn1, vd1, es1, clock1, hr⟩
              have HX := Lib.hid (H5.out.heavy hb hr)
              clear hb hr
              go_wp2_with fail
              try simp (config := { zetaDelta := true }) only [Exit.noGoto_ret, Exit.inBlock, Exit.then]
              go_end0
              rw [HRES.out, PX.out]
              exact HX.out.ends
          · have PY := Lib.hid p
            refine (is_no HA.out.rs.rd hl p).mono ?_
            rintro e w5 ⟨rfl, hr, hg⟩
            have H5 := Lib.hid (HA.out.next hr hg)
            have HB5 := Lib.hid (HB.out.1.grown hg (by simpa using HB.out.2))
            clear hr hg p
            go_wp2_with fail
            go_roundw
            case rel =>
              refine ⟨1, by omega, by go_num, fun i hi => ?_, H5.out, HB5.out, HB.out.2⟩
              by_cases hi2 : i < 0
              · exact HNO.out i hi2
              · obtain rfl : i = 0 := by omega
                exact PY.out
            case measure => simp [intOf]
        · have d := hbk.cell 1
          clear hbk
          go_wp2_with fail
          clear d
          rcases Bool.eq_false_or_eq_true (hasP [40, 63, 33] s.r) with p | p
          · have HN2 := HNO
            have PY := Lib.hid p
            refine (is_yes HA.out.rs.rd hl p).mono ?_
            rintro e w5 ⟨rfl, hr, hg⟩
            obtain ⟨q5, hq⟩ : ∃ q, q = s.r.drop 3 := ⟨_, rfl⟩
            replace hr : Rd b l u [.int .i64 (s.g : Int), .map (some M), vn, vd] q5 w5 := by rw [hq]; exact hr
            have H5 := Lib.hid (HA.out.next hr hg)
            have E5 := Lib.hid hq
            have LN : Hid ((s.r.drop 3).length + 3 = s.r.length) := Lib.hid (has_drop p)
            rw [← hq] at LN
            clear hr hg hq p
            go_wp2_with fail
            have HRES : Hid (termS u (patF u k) s = groupS (patF u k) { s with r := q5 }) := Lib.hid (by
              have z0 : hasP [40, 63, 61] s.r = false := HNO.out 0 (by decide)
              unfold termS; rw [if_neg (by rw [HN1.out.1]; exact Bool.false_ne_true), if_neg (by rw [HN1.out.2.1]; exact Bool.false_ne_true), if_neg (by rw [HN1.out.2.2.1]; exact Bool.false_ne_true), if_neg (by rw [HN1.out.2.2.2]; exact Bool.false_ne_true), if_neg (by rw [z0]; exact Bool.false_ne_true), if_pos PY.out, ← E5.out])
            have HG := Lib.hid (group_any B b M l u k hP { s with r := q5 } _ _ _ _ _ H5.out.rs hl (HE.out _ H5.out.be) H5.out.big (by have h1 := HF.out; have h2 := HKL.out; have h3 := LN.out; unfold St.sum at *; dsimp only; omega) (by have h1 := HF.out; have h2 := HKL.out; have h3 := LN.out; unfold St.sum at *; dsimp only; omega))
            rcases hp : groupS (patF u k) { s with r := q5 } with f | s1
            · have PX := Lib.hid hp
              rw [hp] at HG
              clear hp
              refine HG.out.mono ?_
              rintro e w9 ⟨hb, rfl⟩
              try simp (config := { zetaDelta := true }) only [Exit.noGoto_ret, Exit.inBlock, Exit.then]
              refine ⟨rfl, ?_⟩
              rw [HRES.out, PX.out]
              exact ⟨H5.out.be.trans hb, rfl⟩
            · have PX := Lib.hid hp
              rw [hp] at HG
              clear hp
              refine HG.out.mono ?_
              rintro e w9 ⟨hb, rfl, vn1, vd1, es1, clock1, hr⟩
              have HX := Lib.hid (H5.out.heavy hb hr)
              clear hb hr
              go_wp2_with fail
              try simp (config := { zetaDelta := true }) only [Exit.noGoto_ret, Exit.inBlock, Exit.then]
              go_end0
              rw [HRES.out, PX.out]
              exact HX.out.ends
          · have PY := Lib.hid p
            refine (is_no HA.out.rs.rd hl p).mono ?_
            rintro e w5 ⟨rfl, hr, hg⟩
            have H5 := Lib.hid (HA.out.next hr hg)
            have HB5 := Lib.hid (HB.out.1.grown hg (by simpa using HB.out.2))
            clear hr hg p
            go_wp2_with fail
            go_roundw
            case rel =>
              refine ⟨2, by omega, by go_num, fun i hi => ?_, H5.out, HB5.out, HB.out.2⟩
              by_cases hi2 : i < 1
              · exact HNO.out i hi2
              · obtain rfl : i = 1 := by omega
                exact PY.out
            case measure => simp [intOf]
        · have d := hbk.cell 2
          clear hbk
          go_wp2_with fail
          clear d
          rcases Bool.eq_false_or_eq_true (hasP [40, 63, 60, 61] s.r) with p | p
          · have HN2 := HNO
            have PY := Lib.hid p
            refine (is_yes HA.out.rs.rd hl p).mono ?_
            rintro e w5 ⟨rfl, hr, hg⟩
            obtain ⟨q5, hq⟩ : ∃ q, q = s.r.drop 4 := ⟨_, rfl⟩
            replace hr : Rd b l u [.int .i64 (s.g : Int), .map (some M), vn, vd] q5 w5 := by rw [hq]; exact hr
            have H5 := Lib.hid (HA.out.next hr hg)
            have E5 := Lib.hid hq
            have LN : Hid ((s.r.drop 4).length + 4 = s.r.length) := Lib.hid (has_drop p)
            rw [← hq] at LN
            clear hr hg hq p
            go_wp2_with fail
            have HRES : Hid (termS u (patF u k) s = groupS (patF u k) { s with r := q5 }) := Lib.hid (by
              have z0 : hasP [40, 63, 61] s.r = false := HNO.out 0 (by decide)
              have z1 : hasP [40, 63, 33] s.r = false := HNO.out 1 (by decide)
              unfold termS; rw [if_neg (by rw [HN1.out.1]; exact Bool.false_ne_true), if_neg (by rw [HN1.out.2.1]; exact Bool.false_ne_true), if_neg (by rw [HN1.out.2.2.1]; exact Bool.false_ne_true), if_neg (by rw [HN1.out.2.2.2]; exact Bool.false_ne_true), if_neg (by rw [z0]; exact Bool.false_ne_true), if_neg (by rw [z1]; exact Bool.false_ne_true), if_pos PY.out, ← E5.out])
            have HG := Lib.hid (group_any B b M l u k hP { s with r := q5 } _ _ _ _ _ H5.out.rs hl (HE.out _ H5.out.be) H5.out.big (by have h1 := HF.out; have h2 := HKL.out; have h3 := LN.out; unfold St.sum at *; dsimp only; omega) (by have h1 := HF.out; have h2 := HKL.out; have h3 := LN.out; unfold St.sum at *; dsimp only; omega))
            rcases hp : groupS (patF u k) { s with r := q5 } with f | s1
            · have PX := Lib.hid hp
              rw [hp] at HG
              clear hp
              refine HG.out.mono ?_
              rintro e w9 ⟨hb, rfl⟩
              try simp (config := { zetaDelta := true }) only [Exit.noGoto_ret, Exit.inBlock, Exit.then]
              refine ⟨rfl, ?_⟩
              rw [HRES.out, PX.out]
              exact ⟨H5.out.be.trans hb, rfl⟩
            · have PX := Lib.hid hp
              rw [hp] at HG
              clear hp
              refine HG.out.mono ?_
              rintro e w9 ⟨hb, rfl, vn1, vd1, es1, clock1, hr⟩
              have HX := Lib.hid (H5.out.heavy hb hr)
              clear hb hr
              go_wp2_with fail
              try simp (config := { zetaDelta := true }) only [Exit.noGoto_ret, Exit.inBlock, Exit.then]
              go_end0
              rw [HRES.out, PX.out]
              exact HX.out.ends
          · have PY := Lib.hid p
            refine (is_no HA.out.rs.rd hl p).mono ?_
            rintro e w5 ⟨rfl, hr, hg⟩
            have H5 := Lib.hid (HA.out.next hr hg)
            have HB5 := Lib.hid (HB.out.1.grown hg (by simpa using HB.out.2))
            clear hr hg p
            go_wp2_with fail
            go_roundw
            case rel =>
              refine ⟨3, by omega, by go_num, fun i hi => ?_, H5.out, HB5.out, HB.out.2⟩
              by_cases hi2 : i < 2
              · exact HNO.out i hi2
              · obtain rfl : i = 2 := by omega
                exact PY.out
            case measure => simp [intOf]
        · have d := hbk.cell 3
          clear hbk
          go_wp2_with fail
          clear d
          rcases Bool.eq_false_or_eq_true (hasP [40, 63, 60, 33] s.r) with p | p
          · have HN2 := HNO
            have PY := Lib.hid p
            refine (is_yes HA.out.rs.rd hl p).mono ?_
            rintro e w5 ⟨rfl, hr, hg⟩
            obtain ⟨q5, hq⟩ : ∃ q, q = s.r.drop 4 := ⟨_, rfl⟩
            replace hr : Rd b l u [.int .i64 (s.g : Int), .map (some M), vn, vd] q5 w5 := by rw [hq]; exact hr
            have H5 := Lib.hid (HA.out.next hr hg)
            have E5 := Lib.hid hq
            have LN : Hid ((s.r.drop 4).length + 4 = s.r.length) := Lib.hid (has_drop p)
            rw [← hq] at LN
            clear hr hg hq p
            go_wp2_with fail
            have HRES : Hid (termS u (patF u k) s = groupS (patF u k) { s with r := q5 }) := Lib.hid (by
              have z0 : hasP [40, 63, 61] s.r = false := HNO.out 0 (by decide)
              have z1 : hasP [40, 63, 33] s.r = false := HNO.out 1 (by decide)
              have z2 : hasP [40, 63, 60, 61] s.r = false := HNO.out 2 (by decide)
              unfold termS; rw [if_neg (by rw [HN1.out.1]; exact Bool.false_ne_true), if_neg (by rw [HN1.out.2.1]; exact Bool.false_ne_true), if_neg (by rw [HN1.out.2.2.1]; exact Bool.false_ne_true), if_neg (by rw [HN1.out.2.2.2]; exact Bool.false_ne_true), if_neg (by rw [z0]; exact Bool.false_ne_true), if_neg (by rw [z1]; exact Bool.false_ne_true), if_neg (by rw [z2]; exact Bool.false_ne_true), if_pos PY.out, ← E5.out])
            have HG := Lib.hid (group_any B b M l u k hP { s with r := q5 } _ _ _ _ _ H5.out.rs hl (HE.out _ H5.out.be) H5.out.big (by have h1 := HF.out; have h2 := HKL.out; have h3 := LN.out; unfold St.sum at *; dsimp only; omega) (by have h1 := HF.out; have h2 := HKL.out; have h3 := LN.out; unfold St.sum at *; dsimp only; omega))
            rcases hp : groupS (patF u k) { s with r := q5 } with f | s1
            · have PX := Lib.hid hp
              rw [hp] at HG
              clear hp
              refine HG.out.mono ?_
              rintro e w9 ⟨hb, rfl⟩
              try simp (config := { zetaDelta := true }) only [Exit.noGoto_ret, Exit.inBlock, Exit.then]
              refine ⟨rfl, ?_⟩
              rw [HRES.out, PX.out]
              exact ⟨H5.out.be.trans hb, rfl⟩
            · have PX := Lib.hid hp
              rw [hp] at HG
              clear hp
              refine HG.out.mono ?_
              rintro e w9 ⟨hb, rfl, vn1, vd1, es1, clock1, hr⟩
              have HX := Lib.hid (H5.out.heavy hb hr)
              clear hb hr
              go_wp2_with fail
              try simp (config := { zetaDelta := true }) only [Exit.noGoto_ret, Exit.inBlock, Exit.then]
              go_end0
              rw [HRES.out, PX.out]
              exact HX.out.ends
          · have PY := Lib.hid p
            refine (is_no HA.out.rs.rd hl p).mono ?_
            rintro e w5 ⟨rfl, hr, hg⟩
            have H5 := Lib.hid (HA.out.next hr hg)
            have HB5 := Lib.hid (HB.out.1.grown hg (by simpa using HB.out.2))
            clear hr hg p
            go_wp2_with fail
            go_roundw
            case rel =>
              refine ⟨4, by omega, by go_num, fun i hi => ?_, H5.out, HB5.out, HB.out.2⟩
              by_cases hi2 : i < 3
              · exact HNO.out i hi2
              · obtain rfl : i = 3 := by omega
                exact PY.out
            case measure => simp [intOf]
        · clear hbk
          have N20 := HNO.out 0 (by decide)
          have N21 := HNO.out 1 (by decide)
          have N22 := HNO.out 2 (by decide)
          have N23 := HNO.out 3 (by decide)
          simp only [List.getD_cons_zero, List.getD_cons_succ] at N20 N21 N22 N23
          have HN2 := Lib.hid (And.intro N20 (And.intro N21 (And.intro N22 N23)))
          clear N20 N21 N22 N23
          rw [show ((4 : Nat) : Int) = 4 from rfl]
          go_wp2_with fail
          have HRES : Hid (termS u (patF u k) s = (do
              let s1 ← atomS u (patF u k) s
              let r ← quantL s1.r
              .ok { s1 with r := r })) := Lib.hid (by unfold termS; rw [if_neg (by rw [HN1.out.1]; exact Bool.false_ne_true), if_neg (by rw [HN1.out.2.1]; exact Bool.false_ne_true), if_neg (by rw [HN1.out.2.2.1]; exact Bool.false_ne_true), if_neg (by rw [HN1.out.2.2.2]; exact Bool.false_ne_true), if_neg (by rw [HN2.out.1]; exact Bool.false_ne_true), if_neg (by rw [HN2.out.2.1]; exact Bool.false_ne_true), if_neg (by rw [HN2.out.2.2.1]; exact Bool.false_ne_true), if_neg (by rw [HN2.out.2.2.2]; exact Bool.false_ne_true)])
          have HG := Lib.hid (atom_any B b M l u k hP s _ _ _ _ _ HA.out.rs hl (HE.out _ HA.out.be) hB2 HA.out.big HKL.out HF.out HNE.out)
          rcases hp : atomS u (patF u k) s with f | s1
          · have PX := Lib.hid hp
            rw [hp] at HG
            clear hp
            refine HG.out.mono ?_
            rintro e w9 ⟨hb, rfl⟩
            try simp (config := { zetaDelta := true }) only [Exit.noGoto_ret, Exit.inBlock, Exit.then]
            refine ⟨rfl, ?_⟩
            rw [show termS u (patF u k) s = .error f from by rw [HRES.out, PX.out]; rfl]
            exact ⟨HA.out.be.trans hb, rfl⟩
          · have PX := Lib.hid hp
            rw [hp] at HG
            clear hp
            refine HG.out.mono ?_
            rintro e w9 ⟨hb, rfl, vn1, vd1, es1, clock1, hr⟩
            have HX := Lib.hid (HA.out.heavy hb hr)
            clear hb hr HG
            go_wp2_with fail
            have HY := Lib.hid (quantifier_any b l u _ s1.r w9 HX.out.rs.rd hl)
            rcases hq : quantL s1.r with f | r2
            · have PQ := Lib.hid hq
              rw [hq] at HY
              clear hq
              refine HY.out.mono ?_
              rintro e wA ⟨hg, rfl⟩
              try simp (config := { zetaDelta := true }) only [Exit.noGoto_ret, Exit.inBlock, Exit.then]
              refine ⟨rfl, ?_⟩
              rw [show termS u (patF u k) s = .error f from by rw [HRES.out, PX.out]; simp only [bind, Except.bind]; rw [PQ.out]]
              exact HX.out.bad f hg
            · have PQ := Lib.hid hq
              rw [hq] at HY
              clear hq
              refine HY.out.mono ?_
              rintro e wA ⟨hg, rfl, hr⟩
              have HZ := Lib.hid (HX.out.next hr hg)
              clear hr hg HY
              go_wp2_with fail
              try simp (config := { zetaDelta := true }) only [Exit.noGoto_ret, Exit.inBlock, Exit.then]
              go_end0
              rw [show termS u (patF u k) s = .ok { s1 with r := r2 } from by rw [HRES.out, PX.out]; simp only [bind, Except.bind]; rw [PQ.out]]
              exact HZ.out.ends
end Go.Proofs.YtnbadnmmolagfaaDoor
