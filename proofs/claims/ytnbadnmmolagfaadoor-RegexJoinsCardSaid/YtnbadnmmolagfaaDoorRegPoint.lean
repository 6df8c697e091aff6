/- Package regex: point. -/
import Derived.Test.YtnbadnmmolagfaaDoorRegEsc
namespace Go.Proofs.YtnbadnmmolagfaaDoor
open Go.RowKit
set_option maxRecDepth 100000
set_option linter.unusedVariables false
set_option linter.unusedSimpArgs false

theorem At.alloc {b : Nat} {l : Ln} {u : Bool} {xs : List Value} {w w1 : World} {r : Ln} (h : At b l u xs w r w1) (o : Obj) : At b l u xs w r (w1.alloc o) := by
  obtain ⟨⟨k, h1, h2, h3⟩, hg⟩ := h
  exact ⟨⟨k, h1, h2, h3.alloc o⟩, grown_trans hg (grown_of ((Below.refl _ w1).alloc (Nat.le_refl _) o) _)⟩
theorem At.set {b : Nat} {l : Ln} {u : Bool} {xs : List Value} {w w1 : World} {r : Ln} (h : At b l u xs w r w1) {g : Nat} (hg : w.heap.size ≤ g) (hne : g ≠ b) (j : Nat) (v : Value) : At b l u xs w r (w1.setCell ⟨g, j, none⟩ v) := by
  obtain ⟨⟨k, h1, h2, h3⟩, h4⟩ := h
  exact ⟨⟨k, h1, h2, h3.set_other (by simpa using hne.symm) v⟩, ⟨h4.os, h4.tape, h4.output, by simpa [World.setCell] using h4.size, fun i hi hn => (Below.heap_setCell w1 ⟨g, j, none⟩ v i (by simp; omega)).trans (h4.block i hi hn)⟩⟩
theorem At.lt {b : Nat} {l : Ln} {u : Bool} {xs : List Value} {w w1 : World} {r : Ln} (h : At b l u xs w r w1) : b < w1.heap.size := by
  obtain ⟨⟨k, h1, h2, h3⟩, h4⟩ := h
  exact h3.lt

def ptV (n : Nat) (p : Pt) : Value := .agg #[.int .i64 ((n : Int) - (p.rem : Int)), .int .i64 (p.val : Int), .bool p.single]
/-- A reader, with two variables of a point beside it: the result's, the point's. -/
structure PtAt (b : Nat) (l : Ln) (u : Bool) (xs : List Value) (w : World) (r : Ln) (w' : World) (g : Nat) (cs0 cs1 : List Value) : Prop where
  at_ : At b l u xs w r w'
  b0 : Blk w' g cs0 64
  b1 : Blk w' (g + 1) cs1 64
  ge : w.heap.size ≤ g
  ne : b < g
theorem PtAt.next {b : Nat} {l : Ln} {u : Bool} {xs : List Value} {w w1 w2 : World} {r r1 : Ln} {g : Nat} {cs0 cs1 : List Value} (h : PtAt b l u xs w r w1 g cs0 cs1) (h1 : Rd b l u xs r1 w2) (h2 : w1.grownBy w2 (some b)) : PtAt b l u xs w r1 w2 g cs0 cs1 := by
  have hn := h.ne
  exact ⟨h.at_.next h1 h2, h.b0.grown h2 (by simp; omega), h.b1.grown h2 (by simp; omega), h.ge, h.ne⟩
theorem PtAt.gr {b : Nat} {l : Ln} {u : Bool} {xs : List Value} {w w1 : World} {r : Ln} {g : Nat} {cs0 cs1 : List Value} (h : PtAt b l u xs w r w1 g cs0 cs1) : w.grownBy w1 (some b) := h.at_.gr
theorem PtAt.fin {b : Nat} {l : Ln} {u : Bool} {xs : List Value} {w w1 : World} {r : Ln} {g : Nat} {cs0 cs1 : List Value} (h : PtAt b l u xs w r w1 g cs0 cs1) (j : Nat) (v x y z : Value) : At b l u xs w r ((((w1.setCell ⟨g + 1, j, none⟩ v).setCell ⟨g, 0, none⟩ x).setCell ⟨g, 1, none⟩ y).setCell ⟨g, 2, none⟩ z) := by
  have hn := h.ne
  have hg := h.ge
  exact (((h.at_.set (by omega) (by omega) j v).set hg (by omega) 0 x).set hg (by omega) 1 y).set hg (by omega) 2 z
set_option maxHeartbeats 8000000 in
theorem point_any (b : Nat) (l : Ln) (u : Bool) (xs : List Value) (r : Ln) (w : World) (h : Rd b l u xs r w) (hl : l.length ≤ 4096) (hE : Env w) (hb2 : 2 < b) :
    Calls Tryd.prog 43 #[.pointer (some ⟨b, 0, none⟩)] w (Ends b l u xs w ((pointL u r).map fun p => (ptV l.length p.1, p.2))) := by
  have H0 := Lib.hid (show At b l u xs w r w from ⟨h, grown_refl _ _⟩)
  have HE := Lib.hid (fun w1 (hg : w.grownBy w1 (some b)) => hE.grown hg hb2)
  obtain ⟨k, hk, hd, hb⟩ := h
  have c1 := hb.cell 1
  have HK := Lib.hid hk
  have HBL := Lib.hid hb.lt
  have hbl := hb.lt
  clear hk hd hb hE
  go_enter Tryd.func43, Tryd.ntmps43
  go_wp2_with fail
  clear c1 hbl
  obtain ⟨g, hg⟩ : ∃ g, g = w.heap.size := ⟨_, rfl⟩
  rw [← hg]
  obtain ⟨W, hW⟩ : ∃ W, (w.alloc (.cells #[.int .i64 0, .int .i64 0, .bool false] 64)).alloc (.cells #[.int .i64 (k : Int), .int .i64 0, .bool true] 64) = W := ⟨_, rfl⟩
  rw [hW]
  have hp : PtAt b l u xs w r W g [.int .i64 0, .int .i64 0, .bool false] [.int .i64 (k : Int), .int .i64 0, .bool true] := by
    rw [← hW]
    refine ⟨(H0.out.alloc _).alloc _, (Blk.new' _ _ hg).alloc _, Blk.new' _ _ (by simp [hg]), by omega, by rw [hg]; exact HBL.out⟩
  have HP := Lib.hid hp
  clear hW hp hg
  rcases Bool.eq_false_or_eq_true (hasP [92] r) with p1 | p1
  · have P1 := Lib.hid p1
    refine (is_yes HP.out.at_.rd hl p1).mono ?_
    rintro e w1 ⟨rfl, hr, hg1⟩
    obtain ⟨q1, hq⟩ : ∃ q, q = r.drop 1 := ⟨_, rfl⟩
    replace hr : Rd b l u xs q1 w1 := by rw [hq]; exact hr
    have HP1 := Lib.hid (HP.out.next hr hg1)
    have E1 := Lib.hid hq
    clear hr hg1 hq p1
    go_wp2_with fail
    rcases Bool.eq_false_or_eq_true (hasP [98] q1) with p2 | p2
    · have P2 := Lib.hid p2
      refine (is_yes HP1.out.at_.rd hl p2).mono ?_
      rintro e w2 ⟨rfl, hr, hg1⟩
      obtain ⟨q2, hq⟩ : ∃ q, q = q1.drop 1 := ⟨_, rfl⟩
      replace hr : Rd b l u xs q2 w2 := by rw [hq]; exact hr
      have HP2 := Lib.hid (HP1.out.next hr hg1)
      have E2 := Lib.hid hq
      clear hr hg1 hq p2
      have d0 := HP2.out.b1.cell 0
      have d1 := HP2.out.b1.cell 1
      have d2 := HP2.out.b1.cell 2
      have e0 := HP2.out.b0.cell 0
      have e1 := HP2.out.b0.cell 1
      have e2 := HP2.out.b0.cell 2
      have z1 := HP2.out.b1.frozen 1
      have y0 := HP2.out.b0.frozen 0
      have y1 := HP2.out.b0.frozen 1
      have y2 := HP2.out.b0.frozen 2
      go_wp2_with fail
      try simp (config := { zetaDelta := true }) only [Exit.noGoto_ret, Exit.inBlock, Exit.then]
      refine bodyPost_ret (v := .agg #[.int .i64 (k : Int), .int .i64 (8 : Int), .bool true]) (by simp [results, Tryd.results43, go_sem, e0, e1, e2]) rfl ?_
      have HF := HP2.out.fin 1 (.int .i64 8) (.int .i64 (k : Int)) (.int .i64 (8 : Int)) (.bool true)
      rw [show pointL u r = .ok (⟨r.length, 8, true⟩, q2) from by obtain rfl := E1.out; obtain rfl := E2.out; simp [-List.drop_one, -List.drop_drop, -List.length_drop, bind, Except.bind, pointL, P1.out, P2.out]; try simp]
      have hk := HK.out
      have e : (k : Int) = (l.length : Int) - (r.length : Int) := by omega
      exact ⟨HF.gr, by simp [ptV, e], HF.rd⟩
    · have P2 := Lib.hid p2
      refine (is_no HP1.out.at_.rd hl p2).mono ?_
      rintro e w2 ⟨rfl, hr, hg1⟩
      have HP2 := Lib.hid (HP1.out.next hr hg1)
      clear hr hg1 p2
      obtain ⟨k2, hk2, hd2, hb3⟩ := HP2.out.at_.rd
      have c2 := hb3.cell 2
      clear hk2 hd2 hb3
      cases u
      · go_wp2_with fail
        clear c2
        have HY := Lib.hid (set_any b l false xs q1 w2 HP2.out.at_.rd hl (HE.out w2 HP2.out.gr) hb2)
        go_wp2_with fail
        rcases hs : setL false q1 with f4 | o
        · have PS := Lib.hid hs
          rw [hs] at HY
          clear hs
          refine HY.out.mono ?_
          rintro e w8 ⟨hg2, rfl⟩
          obtain rfl := E1.out
          try simp (config := { zetaDelta := true }) only [Exit.noGoto_ret, Exit.inBlock, Exit.then]
          refine ⟨rfl, ?_⟩
          rw [show pointL false r = .error f4 from by simp [-List.drop_one, -List.drop_drop, -List.length_drop, bind, Except.bind, pointL, P1.out, P2.out, PS.out]]
          exact ⟨grown_trans HP2.out.gr hg2, rfl⟩
        · cases o with
          | none =>
            have PS := Lib.hid hs
            rw [hs] at HY
            clear hs
            refine HY.out.mono ?_
            rintro e w3 ⟨hg2, rfl, hr⟩
            have HP3 := Lib.hid (HP2.out.next hr hg2)
            clear hr hg2 HY
            have HZ := Lib.hid (escape_any b l false xs q1 w3 HP3.out.at_.rd hl (HE.out w3 HP3.out.gr) hb2)
            go_wp2_with fail
            rcases hx : escapeL false q1 with f4 | ⟨c, r3⟩
            · have PX := Lib.hid hx
              rw [hx] at HZ
              clear hx
              refine HZ.out.mono ?_
              rintro e w9 ⟨hg2, rfl⟩
              obtain rfl := E1.out
              try simp (config := { zetaDelta := true }) only [Exit.noGoto_ret, Exit.inBlock, Exit.then]
              refine ⟨rfl, ?_⟩
              rw [show pointL false r = .error f4 from by simp [-List.drop_one, -List.drop_drop, -List.length_drop, bind, Except.bind, pointL, P1.out, P2.out, PS.out, PX.out]]
              exact ⟨grown_trans HP3.out.gr hg2, rfl⟩
            · have PX := Lib.hid hx
              rw [hx] at HZ
              clear hx
              refine HZ.out.mono ?_
              rintro e w9 ⟨hg2, rfl, hr⟩
              have HP9 := Lib.hid (HP3.out.next hr hg2)
              clear hr hg2 HZ
              have d0 := HP9.out.b1.cell 0
              have d1 := HP9.out.b1.cell 1
              have d2 := HP9.out.b1.cell 2
              have e0 := HP9.out.b0.cell 0
              have e1 := HP9.out.b0.cell 1
              have e2 := HP9.out.b0.cell 2
              have z1 := HP9.out.b1.frozen 1
              have y0 := HP9.out.b0.frozen 0
              have y1 := HP9.out.b0.frozen 1
              have y2 := HP9.out.b0.frozen 2
              go_wp2_with fail
              try simp (config := { zetaDelta := true }) only [Exit.noGoto_ret, Exit.inBlock, Exit.then]
              refine bodyPost_ret (v := .agg #[.int .i64 (k : Int), .int .i64 (c : Int), .bool true]) (by simp [results, Tryd.results43, go_sem, e0, e1, e2]) rfl ?_
              have HF := HP9.out.fin 1 (.int .i64 (c : Int)) (.int .i64 (k : Int)) (.int .i64 (c : Int)) (.bool true)
              rw [show pointL false r = .ok (⟨r.length, c, true⟩, r3) from by obtain rfl := E1.out; simp [-List.drop_one, -List.drop_drop, -List.length_drop, bind, Except.bind, pointL, P1.out, P2.out, PS.out, PX.out]]
              have hk := HK.out
              have e : (k : Int) = (l.length : Int) - (r.length : Int) := by omega
              exact ⟨HF.gr, by simp [ptV, e], HF.rd⟩
          | some r2 =>
            have PS := Lib.hid hs
            rw [hs] at HY
            clear hs
            refine HY.out.mono ?_
            rintro e w3 ⟨hg2, rfl, hr⟩
            have HP3 := Lib.hid (HP2.out.next hr hg2)
            clear hr hg2 HY
            have d0 := HP3.out.b1.cell 0
            have d1 := HP3.out.b1.cell 1
            have d2 := HP3.out.b1.cell 2
            have e0 := HP3.out.b0.cell 0
            have e1 := HP3.out.b0.cell 1
            have e2 := HP3.out.b0.cell 2
            have z1 := HP3.out.b1.frozen 2
            have y0 := HP3.out.b0.frozen 0
            have y1 := HP3.out.b0.frozen 1
            have y2 := HP3.out.b0.frozen 2
            go_wp2_with fail
            try simp (config := { zetaDelta := true }) only [Exit.noGoto_ret, Exit.inBlock, Exit.then]
            refine bodyPost_ret (v := .agg #[.int .i64 (k : Int), .int .i64 (0 : Int), .bool false]) (by simp [results, Tryd.results43, go_sem, e0, e1, e2]) rfl ?_
            have HF := HP3.out.fin 2 (.bool false) (.int .i64 (k : Int)) (.int .i64 (0 : Int)) (.bool false)
            rw [show pointL false r = .ok (⟨r.length, 0, false⟩, r2) from by obtain rfl := E1.out; simp [-List.drop_one, -List.drop_drop, -List.length_drop, bind, Except.bind, pointL, P1.out, P2.out, PS.out]]
            have hk := HK.out
            have e : (k : Int) = (l.length : Int) - (r.length : Int) := by omega
            exact ⟨HF.gr, by simp [ptV, e], HF.rd⟩
      · go_wp2_with fail
        clear c2
        rcases Bool.eq_false_or_eq_true (hasP [45] q1) with p3 | p3
        · have P3 := Lib.hid p3
          refine (is_yes HP2.out.at_.rd hl p3).mono ?_
          rintro e w3 ⟨rfl, hr, hg1⟩
          obtain ⟨q3, hq⟩ : ∃ q, q = q1.drop 1 := ⟨_, rfl⟩
          replace hr : Rd b l true xs q3 w3 := by rw [hq]; exact hr
          have HP3 := Lib.hid (HP2.out.next hr hg1)
          have E3 := Lib.hid hq
          clear hr hg1 hq p3
          have d0 := HP3.out.b1.cell 0
          have d1 := HP3.out.b1.cell 1
          have d2 := HP3.out.b1.cell 2
          have e0 := HP3.out.b0.cell 0
          have e1 := HP3.out.b0.cell 1
          have e2 := HP3.out.b0.cell 2
          have z1 := HP3.out.b1.frozen 1
          have y0 := HP3.out.b0.frozen 0
          have y1 := HP3.out.b0.frozen 1
          have y2 := HP3.out.b0.frozen 2
          go_wp2_with fail
          try simp (config := { zetaDelta := true }) only [Exit.noGoto_ret, Exit.inBlock, Exit.then]
          refine bodyPost_ret (v := .agg #[.int .i64 (k : Int), .int .i64 (45 : Int), .bool true]) (by simp [results, Tryd.results43, go_sem, e0, e1, e2]) rfl ?_
          have HF := HP3.out.fin 1 (.int .i64 45) (.int .i64 (k : Int)) (.int .i64 (45 : Int)) (.bool true)
          rw [show pointL true r = .ok (⟨r.length, 45, true⟩, q3) from by obtain rfl := E1.out; obtain rfl := E3.out; simp [-List.drop_one, -List.drop_drop, -List.length_drop, bind, Except.bind, pointL, P1.out, P2.out, P3.out]; try simp]
          have hk := HK.out
          have e : (k : Int) = (l.length : Int) - (r.length : Int) := by omega
          exact ⟨HF.gr, by simp [ptV, e], HF.rd⟩
        · have P3 := Lib.hid p3
          refine (is_no HP2.out.at_.rd hl p3).mono ?_
          rintro e w3 ⟨rfl, hr, hg1⟩
          have HP3 := Lib.hid (HP2.out.next hr hg1)
          clear hr hg1 p3
          go_wp2_with fail
          have HY := Lib.hid (set_any b l true xs q1 w3 HP3.out.at_.rd hl (HE.out w3 HP3.out.gr) hb2)
          go_wp2_with fail
          rcases hs : setL true q1 with f4 | o
          · have PS := Lib.hid hs
            rw [hs] at HY
            clear hs
            refine HY.out.mono ?_
            rintro e w8 ⟨hg2, rfl⟩
            obtain rfl := E1.out
            try simp (config := { zetaDelta := true }) only [Exit.noGoto_ret, Exit.inBlock, Exit.then]
            refine ⟨rfl, ?_⟩
            rw [show pointL true r = .error f4 from by simp [-List.drop_one, -List.drop_drop, -List.length_drop, bind, Except.bind, pointL, P1.out, P2.out, P3.out, PS.out]]
            exact ⟨grown_trans HP3.out.gr hg2, rfl⟩
          · cases o with
            | none =>
              have PS := Lib.hid hs
              rw [hs] at HY
              clear hs
              refine HY.out.mono ?_
              rintro e w4 ⟨hg2, rfl, hr⟩
              have HP4 := Lib.hid (HP3.out.next hr hg2)
              clear hr hg2 HY
              have HZ := Lib.hid (escape_any b l true xs q1 w4 HP4.out.at_.rd hl (HE.out w4 HP4.out.gr) hb2)
              go_wp2_with fail
              rcases hx : escapeL true q1 with f4 | ⟨c, r3⟩
              · have PX := Lib.hid hx
                rw [hx] at HZ
                clear hx
                refine HZ.out.mono ?_
                rintro e w9 ⟨hg2, rfl⟩
                obtain rfl := E1.out
                try simp (config := { zetaDelta := true }) only [Exit.noGoto_ret, Exit.inBlock, Exit.then]
                refine ⟨rfl, ?_⟩
                rw [show pointL true r = .error f4 from by simp [-List.drop_one, -List.drop_drop, -List.length_drop, bind, Except.bind, pointL, P1.out, P2.out, P3.out, PS.out, PX.out]]
                exact ⟨grown_trans HP4.out.gr hg2, rfl⟩
              · have PX := Lib.hid hx
                rw [hx] at HZ
                clear hx
                refine HZ.out.mono ?_
                rintro e w9 ⟨hg2, rfl, hr⟩
                have HP9 := Lib.hid (HP4.out.next hr hg2)
                clear hr hg2 HZ
                have d0 := HP9.out.b1.cell 0
                have d1 := HP9.out.b1.cell 1
                have d2 := HP9.out.b1.cell 2
                have e0 := HP9.out.b0.cell 0
                have e1 := HP9.out.b0.cell 1
                have e2 := HP9.out.b0.cell 2
                have z1 := HP9.out.b1.frozen 1
                have y0 := HP9.out.b0.frozen 0
                have y1 := HP9.out.b0.frozen 1
                have y2 := HP9.out.b0.frozen 2
                go_wp2_with fail
                try simp (config := { zetaDelta := true }) only [Exit.noGoto_ret, Exit.inBlock, Exit.then]
                refine bodyPost_ret (v := .agg #[.int .i64 (k : Int), .int .i64 (c : Int), .bool true]) (by simp [results, Tryd.results43, go_sem, e0, e1, e2]) rfl ?_
                have HF := HP9.out.fin 1 (.int .i64 (c : Int)) (.int .i64 (k : Int)) (.int .i64 (c : Int)) (.bool true)
                rw [show pointL true r = .ok (⟨r.length, c, true⟩, r3) from by obtain rfl := E1.out; simp [-List.drop_one, -List.drop_drop, -List.length_drop, bind, Except.bind, pointL, P1.out, P2.out, P3.out, PS.out, PX.out]]
                have hk := HK.out
                have e : (k : Int) = (l.length : Int) - (r.length : Int) := by omega
                exact ⟨HF.gr, by simp [ptV, e], HF.rd⟩
            | some r2 =>
              have PS := Lib.hid hs
              rw [hs] at HY
              clear hs
              refine HY.out.mono ?_
              rintro e w4 ⟨hg2, rfl, hr⟩
              have HP4 := Lib.hid (HP3.out.next hr hg2)
              clear hr hg2 HY
              have d0 := HP4.out.b1.cell 0
              have d1 := HP4.out.b1.cell 1
              have d2 := HP4.out.b1.cell 2
              have e0 := HP4.out.b0.cell 0
              have e1 := HP4.out.b0.cell 1
              have e2 := HP4.out.b0.cell 2
              have z1 := HP4.out.b1.frozen 2
              have y0 := HP4.out.b0.frozen 0
              have y1 := HP4.out.b0.frozen 1
              have y2 := HP4.out.b0.frozen 2
              go_wp2_with fail
              try simp (config := { zetaDelta := true }) only [Exit.noGoto_ret, Exit.inBlock, Exit.then]
              refine bodyPost_ret (v := .agg #[.int .i64 (k : Int), .int .i64 (0 : Int), .bool false]) (by simp [results, Tryd.results43, go_sem, e0, e1, e2]) rfl ?_
              have HF := HP4.out.fin 2 (.bool false) (.int .i64 (k : Int)) (.int .i64 (0 : Int)) (.bool false)
              rw [show pointL true r = .ok (⟨r.length, 0, false⟩, r2) from by obtain rfl := E1.out; simp [-List.drop_one, -List.drop_drop, -List.length_drop, bind, Except.bind, pointL, P1.out, P2.out, P3.out, PS.out]]
              have hk := HK.out
              have e : (k : Int) = (l.length : Int) - (r.length : Int) := by omega
              exact ⟨HF.gr, by simp [ptV, e], HF.rd⟩
  · have P1 := Lib.hid p1
    refine (is_no HP.out.at_.rd hl p1).mono ?_
    rintro e w1 ⟨rfl, hr, hg1⟩
    have HP1 := Lib.hid (HP.out.next hr hg1)
    clear hr hg1 p1
    have HY := Lib.hid (take_any b l u xs r w1 HP1.out.at_.rd (HE.out w1 HP1.out.gr).1 hl)
    go_wp2_with fail
    rcases ht : takeL r with f4 | ⟨c, r1⟩
    · have PT := Lib.hid ht
      rw [ht] at HY
      clear ht
      refine HY.out.mono ?_
      rintro e w2 ⟨hg2, rfl⟩
      try simp (config := { zetaDelta := true }) only [Exit.noGoto_ret, Exit.inBlock, Exit.then]
      refine ⟨rfl, ?_⟩
      rw [show pointL u r = .error f4 from by simp [-List.drop_one, -List.drop_drop, -List.length_drop, bind, Except.bind, pointL, P1.out, PT.out]]
      exact ⟨grown_trans HP1.out.gr hg2, rfl⟩
    · have PT := Lib.hid ht
      rw [ht] at HY
      clear ht
      refine HY.out.mono ?_
      rintro e w2 ⟨hg2, rfl, hr⟩
      have HP2 := Lib.hid (HP1.out.next hr hg2)
      clear hr hg2 HY
      have d0 := HP2.out.b1.cell 0
      have d1 := HP2.out.b1.cell 1
      have d2 := HP2.out.b1.cell 2
      have e0 := HP2.out.b0.cell 0
      have e1 := HP2.out.b0.cell 1
      have e2 := HP2.out.b0.cell 2
      have z1 := HP2.out.b1.frozen 1
      have y0 := HP2.out.b0.frozen 0
      have y1 := HP2.out.b0.frozen 1
      have y2 := HP2.out.b0.frozen 2
      go_wp2_with fail
      try simp (config := { zetaDelta := true }) only [Exit.noGoto_ret, Exit.inBlock, Exit.then]
      refine bodyPost_ret (v := .agg #[.int .i64 (k : Int), .int .i64 (c : Int), .bool true]) (by simp [results, Tryd.results43, go_sem, e0, e1, e2]) rfl ?_
      have HF := HP2.out.fin 1 (.int .i64 (c : Int)) (.int .i64 (k : Int)) (.int .i64 (c : Int)) (.bool true)
      rw [show pointL u r = .ok (⟨r.length, c, true⟩, r1) from by simp [-List.drop_one, -List.drop_drop, -List.length_drop, bind, Except.bind, pointL, P1.out, PT.out]]
      have hk := HK.out
      have e : (k : Int) = (l.length : Int) - (r.length : Int) := by omega
      exact ⟨HF.gr, by simp [ptV, e], HF.rd⟩
end Go.Proofs.YtnbadnmmolagfaaDoor
