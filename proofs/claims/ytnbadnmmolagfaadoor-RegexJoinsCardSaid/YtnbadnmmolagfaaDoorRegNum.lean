/- Package regex: hexes, braced. -/
import Derived.Test.YtnbadnmmolagfaaDoorRegSet
import Derived.Laws.Bits64b
namespace Go.Proofs.YtnbadnmmolagfaaDoor
open Go.RowKit
set_option maxRecDepth 100000
set_option linter.unusedVariables false
set_option linter.unusedSimpArgs false

theorem or16 (x h : Nat) (hx : x < 72057594037927936) (hh : h < 16) : bits .or .i64 ((x : Int) * 16) (h : Int) = ((16 * x + h : Nat) : Int) := by
  have hx1 : x * 16 < 18446744073709551616 := by omega
  have e0 : (x : Int) * 16 = ((x * 16 : Nat) : Int) := by omega
  have h1 : (BitVec.ofInt 64 ((x * 16 : Nat) : Int)).toNat = x * 16 := by
    rw [BitVec.ofInt_natCast, BitVec.toNat_ofNat]; exact Nat.mod_eq_of_lt (by omega)
  have h2 : (BitVec.ofInt 64 (h : Int)).toNat = h := by
    rw [BitVec.ofInt_natCast, BitVec.toNat_ofNat]; exact Nat.mod_eq_of_lt (by omega)
  have h3 : x * 16 ||| h = 16 * x + h := by
    have := Nat.shiftLeft_add_eq_or_of_lt (i := 4) (b := h) (by omega) x
    rw [Nat.shiftLeft_eq, show (2 : Nat) ^ 4 = 16 from rfl] at this
    omega
  rw [e0]
  show IntKind.i64.wrap ((BitVec.ofInt 64 ((x * 16 : Nat) : Int) ||| BitVec.ofInt 64 (h : Int)).toNat : Int) = _
  rw [BitVec.toNat_or, h1, h2, h3, IntKind.wrap_i64]
  omega
theorem hexL_lt {c h : Nat} (e : hexL c = some h) : h < 16 := by
  unfold hexL digitB at e
  split at e
  · rename_i hd
    simp at hd
    injection e with e
    omega
  · split at e
    · injection e with e
      omega
    · split at e
      · injection e with e
        omega
      · cases e
theorem hexL_none0 : hexL 0 = none := by decide
theorem hexV_none {c : Nat} (e : hexL c = none) : hexV c = -1 := by unfold hexV; rw [e]
theorem hexV_some {c h : Nat} (e : hexL c = some h) : hexV c = (h : Int) := by unfold hexV; rw [e]
theorem hex_ne {r : Ln} {h : Nat} (e : hexL (peekL r) = some h) : r ≠ [] := by
  rintro rfl
  rw [show peekL [] = 0 from rfl, hexL_none0] at e
  cases e
theorem pow16 {x k d : Nat} (hx : x < 16 ^ k) (hd : d < 16) : 16 * x + d < 16 ^ (k + 1) := by
  rw [Nat.pow_succ]
  omega

set_option maxHeartbeats 4000000 in
theorem hexes_any (b : Nat) (l : Ln) (u : Bool) (xs : List Value) (r : Ln) (w : World) (h : Rd b l u xs r w) (hl : l.length ≤ 4096) (m : Nat) (hm : m ≤ 4) :
    Calls Tryd.prog 52 #[.pointer (some ⟨b, 0, none⟩), .int .i64 (m : Int)] w (Ends b l u xs w ((hexesL m 0 r).map fun p => (.int .i64 (p.1 : Int), p.2))) := by
  have H0 := Lib.hid (show At b l u xs w r w from ⟨h, grown_refl _ _⟩)
  clear h
  go_enter Tryd.func52, Tryd.ntmps52
  go_wp2_with fail
  go_loopw [5, 8] (fun x j wr => ∃ (jj X : Nat) (r' : Ln), jj ≤ m ∧ j = .int .i64 (jj : Int) ∧ x = .int .i64 (X : Int) ∧ X < 16 ^ jj ∧ hexesL m 0 r = hexesL (m - jj) X r' ∧ At b l u xs w r' wr) (fun _ j _ => m - (intOf j).toNat)
  case atStart => exact ⟨0, 0, r, Nat.zero_le _, rfl, rfl, by decide, rfl, H0.out⟩
  case round =>
    obtain ⟨j, X, r', hj, rfl, rfl, hX, hh, hat⟩ := hrel
    have HA := Lib.hid hat
    have HR := Lib.hid (And.intro hX hh)
    clear hX hh hat
    by_cases hlt : j < m
    · have hji : (j : Int) < (m : Int) := by omega
      go_wp2_with fail
      refine (peek_rd b l u xs r' wr HA.out.rd hl).mono ?_
      rintro e w4 ⟨rfl, hr, hg⟩
      have HA4 := Lib.hid (HA.out.next hr (grown_of hg _))
      clear hr hg
      cases hx : hexL (peekL r') with
      | none =>
        have hv := hexV_none hx
        have HV := Lib.hid (hex_any (peekL r') (peekL_lt r'))
        rw [hv] at HV
        have HRES : Hid (hexesL m 0 r = .error (form r')) := Lib.hid (by
          rw [HR.out.2, show m - j = (m - j - 1) + 1 from by omega]
          simp only [hexesL, hx])
        clear hv hx
        go_wp2_with (go_at_call 62; refine (HV.out _).mono ?_; rintro e w5 ⟨rfl, rfl⟩)
        refine (stop_any b l u xs r' _ HA4.out.rd).mono ?_
        rintro e w6 ⟨rfl, rfl⟩
        try simp (config := { zetaDelta := true }) only [Exit.noGoto_ret, Exit.inBlock, Exit.then]
        refine ⟨rfl, ?_⟩
        rw [HRES.out]
        exact ⟨HA4.out.gr, rfl⟩
      | some d =>
        have hv := hexV_some hx
        have HV := Lib.hid (hex_any (peekL r') (peekL_lt r'))
        rw [hv] at HV
        have hne := hex_ne hx
        have hd := hexL_lt hx
        have HRES : Hid (hexesL m 0 r = hexesL (m - (j + 1)) (16 * X + d) (r'.drop 1)) := Lib.hid (by
          rw [HR.out.2, show m - j = (m - (j + 1)) + 1 from by omega]
          simp only [hexesL, hx])
        obtain ⟨k, hk, hdd, hb⟩ := HA4.out.rd
        have c1 := hb.cell 1
        have f1 := hb.frozen 1
        have HIN := Lib.hid (HA4.out.inc hl hne c1)
        have hXb : X < 65536 := Nat.lt_of_lt_of_le HR.out.1 (Nat.pow_le_pow_right (n := 16) (by decide) (show j ≤ 4 by omega))
        have hor := or16 X d (by omega) hd
        have hsh : wrap64 ((X : Int) * 16) = (X : Int) * 16 := IntWalk.wrap64_in _ ⟨by omega, by omega⟩
        have HP := Lib.hid (pow16 HR.out.1 hd)
        clear hv hx hne hk hdd hb hXb
        have hd0 : ¬ ((d : Int) < 0) := by omega
        go_wp2_with (go_at_call 62; refine (HV.out _).mono ?_; rintro e w5 ⟨rfl, rfl⟩)
        go_roundw
        case rel => exact ⟨j + 1, 16 * X + d, r'.drop 1, by omega, by go_num, rfl, HP.out, HRES.out, HIN.out⟩
        case measure => simp [intOf]; omega
    · have hjm : j = m := by omega
      have HRES : Hid (hexesL m 0 r = .ok (X, r')) := Lib.hid (by
        rw [HR.out.2, show m - j = 0 from by omega]
        rfl)
      have hji : ¬ ((j : Int) < (m : Int)) := by omega
      clear hlt hjm
      go_wp2_with fail
      try simp (config := { zetaDelta := true }) only [Exit.noGoto_ret, Exit.inBlock, Exit.then]
      go_ret
      rw [HRES.out]
      exact ⟨HA.out.gr, rfl, HA.out.rd⟩

theorem bracedR_stop {f x : Nat} {r : Ln} (h : hexL (peekL r) = none) : bracedR f x r = (x, r) := by
  cases f with
  | zero => rfl
  | succ f => simp only [bracedR, h]
theorem bracedR_go {f x d : Nat} {r : Ln} (hf : r.length ≤ f) (h : hexL (peekL r) = some d) : bracedR f x r = bracedR (f - 1) (min (16 * x + d) 1114112) (r.drop 1) := by
  cases f with
  | zero =>
    have : r = [] := List.eq_nil_of_length_eq_zero (by omega)
    exact absurd this (hex_ne h)
  | succ f => simp only [bracedR, h]; rfl
set_option maxHeartbeats 8000000 in
theorem braced_any (b : Nat) (l : Ln) (u : Bool) (xs : List Value) (r : Ln) (w : World) (h : Rd b l u xs r w) (hl : l.length ≤ 4096) :
    Calls Tryd.prog 53 #[.pointer (some ⟨b, 0, none⟩)] w (Ends b l u xs w ((bracedL r).map fun p => (.int .i64 (p.1 : Int), p.2))) := by
  have H0 := Lib.hid (show At b l u xs w r w from ⟨h, grown_refl _ _⟩)
  have X := hexes_any b l u xs r w h hl 1 (by decide)
  have HX := Lib.hid X
  clear h X
  go_enter Tryd.func53, Tryd.ntmps53
  go_wp2_with fail
  rcases ht : hexesL 1 0 r with f4 | ⟨x0, r1⟩
  · rw [ht] at HX
    have HRES : Hid (bracedL r = .error f4) := Lib.hid (by unfold bracedL; rw [ht]; rfl)
    clear ht
    refine HX.out.mono ?_
    rintro e w5 ⟨hg, rfl⟩
    try simp (config := { zetaDelta := true }) only [Exit.noGoto_ret, Exit.inBlock, Exit.then]
    refine ⟨rfl, ?_⟩
    rw [HRES.out]
    exact ⟨hg, rfl⟩
  have hx0 : x0 ≤ 1114112 := by
    simp only [hexesL] at ht
    split at ht
    · cases ht
    · rename_i d hd
      injection ht with ht
      injection ht with h1 h2
      have := hexL_lt hd
      omega
  rw [ht] at HX
  have HBL : Hid (bracedL r = if peekL (bracedR r1.length x0 r1).2 ≠ 125 || decide (1114111 < (bracedR r1.length x0 r1).1) then .error (form (bracedR r1.length x0 r1).2) else .ok ((bracedR r1.length x0 r1).1, (bracedR r1.length x0 r1).2.drop 1)) := Lib.hid (by unfold bracedL; rw [ht]; rfl)
  clear ht
  refine HX.out.mono ?_
  rintro e w5 ⟨hg, rfl, hr⟩
  have H5 := Lib.hid (H0.out.next hr hg)
  clear hr hg HX
  go_wp2_with fail
  go_loopw [3, 6] (fun x _ wr => ∃ (X f : Nat) (r' : Ln), x = .int .i64 (X : Int) ∧ X ≤ 1114112 ∧ r'.length ≤ f ∧ bracedR r1.length x0 r1 = bracedR f X r' ∧ At b l u xs w r' wr) (fun _ _ wr => l.length - posOf b wr)
  case atStart => exact ⟨x0, r1.length, r1, rfl, hx0, Nat.le_refl _, rfl, H5.out⟩
  case round =>
    obtain ⟨X, f, r', rfl, hX, hf, hh, hat⟩ := hrel
    have HM := Lib.hid hat.rd.pos
    have HA := Lib.hid hat
    have HR := Lib.hid (And.intro hf hh)
    clear hf hh hat
    go_wp2_with fail
    refine (peek_rd b l u xs r' wr HA.out.rd hl).mono ?_
    rintro e w6 ⟨rfl, hr, hg⟩
    have HA4 := Lib.hid (HA.out.next hr (grown_of hg _))
    clear hr hg
    cases hx : hexL (peekL r') with
    | none =>
      have hv := hexV_none hx
      have HV := Lib.hid (hex_any (peekL r') (peekL_lt r'))
      rw [hv] at HV
      have hst := bracedR_stop (f := f) (x := X) hx
      have HRES : Hid (bracedL r = if peekL r' ≠ 125 || decide (1114111 < X) then .error (form r') else .ok (X, r'.drop 1)) := Lib.hid (by rw [HBL.out, HR.out.2, hst])
      clear hv hx hst
      go_wp2_with (go_at_call 62; refine (HV.out _).mono ?_; rintro e w7 ⟨rfl, rfl⟩)
      refine (peek_rd b l u xs r' _ HA4.out.rd hl).mono ?_
      rintro e w8 ⟨rfl, hr, hg⟩
      have HA8 := Lib.hid (HA4.out.next hr (grown_of hg _))
      clear hr hg
      by_cases h5 : peekL r' = 125
      · have z5 : ((peekL r' : Int) != 125) = false := by simp; omega
        by_cases h6 : 1114111 < X
        · have z6 : decide ((X : Int) > 1114111) = true := by simp; omega
          have HR2 : Hid (bracedL r = .error (form r')) := Lib.hid (by rw [HRES.out]; simp [h6])
          clear h5 h6
          go_wp2_with fail
          refine (stop_any b l u xs r' _ HA8.out.rd).mono ?_
          rintro e w9 ⟨rfl, rfl⟩
          try simp (config := { zetaDelta := true }) only [Exit.noGoto_ret, Exit.inBlock, Exit.then]
          refine ⟨rfl, ?_⟩
          rw [HR2.out]
          exact ⟨HA8.out.gr, rfl⟩
        · have z6 : ¬ ((X : Int) > 1114111) := by omega
          have z7 : ¬ ((1114111 : Int) < (X : Int)) := by omega
          have HR2 : Hid (bracedL r = .ok (X, r'.drop 1)) := Lib.hid (by rw [HRES.out]; simp [h5, h6])
          have hne : r' ≠ [] := peek_ne (by omega)
          obtain ⟨k, hk, hdd, hb⟩ := HA8.out.rd
          have c1 := hb.cell 1
          have f1 := hb.frozen 1
          have HIN := Lib.hid (HA8.out.inc hl hne c1)
          clear h5 h6 hne hk hdd hb
          go_wp2_with fail
          try simp (config := { zetaDelta := true }) only [Exit.noGoto_ret, Exit.inBlock, Exit.then]
          go_ret
          rw [HR2.out]
          exact ⟨HIN.out.gr, rfl, HIN.out.rd⟩
      · have z5 : ((peekL r' : Int) != 125) = true := by simp; omega
        have HR2 : Hid (bracedL r = .error (form r')) := Lib.hid (by rw [HRES.out]; simp [h5])
        clear h5
        go_wp2_with fail
        refine (stop_any b l u xs r' _ HA8.out.rd).mono ?_
        rintro e w9 ⟨rfl, rfl⟩
        try simp (config := { zetaDelta := true }) only [Exit.noGoto_ret, Exit.inBlock, Exit.then]
        refine ⟨rfl, ?_⟩
        rw [HR2.out]
        exact ⟨HA8.out.gr, rfl⟩
    | some d =>
      have hv := hexV_some hx
      have HV := Lib.hid (hex_any (peekL r') (peekL_lt r'))
      rw [hv] at HV
      have hne := hex_ne hx
      have hd := hexL_lt hx
      have hst := bracedR_go (x := X) HR.out.1 hx
      have HRES := Lib.hid hst
      have HNE := Lib.hid hne
      have hor := or16 X d (by omega) hd
      have hsh : wrap64 ((X : Int) * 16) = (X : Int) * 16 := IntWalk.wrap64_in _ ⟨by omega, by omega⟩
      have hd0 : ¬ ((d : Int) < 0) := by omega
      have hd1 : (0 : Int) ≤ (d : Int) := by omega
      clear hv hx hne hst
      go_wp2_with (go_at_call 62; refine (HV.out _).mono ?_; rintro e w7 ⟨rfl, rfl⟩)
      refine (peek_rd b l u xs r' _ HA4.out.rd hl).mono ?_
      rintro e w8 ⟨rfl, hr, hg⟩
      have HA8 := Lib.hid (HA4.out.next hr (grown_of hg _))
      clear hr hg
      obtain ⟨k, hk, hdd, hb⟩ := HA8.out.rd
      have c1 := hb.cell 1
      have f1 := hb.frozen 1
      have HIN := Lib.hid (HA8.out.inc hl HNE.out c1)
      clear hk hdd hb
      go_wp2_with (go_at_call 62; refine (HV.out _).mono ?_; rintro e w7 ⟨rfl, rfl⟩)
      go_roundw
      case rel =>
        refine ⟨min (16 * X + d) 1114112, f - 1, r'.drop 1, ?_, by omega, ?_, by rw [HR.out.2, HRES.out], HIN.out⟩
        · have e : (min (16 * (X : Int) + (d : Int)) 1114112) = ((min (16 * X + d) 1114112 : Nat) : Int) := by omega
          rw [e]
        · rw [List.length_drop]
          have := HR.out.1
          omega
      case measure =>
        have h1 := HIN.out.rd.pos
        have h2 := HM.out
        have h3 := List.length_pos_iff.2 HNE.out
        rw [List.length_drop] at h1
        omega
end Go.Proofs.YtnbadnmmolagfaaDoor
