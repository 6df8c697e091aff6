/- Package regex: escape (printed by gen_regesc.py). -/
import Derived.Test.YtnbadnmmolagfaaDoorRegNum
namespace Go.Proofs.YtnbadnmmolagfaaDoor
open Go.RowKit
set_option maxRecDepth 100000
set_option linter.unusedVariables false
set_option linter.unusedSimpArgs false

theorem letter_all : (List.range 256).map (fun p : Nat => letterB p) = (List.range 256).map (fun p : Nat => (decide (97 ≤ bits .or .u8 (p : Int) 32) && decide (bits .or .u8 (p : Int) 32 ≤ 122)) && decide (65 ≤ p)) := by kernel_rfl
theorem and_all : (List.range 256).map (fun p : Nat => bits .and .u8 (p : Int) 31) = (List.range 256).map (fun p : Nat => ((p % 32 : Nat) : Int)) := by kernel_rfl
theorem letter_bits {p : Nat} (h : p < 256) : letterB p = ((decide (97 ≤ bits .or .u8 (p : Int) 32) && decide (bits .or .u8 (p : Int) 32 ≤ 122)) && decide (65 ≤ p)) := List.map_inj_left.1 letter_all p (List.mem_range.2 h)
theorem and_bits {p : Nat} (h : p < 256) : bits .and .u8 (p : Int) 31 = ((p % 32 : Nat) : Int) := List.map_inj_left.1 and_all p (List.mem_range.2 h)
theorem index_c (s : Ln) (c : Nat) : ∃ i : Int, decide (0 ≤ i) = s.contains (UInt8.ofNat c) ∧ ∀ w, Calls Tryd.prog 16 #[.string (strOf s), .int .u8 (c : Int)] w fun e w' => e = .returned (.int .i64 i) ∧ w' = w := by
  refine ⟨_, idx_mem (UInt8.ofNat c) s, fun w => ?_⟩
  have := Tryd.strings_IndexByte (strOf s) (c : Int) w
  rw [strOf_list] at this
  exact this
theorem index_v (s : Ln) (c : Nat) (i : Int) (hi : Lib.indexByte s (UInt8.ofNat c) = i) (w : World) : Calls Tryd.prog 16 #[.string (strOf s), .int .u8 (c : Int)] w fun e w' => e = .returned (.int .i64 i) ∧ w' = w := by
  have := Tryd.strings_IndexByte (strOf s) (c : Int) w
  rw [strOf_list] at this
  subst hi
  exact this
def syn8 : Ln := [94, 36, 92, 46, 42, 43, 63, 40, 41, 91, 93, 123, 125, 124, 47]
def sim8 : Ln := [102, 110, 114, 116, 118]
theorem syn_all : (List.range 128).map (fun c : Nat => syn8.contains (UInt8.ofNat c)) = (List.range 128).map (fun c : Nat => syntaxChars.contains c) := by kernel_rfl
theorem syn_bits {c : Nat} (h : c < 128) : syn8.contains (UInt8.ofNat c) = syntaxChars.contains c := List.map_inj_left.1 syn_all c (List.mem_range.2 h)
theorem sim_all : (List.range 128).map (fun c : Nat => sim8.contains (UInt8.ofNat c)) = (List.range 128).map (fun c : Nat => (simpleL c).isSome) := by kernel_rfl
theorem sim_bits {c : Nat} (h : c < 128) : sim8.contains (UInt8.ofNat c) = (simpleL c).isSome := List.map_inj_left.1 sim_all c (List.mem_range.2 h)
theorem simple_low {c v : Nat} (h : simpleL c = some v) : c < 128 := by
  unfold simpleL at h
  repeat' split at h
  all_goals first | omega | cases h
theorem takeL_rune {r r1 : Ln} {c : Nat} (h : takeL r = .ok (c, r1)) : c ≤ 1114111 := by
  unfold takeL at h
  split at h
  · cases h
  · injection h with h
    injection h with h1 h2
    rw [← h1]
    exact nextL_rune r


set_option maxHeartbeats 4000000 in
theorem escape_ctrl (b : Nat) (l : Ln) (u : Bool) (xs : List Value) (r : Ln) (w : World) (h : Rd b l u xs r w) (hl : l.length ≤ 4096) (hE : Env w) (hb2 : 2 < b) (c : Nat) (r1 : Ln) (ht : takeL r = .ok (c, r1)) (HRES0 : Hid (escapeL u r = (if letterB (peekL r1) then .ok (peekL r1 % 32, r1.drop 1) else .error (form r1)))) (hc : c = 99) :
    Calls Tryd.prog 45 #[.pointer (some ⟨b, 0, none⟩)] w (Ends b l u xs w ((escapeL u r).map fun p => (.int .i64 (p.1 : Int), p.2))) := by
  have X := take_any b l u xs r w h hE.1 hl
  rw [ht] at X
  have HX := Lib.hid X
  have HCB := Lib.hid (takeL_rune ht)
  have HE := Lib.hid (fun w1 (hg : w.grownBy w1 (some b)) => hE.grown hg hb2)
  have H0 := Lib.hid (show At b l u xs w r w from ⟨h, grown_refl _ _⟩)
  obtain ⟨k, hk, hd, hb⟩ := h
  have c1 := hb.cell 1
  have HK := Lib.hid hk
  clear hk hd hb ht X hE
  subst hc
  go_enter Tryd.func45, Tryd.ntmps45
  go_wp2_with fail
  refine HX.out.mono ?_
  rintro e w1 ⟨hg, rfl, hr⟩
  have H1 := Lib.hid (H0.out.next hr hg)
  clear hr hg HX c1
  go_wp2_with fail
  refine (peek_rd b l u xs r1 _ H1.out.rd hl).mono ?_
  rintro e w2 ⟨rfl, hr, hg⟩
  have H2 := Lib.hid (H1.out.next hr (grown_of hg _))
  clear hr hg
  have hlt := peekL_lt r1
  have HB := Lib.hid (letter_bits hlt)
  have ha := and_bits hlt
  have hm : peekL r1 % 32 < 32 := Nat.mod_lt _ (by decide)
  obtain ⟨o, ho⟩ : ∃ o, o = bits .or .u8 (peekL r1 : Int) 32 := ⟨_, rfl⟩
  rw [← ho] at HB
  have ho' := ho.symm
  clear ho
  by_cases g1 : 97 ≤ o
  · by_cases g2 : o ≤ 122
    · by_cases g3 : 65 ≤ peekL r1
      · have HRES : Hid ((if letterB (peekL r1) then .ok (peekL r1 % 32, r1.drop 1) else .error (form r1) : Except Flt (Nat × Ln)) = .ok (peekL r1 % 32, r1.drop 1)) := Lib.hid (by rw [HB.out]; simp [g1, g2, g3])
        have hne : r1 ≠ [] := peek_ne (by omega)
        have g3' : decide ((65 : Int) ≤ (peekL r1 : Int)) = true := by simp; omega
        clear g3
        obtain ⟨k_, hk_, hd_, hb_⟩ := H2.out.rd
        have c1 := hb_.cell 1
        have c2 := hb_.cell 2
        have f1 := hb_.frozen 1
        have HIN := Lib.hid (H2.out.inc hl hne c1)
        clear hk_ hd_ hb_
        clear hne
        go_wp2_with fail
        try simp (config := { zetaDelta := true }) only [Exit.noGoto_ret, Exit.inBlock, Exit.then]
        go_ret
        rw [HRES0.out]
        rw [HRES.out]
        exact ⟨HIN.out.gr, rfl, HIN.out.rd⟩
      · have HRES : Hid ((if letterB (peekL r1) then .ok (peekL r1 % 32, r1.drop 1) else .error (form r1) : Except Flt (Nat × Ln)) = .error (form r1)) := Lib.hid (by rw [HB.out]; simp [g1, g2, g3])
        have g3' : decide ((65 : Int) ≤ (peekL r1 : Int)) = false := by simp; omega
        clear g3
        go_wp2_with fail
        refine (stop_any b l u xs r1 _ H2.out.rd).mono ?_
        rintro e w3 ⟨rfl, rfl⟩
        try simp (config := { zetaDelta := true }) only [Exit.noGoto_ret, Exit.inBlock, Exit.then]
        refine ⟨rfl, ?_⟩
        rw [HRES0.out]
        rw [HRES.out]
        exact ⟨H2.out.gr, rfl⟩
    · have HRES : Hid ((if letterB (peekL r1) then .ok (peekL r1 % 32, r1.drop 1) else .error (form r1) : Except Flt (Nat × Ln)) = .error (form r1)) := Lib.hid (by rw [HB.out]; simp [g1, g2])
      go_wp2_with fail
      refine (stop_any b l u xs r1 _ H2.out.rd).mono ?_
      rintro e w3 ⟨rfl, rfl⟩
      try simp (config := { zetaDelta := true }) only [Exit.noGoto_ret, Exit.inBlock, Exit.then]
      refine ⟨rfl, ?_⟩
      rw [HRES0.out]
      rw [HRES.out]
      exact ⟨H2.out.gr, rfl⟩
  · have HRES : Hid ((if letterB (peekL r1) then .ok (peekL r1 % 32, r1.drop 1) else .error (form r1) : Except Flt (Nat × Ln)) = .error (form r1)) := Lib.hid (by rw [HB.out]; simp [g1])
    go_wp2_with fail
    refine (stop_any b l u xs r1 _ H2.out.rd).mono ?_
    rintro e w3 ⟨rfl, rfl⟩
    try simp (config := { zetaDelta := true }) only [Exit.noGoto_ret, Exit.inBlock, Exit.then]
    refine ⟨rfl, ?_⟩
    rw [HRES0.out]
    rw [HRES.out]
    exact ⟨H2.out.gr, rfl⟩

set_option maxHeartbeats 4000000 in
theorem escape_zero (b : Nat) (l : Ln) (u : Bool) (xs : List Value) (r : Ln) (w : World) (h : Rd b l u xs r w) (hl : l.length ≤ 4096) (hE : Env w) (hb2 : 2 < b) (c : Nat) (r1 : Ln) (ht : takeL r = .ok (c, r1)) (HRES0 : Hid (escapeL u r = (if digitB (peekL r1) then .error (form r1) else .ok (0, r1)))) (hc : c = 48) :
    Calls Tryd.prog 45 #[.pointer (some ⟨b, 0, none⟩)] w (Ends b l u xs w ((escapeL u r).map fun p => (.int .i64 (p.1 : Int), p.2))) := by
  have X := take_any b l u xs r w h hE.1 hl
  rw [ht] at X
  have HX := Lib.hid X
  have HCB := Lib.hid (takeL_rune ht)
  have HE := Lib.hid (fun w1 (hg : w.grownBy w1 (some b)) => hE.grown hg hb2)
  have H0 := Lib.hid (show At b l u xs w r w from ⟨h, grown_refl _ _⟩)
  obtain ⟨k, hk, hd, hb⟩ := h
  have c1 := hb.cell 1
  have HK := Lib.hid hk
  clear hk hd hb ht X hE
  subst hc
  go_enter Tryd.func45, Tryd.ntmps45
  go_wp2_with fail
  refine HX.out.mono ?_
  rintro e w1 ⟨hg, rfl, hr⟩
  have H1 := Lib.hid (H0.out.next hr hg)
  clear hr hg HX c1
  go_wp2_with fail
  refine (peek_rd b l u xs r1 _ H1.out.rd hl).mono ?_
  rintro e w2 ⟨rfl, hr, hg⟩
  have H2 := Lib.hid (H1.out.next hr (grown_of hg _))
  clear hr hg
  cases hq : digitB (peekL r1)
  · have HRES : Hid ((if digitB (peekL r1) then .error (form r1) else .ok (0, r1) : Except Flt (Nat × Ln)) = .ok (0, r1)) := Lib.hid (by rw [hq]; rfl)
    go_wp2_with (go_at_call 37; refine (digit_any _ _).mono ?_; rintro e w3 ⟨rfl, rfl⟩)
    try simp (config := { zetaDelta := true }) only [Exit.noGoto_ret, Exit.inBlock, Exit.then]
    go_ret
    rw [HRES0.out]
    rw [HRES.out]
    exact ⟨H2.out.gr, rfl, H2.out.rd⟩
  · have HRES : Hid ((if digitB (peekL r1) then .error (form r1) else .ok (0, r1) : Except Flt (Nat × Ln)) = .error (form r1)) := Lib.hid (by rw [hq]; rfl)
    go_wp2_with (go_at_call 37; refine (digit_any _ _).mono ?_; rintro e w3 ⟨rfl, rfl⟩)
    refine (stop_any b l u xs r1 _ H2.out.rd).mono ?_
    rintro e w4 ⟨rfl, rfl⟩
    try simp (config := { zetaDelta := true }) only [Exit.noGoto_ret, Exit.inBlock, Exit.then]
    refine ⟨rfl, ?_⟩
    rw [HRES0.out]
    rw [HRES.out]
    exact ⟨H2.out.gr, rfl⟩

set_option maxHeartbeats 4000000 in
theorem escape_two (b : Nat) (l : Ln) (u : Bool) (xs : List Value) (r : Ln) (w : World) (h : Rd b l u xs r w) (hl : l.length ≤ 4096) (hE : Env w) (hb2 : 2 < b) (c : Nat) (r1 : Ln) (ht : takeL r = .ok (c, r1)) (HRES0 : Hid (escapeL u r = hexesL 2 0 r1)) (hc : c = 120) :
    Calls Tryd.prog 45 #[.pointer (some ⟨b, 0, none⟩)] w (Ends b l u xs w ((escapeL u r).map fun p => (.int .i64 (p.1 : Int), p.2))) := by
  have X := take_any b l u xs r w h hE.1 hl
  rw [ht] at X
  have HX := Lib.hid X
  have HCB := Lib.hid (takeL_rune ht)
  have HE := Lib.hid (fun w1 (hg : w.grownBy w1 (some b)) => hE.grown hg hb2)
  have H0 := Lib.hid (show At b l u xs w r w from ⟨h, grown_refl _ _⟩)
  obtain ⟨k, hk, hd, hb⟩ := h
  have c1 := hb.cell 1
  have HK := Lib.hid hk
  clear hk hd hb ht X hE
  subst hc
  go_enter Tryd.func45, Tryd.ntmps45
  go_wp2_with fail
  refine HX.out.mono ?_
  rintro e w1 ⟨hg, rfl, hr⟩
  have H1 := Lib.hid (H0.out.next hr hg)
  clear hr hg HX c1
  go_wp2_with fail
  have X := hexes_any b l u xs r1 w1 H1.out.rd hl 2 (by decide)
  have HY := Lib.hid X
  clear X
  rcases hx : hexesL 2 0 r1 with f4 | ⟨v, r2⟩
  · rw [hx] at HY
    have HXX := Lib.hid hx
    clear hx
    refine HY.out.mono ?_
    rintro e w5 ⟨hg, rfl⟩
    try simp (config := { zetaDelta := true }) only [Exit.noGoto_ret, Exit.inBlock, Exit.then]
    refine ⟨rfl, ?_⟩
    rw [HRES0.out, HXX.out]
    exact ⟨grown_trans H1.out.gr hg, rfl⟩
  · rw [hx] at HY
    have HXX := Lib.hid hx
    clear hx
    refine HY.out.mono ?_
    rintro e w5 ⟨hg, rfl, hr⟩
    have H5 := Lib.hid (H1.out.next hr hg)
    clear hr hg HY
    go_wp2_with fail
    try simp (config := { zetaDelta := true }) only [Exit.noGoto_ret, Exit.inBlock, Exit.then]
    go_ret
    rw [HRES0.out, HXX.out]
    exact ⟨H5.out.gr, rfl, H5.out.rd⟩

set_option maxHeartbeats 4000000 in
theorem escape_brace (b : Nat) (l : Ln) (u : Bool) (xs : List Value) (r : Ln) (w : World) (h : Rd b l u xs r w) (hl : l.length ≤ 4096) (hE : Env w) (hb2 : 2 < b) (c : Nat) (r1 : Ln) (ht : takeL r = .ok (c, r1)) (HRES0 : Hid (escapeL u r = bracedL (r1.drop 1))) (hc : c = 117) (hu : u = true) (hp : hasP [123] r1 = true) :
    Calls Tryd.prog 45 #[.pointer (some ⟨b, 0, none⟩)] w (Ends b l u xs w ((escapeL u r).map fun p => (.int .i64 (p.1 : Int), p.2))) := by
  have X := take_any b l u xs r w h hE.1 hl
  rw [ht] at X
  have HX := Lib.hid X
  have HCB := Lib.hid (takeL_rune ht)
  have HE := Lib.hid (fun w1 (hg : w.grownBy w1 (some b)) => hE.grown hg hb2)
  have H0 := Lib.hid (show At b l u xs w r w from ⟨h, grown_refl _ _⟩)
  obtain ⟨k, hk, hd, hb⟩ := h
  have c1 := hb.cell 1
  have HK := Lib.hid hk
  clear hk hd hb ht X hE
  subst hc
  subst hu
  have HPP := Lib.hid hp
  clear hp
  go_enter Tryd.func45, Tryd.ntmps45
  go_wp2_with fail
  refine HX.out.mono ?_
  rintro e w1 ⟨hg, rfl, hr⟩
  have H1 := Lib.hid (H0.out.next hr hg)
  clear hr hg HX c1
  obtain ⟨k_, hk_, hd_, hb_⟩ := H1.out.rd
  have c1 := hb_.cell 1
  have c2 := hb_.cell 2
  have f1 := hb_.frozen 1
  clear hk_ hd_ hb_
  go_wp2_with fail
  refine (is_yes H1.out.rd hl HPP.out).mono ?_
  rintro e w2 ⟨rfl, hr, hg⟩
  obtain ⟨q, hq⟩ : ∃ q, q = r1.drop 1 := ⟨_, rfl⟩
  replace hr : Rd b l true xs q w2 := by rw [hq]; exact hr
  rw [← hq] at HRES0
  have H2 := Lib.hid (H1.out.next hr hg)
  clear hr hg hq c1 c2 f1
  go_wp2_with fail
  have X := braced_any b l true xs q w2 H2.out.rd hl
  have HY := Lib.hid X
  clear X
  rcases hx : bracedL q with f4 | ⟨v, r2⟩
  · rw [hx] at HY
    have HXX := Lib.hid hx
    clear hx
    refine HY.out.mono ?_
    rintro e w5 ⟨hg, rfl⟩
    try simp (config := { zetaDelta := true }) only [Exit.noGoto_ret, Exit.inBlock, Exit.then]
    refine ⟨rfl, ?_⟩
    rw [HRES0.out, HXX.out]
    exact ⟨grown_trans H2.out.gr hg, rfl⟩
  · rw [hx] at HY
    have HXX := Lib.hid hx
    clear hx
    refine HY.out.mono ?_
    rintro e w5 ⟨hg, rfl, hr⟩
    have H5 := Lib.hid (H2.out.next hr hg)
    clear hr hg HY
    go_wp2_with fail
    try simp (config := { zetaDelta := true }) only [Exit.noGoto_ret, Exit.inBlock, Exit.then]
    go_ret
    rw [HRES0.out, HXX.out]
    exact ⟨H5.out.gr, rfl, H5.out.rd⟩

set_option maxHeartbeats 4000000 in
theorem escape_four (b : Nat) (l : Ln) (u : Bool) (xs : List Value) (r : Ln) (w : World) (h : Rd b l u xs r w) (hl : l.length ≤ 4096) (hE : Env w) (hb2 : 2 < b) (c : Nat) (r1 : Ln) (ht : takeL r = .ok (c, r1)) (HRES0 : Hid (escapeL u r = hexesL 4 0 r1)) (hc : c = 117) (hp : u = false ∨ hasP [123] r1 = false) :
    Calls Tryd.prog 45 #[.pointer (some ⟨b, 0, none⟩)] w (Ends b l u xs w ((escapeL u r).map fun p => (.int .i64 (p.1 : Int), p.2))) := by
  have X := take_any b l u xs r w h hE.1 hl
  rw [ht] at X
  have HX := Lib.hid X
  have HCB := Lib.hid (takeL_rune ht)
  have HE := Lib.hid (fun w1 (hg : w.grownBy w1 (some b)) => hE.grown hg hb2)
  have H0 := Lib.hid (show At b l u xs w r w from ⟨h, grown_refl _ _⟩)
  obtain ⟨k, hk, hd, hb⟩ := h
  have c1 := hb.cell 1
  have HK := Lib.hid hk
  clear hk hd hb ht X hE
  subst hc
  have HPP := Lib.hid hp
  clear hp
  go_enter Tryd.func45, Tryd.ntmps45
  go_wp2_with fail
  refine HX.out.mono ?_
  rintro e w1 ⟨hg, rfl, hr⟩
  have H1 := Lib.hid (H0.out.next hr hg)
  clear hr hg HX c1
  obtain ⟨k_, hk_, hd_, hb_⟩ := H1.out.rd
  have c1 := hb_.cell 1
  have c2 := hb_.cell 2
  have f1 := hb_.frozen 1
  clear hk_ hd_ hb_
  cases u
  · go_wp2_with fail
    have X := hexes_any b l false xs r1 w1 H1.out.rd hl 4 (by decide)
    have HY := Lib.hid X
    clear X
    rcases hx : hexesL 4 0 r1 with f4 | ⟨v, r2⟩
    · rw [hx] at HY
      have HXX := Lib.hid hx
      clear hx
      refine HY.out.mono ?_
      rintro e w5 ⟨hg, rfl⟩
      try simp (config := { zetaDelta := true }) only [Exit.noGoto_ret, Exit.inBlock, Exit.then]
      refine ⟨rfl, ?_⟩
      rw [HRES0.out, HXX.out]
      exact ⟨grown_trans H1.out.gr hg, rfl⟩
    · rw [hx] at HY
      have HXX := Lib.hid hx
      clear hx
      refine HY.out.mono ?_
      rintro e w5 ⟨hg, rfl, hr⟩
      have H5 := Lib.hid (H1.out.next hr hg)
      clear hr hg HY
      go_wp2_with fail
      try simp (config := { zetaDelta := true }) only [Exit.noGoto_ret, Exit.inBlock, Exit.then]
      go_ret
      rw [HRES0.out, HXX.out]
      exact ⟨H5.out.gr, rfl, H5.out.rd⟩
  · have hp : hasP [123] r1 = false := by
      rcases HPP.out with h | h
      · cases h
      · exact h
    go_wp2_with fail
    refine (is_no H1.out.rd hl hp).mono ?_
    rintro e w2 ⟨rfl, hr, hg⟩
    have H2 := Lib.hid (H1.out.next hr hg)
    clear hr hg hp c1 c2 f1
    go_wp2_with fail
    have X := hexes_any b l true xs r1 w2 H2.out.rd hl 4 (by decide)
    have HY := Lib.hid X
    clear X
    rcases hx : hexesL 4 0 r1 with f4 | ⟨v, r2⟩
    · rw [hx] at HY
      have HXX := Lib.hid hx
      clear hx
      refine HY.out.mono ?_
      rintro e w5 ⟨hg, rfl⟩
      try simp (config := { zetaDelta := true }) only [Exit.noGoto_ret, Exit.inBlock, Exit.then]
      refine ⟨rfl, ?_⟩
      rw [HRES0.out, HXX.out]
      exact ⟨grown_trans H2.out.gr hg, rfl⟩
    · rw [hx] at HY
      have HXX := Lib.hid hx
      clear hx
      refine HY.out.mono ?_
      rintro e w5 ⟨hg, rfl, hr⟩
      have H5 := Lib.hid (H2.out.next hr hg)
      clear hr hg HY
      go_wp2_with fail
      try simp (config := { zetaDelta := true }) only [Exit.noGoto_ret, Exit.inBlock, Exit.then]
      go_ret
      rw [HRES0.out, HXX.out]
      exact ⟨H5.out.gr, rfl, H5.out.rd⟩

set_option maxHeartbeats 4000000 in
theorem escape_sim102 (b : Nat) (l : Ln) (u : Bool) (xs : List Value) (r : Ln) (w : World) (h : Rd b l u xs r w) (hl : l.length ≤ 4096) (hE : Env w) (hb2 : 2 < b) (c : Nat) (r1 : Ln) (ht : takeL r = .ok (c, r1)) (HRES0 : Hid (escapeL u r = .ok (12, r1))) (hc : c = 102) :
    Calls Tryd.prog 45 #[.pointer (some ⟨b, 0, none⟩)] w (Ends b l u xs w ((escapeL u r).map fun p => (.int .i64 (p.1 : Int), p.2))) := by
  have X := take_any b l u xs r w h hE.1 hl
  rw [ht] at X
  have HX := Lib.hid X
  have HCB := Lib.hid (takeL_rune ht)
  have HE := Lib.hid (fun w1 (hg : w.grownBy w1 (some b)) => hE.grown hg hb2)
  have H0 := Lib.hid (show At b l u xs w r w from ⟨h, grown_refl _ _⟩)
  obtain ⟨k, hk, hd, hb⟩ := h
  have c1 := hb.cell 1
  have HK := Lib.hid hk
  clear hk hd hb ht X hE
  subst hc
  go_enter Tryd.func45, Tryd.ntmps45
  go_wp2_with fail
  refine HX.out.mono ?_
  rintro e w1 ⟨hg, rfl, hr⟩
  have H1 := Lib.hid (H0.out.next hr hg)
  clear hr hg HX c1
  obtain ⟨k_, hk_, hd_, hb_⟩ := H1.out.rd
  have c1 := hb_.cell 1
  have c2 := hb_.cell 2
  have f1 := hb_.frozen 1
  clear hk_ hd_ hb_
  have hix : ∀ W, (Instr.index 71 (.agg #[.int .i64 12, .int .i64 10, .int .i64 13, .int .i64 9, .int .i64 11]) (.int .i64 0)).run Tryd.prog W = .ok (.int .i64 12) W := fun _ => by kernel_rfl
  go_wp2_with (go_at_call 16; refine (index_v sim8 102 0 (by decide) _).mono ?_; rintro e w2 ⟨rfl, rfl⟩)
  try simp (config := { zetaDelta := true }) only [Exit.noGoto_ret, Exit.inBlock, Exit.then]
  go_ret
  rw [HRES0.out]
  exact ⟨H1.out.gr, rfl, H1.out.rd⟩

set_option maxHeartbeats 4000000 in
theorem escape_sim110 (b : Nat) (l : Ln) (u : Bool) (xs : List Value) (r : Ln) (w : World) (h : Rd b l u xs r w) (hl : l.length ≤ 4096) (hE : Env w) (hb2 : 2 < b) (c : Nat) (r1 : Ln) (ht : takeL r = .ok (c, r1)) (HRES0 : Hid (escapeL u r = .ok (10, r1))) (hc : c = 110) :
    Calls Tryd.prog 45 #[.pointer (some ⟨b, 0, none⟩)] w (Ends b l u xs w ((escapeL u r).map fun p => (.int .i64 (p.1 : Int), p.2))) := by
  have X := take_any b l u xs r w h hE.1 hl
  rw [ht] at X
  have HX := Lib.hid X
  have HCB := Lib.hid (takeL_rune ht)
  have HE := Lib.hid (fun w1 (hg : w.grownBy w1 (some b)) => hE.grown hg hb2)
  have H0 := Lib.hid (show At b l u xs w r w from ⟨h, grown_refl _ _⟩)
  obtain ⟨k, hk, hd, hb⟩ := h
  have c1 := hb.cell 1
  have HK := Lib.hid hk
  clear hk hd hb ht X hE
  subst hc
  go_enter Tryd.func45, Tryd.ntmps45
  go_wp2_with fail
  refine HX.out.mono ?_
  rintro e w1 ⟨hg, rfl, hr⟩
  have H1 := Lib.hid (H0.out.next hr hg)
  clear hr hg HX c1
  obtain ⟨k_, hk_, hd_, hb_⟩ := H1.out.rd
  have c1 := hb_.cell 1
  have c2 := hb_.cell 2
  have f1 := hb_.frozen 1
  clear hk_ hd_ hb_
  have hix : ∀ W, (Instr.index 71 (.agg #[.int .i64 12, .int .i64 10, .int .i64 13, .int .i64 9, .int .i64 11]) (.int .i64 1)).run Tryd.prog W = .ok (.int .i64 10) W := fun _ => by kernel_rfl
  go_wp2_with (go_at_call 16; refine (index_v sim8 110 1 (by decide) _).mono ?_; rintro e w2 ⟨rfl, rfl⟩)
  try simp (config := { zetaDelta := true }) only [Exit.noGoto_ret, Exit.inBlock, Exit.then]
  go_ret
  rw [HRES0.out]
  exact ⟨H1.out.gr, rfl, H1.out.rd⟩

set_option maxHeartbeats 4000000 in
theorem escape_sim114 (b : Nat) (l : Ln) (u : Bool) (xs : List Value) (r : Ln) (w : World) (h : Rd b l u xs r w) (hl : l.length ≤ 4096) (hE : Env w) (hb2 : 2 < b) (c : Nat) (r1 : Ln) (ht : takeL r = .ok (c, r1)) (HRES0 : Hid (escapeL u r = .ok (13, r1))) (hc : c = 114) :
    Calls Tryd.prog 45 #[.pointer (some ⟨b, 0, none⟩)] w (Ends b l u xs w ((escapeL u r).map fun p => (.int .i64 (p.1 : Int), p.2))) := by
  have X := take_any b l u xs r w h hE.1 hl
  rw [ht] at X
  have HX := Lib.hid X
  have HCB := Lib.hid (takeL_rune ht)
  have HE := Lib.hid (fun w1 (hg : w.grownBy w1 (some b)) => hE.grown hg hb2)
  have H0 := Lib.hid (show At b l u xs w r w from ⟨h, grown_refl _ _⟩)
  obtain ⟨k, hk, hd, hb⟩ := h
  have c1 := hb.cell 1
  have HK := Lib.hid hk
  clear hk hd hb ht X hE
  subst hc
  go_enter Tryd.func45, Tryd.ntmps45
  go_wp2_with fail
  refine HX.out.mono ?_
  rintro e w1 ⟨hg, rfl, hr⟩
  have H1 := Lib.hid (H0.out.next hr hg)
  clear hr hg HX c1
  obtain ⟨k_, hk_, hd_, hb_⟩ := H1.out.rd
  have c1 := hb_.cell 1
  have c2 := hb_.cell 2
  have f1 := hb_.frozen 1
  clear hk_ hd_ hb_
  have hix : ∀ W, (Instr.index 71 (.agg #[.int .i64 12, .int .i64 10, .int .i64 13, .int .i64 9, .int .i64 11]) (.int .i64 2)).run Tryd.prog W = .ok (.int .i64 13) W := fun _ => by kernel_rfl
  go_wp2_with (go_at_call 16; refine (index_v sim8 114 2 (by decide) _).mono ?_; rintro e w2 ⟨rfl, rfl⟩)
  try simp (config := { zetaDelta := true }) only [Exit.noGoto_ret, Exit.inBlock, Exit.then]
  go_ret
  rw [HRES0.out]
  exact ⟨H1.out.gr, rfl, H1.out.rd⟩

set_option maxHeartbeats 4000000 in
theorem escape_sim116 (b : Nat) (l : Ln) (u : Bool) (xs : List Value) (r : Ln) (w : World) (h : Rd b l u xs r w) (hl : l.length ≤ 4096) (hE : Env w) (hb2 : 2 < b) (c : Nat) (r1 : Ln) (ht : takeL r = .ok (c, r1)) (HRES0 : Hid (escapeL u r = .ok (9, r1))) (hc : c = 116) :
    Calls Tryd.prog 45 #[.pointer (some ⟨b, 0, none⟩)] w (Ends b l u xs w ((escapeL u r).map fun p => (.int .i64 (p.1 : Int), p.2))) := by
  have X := take_any b l u xs r w h hE.1 hl
  rw [ht] at X
  have HX := Lib.hid X
  have HCB := Lib.hid (takeL_rune ht)
  have HE := Lib.hid (fun w1 (hg : w.grownBy w1 (some b)) => hE.grown hg hb2)
  have H0 := Lib.hid (show At b l u xs w r w from ⟨h, grown_refl _ _⟩)
  obtain ⟨k, hk, hd, hb⟩ := h
  have c1 := hb.cell 1
  have HK := Lib.hid hk
  clear hk hd hb ht X hE
  subst hc
  go_enter Tryd.func45, Tryd.ntmps45
  go_wp2_with fail
  refine HX.out.mono ?_
  rintro e w1 ⟨hg, rfl, hr⟩
  have H1 := Lib.hid (H0.out.next hr hg)
  clear hr hg HX c1
  obtain ⟨k_, hk_, hd_, hb_⟩ := H1.out.rd
  have c1 := hb_.cell 1
  have c2 := hb_.cell 2
  have f1 := hb_.frozen 1
  clear hk_ hd_ hb_
  have hix : ∀ W, (Instr.index 71 (.agg #[.int .i64 12, .int .i64 10, .int .i64 13, .int .i64 9, .int .i64 11]) (.int .i64 3)).run Tryd.prog W = .ok (.int .i64 9) W := fun _ => by kernel_rfl
  go_wp2_with (go_at_call 16; refine (index_v sim8 116 3 (by decide) _).mono ?_; rintro e w2 ⟨rfl, rfl⟩)
  try simp (config := { zetaDelta := true }) only [Exit.noGoto_ret, Exit.inBlock, Exit.then]
  go_ret
  rw [HRES0.out]
  exact ⟨H1.out.gr, rfl, H1.out.rd⟩

set_option maxHeartbeats 4000000 in
theorem escape_sim118 (b : Nat) (l : Ln) (u : Bool) (xs : List Value) (r : Ln) (w : World) (h : Rd b l u xs r w) (hl : l.length ≤ 4096) (hE : Env w) (hb2 : 2 < b) (c : Nat) (r1 : Ln) (ht : takeL r = .ok (c, r1)) (HRES0 : Hid (escapeL u r = .ok (11, r1))) (hc : c = 118) :
    Calls Tryd.prog 45 #[.pointer (some ⟨b, 0, none⟩)] w (Ends b l u xs w ((escapeL u r).map fun p => (.int .i64 (p.1 : Int), p.2))) := by
  have X := take_any b l u xs r w h hE.1 hl
  rw [ht] at X
  have HX := Lib.hid X
  have HCB := Lib.hid (takeL_rune ht)
  have HE := Lib.hid (fun w1 (hg : w.grownBy w1 (some b)) => hE.grown hg hb2)
  have H0 := Lib.hid (show At b l u xs w r w from ⟨h, grown_refl _ _⟩)
  obtain ⟨k, hk, hd, hb⟩ := h
  have c1 := hb.cell 1
  have HK := Lib.hid hk
  clear hk hd hb ht X hE
  subst hc
  go_enter Tryd.func45, Tryd.ntmps45
  go_wp2_with fail
  refine HX.out.mono ?_
  rintro e w1 ⟨hg, rfl, hr⟩
  have H1 := Lib.hid (H0.out.next hr hg)
  clear hr hg HX c1
  obtain ⟨k_, hk_, hd_, hb_⟩ := H1.out.rd
  have c1 := hb_.cell 1
  have c2 := hb_.cell 2
  have f1 := hb_.frozen 1
  clear hk_ hd_ hb_
  have hix : ∀ W, (Instr.index 71 (.agg #[.int .i64 12, .int .i64 10, .int .i64 13, .int .i64 9, .int .i64 11]) (.int .i64 4)).run Tryd.prog W = .ok (.int .i64 11) W := fun _ => by kernel_rfl
  go_wp2_with (go_at_call 16; refine (index_v sim8 118 4 (by decide) _).mono ?_; rintro e w2 ⟨rfl, rfl⟩)
  try simp (config := { zetaDelta := true }) only [Exit.noGoto_ret, Exit.inBlock, Exit.then]
  go_ret
  rw [HRES0.out]
  exact ⟨H1.out.gr, rfl, H1.out.rd⟩

set_option maxHeartbeats 4000000 in
theorem escape_uhigh (b : Nat) (l : Ln) (u : Bool) (xs : List Value) (r : Ln) (w : World) (h : Rd b l u xs r w) (hl : l.length ≤ 4096) (hE : Env w) (hb2 : 2 < b) (c : Nat) (r1 : Ln) (ht : takeL r = .ok (c, r1)) (HRES0 : Hid (escapeL u r = .error (form r))) (n1 : c ≠ 99) (n2 : c ≠ 48) (n3 : c ≠ 120) (n4 : c ≠ 117) (n5 : simpleL c = none) (hu : u = true) (lo : ¬ c < 128) :
    Calls Tryd.prog 45 #[.pointer (some ⟨b, 0, none⟩)] w (Ends b l u xs w ((escapeL u r).map fun p => (.int .i64 (p.1 : Int), p.2))) := by
  have X := take_any b l u xs r w h hE.1 hl
  rw [ht] at X
  have HX := Lib.hid X
  have HCB := Lib.hid (takeL_rune ht)
  have HE := Lib.hid (fun w1 (hg : w.grownBy w1 (some b)) => hE.grown hg hb2)
  have H0 := Lib.hid (show At b l u xs w r w from ⟨h, grown_refl _ _⟩)
  obtain ⟨k, hk, hd, hb⟩ := h
  have c1 := hb.cell 1
  have HK := Lib.hid hk
  clear hk hd hb ht X hE
  have e99 : ((c : Int) == 99) = false := by simp; omega
  have e48 : ((c : Int) == 48) = false := by simp; omega
  have e120 : ((c : Int) == 120) = false := by simp; omega
  have e117 : ((c : Int) == 117) = false := by simp; omega
  have HN5 := Lib.hid n5
  clear n1 n2 n3 n4 n5
  subst hu
  have lo' : ¬ ((c : Int) < 128) := by omega
  have lo2 : (128 : Int) ≤ (c : Int) := by omega
  clear lo
  go_enter Tryd.func45, Tryd.ntmps45
  go_wp2_with fail
  refine HX.out.mono ?_
  rintro e w1 ⟨hg, rfl, hr⟩
  have H1 := Lib.hid (H0.out.next hr hg)
  clear hr hg HX c1
  obtain ⟨k_, hk_, hd_, hb_⟩ := H1.out.rd
  have c1 := hb_.cell 1
  have c2 := hb_.cell 2
  have f1 := hb_.frozen 1
  clear hk_ hd_ hb_
  go_wp2_with fail
  refine (fail_any _ _ _).mono ?_
  rintro e w9 ⟨he, rfl⟩
  replace he := he.trans (thrown_at 400 HK.out)
  subst he
  try simp (config := { zetaDelta := true }) only [Exit.noGoto_ret, Exit.inBlock, Exit.then]
  refine ⟨rfl, ?_⟩
  rw [HRES0.out]
  exact ⟨H1.out.gr, rfl⟩

set_option maxHeartbeats 4000000 in
theorem escape_ulow (b : Nat) (l : Ln) (u : Bool) (xs : List Value) (r : Ln) (w : World) (h : Rd b l u xs r w) (hl : l.length ≤ 4096) (hE : Env w) (hb2 : 2 < b) (c : Nat) (r1 : Ln) (ht : takeL r = .ok (c, r1)) (HRES0 : Hid (escapeL u r = .error (form r))) (n1 : c ≠ 99) (n2 : c ≠ 48) (n3 : c ≠ 120) (n4 : c ≠ 117) (n5 : simpleL c = none) (hu : u = true) (lo : c < 128) (hs : syntaxChars.contains c = false) :
    Calls Tryd.prog 45 #[.pointer (some ⟨b, 0, none⟩)] w (Ends b l u xs w ((escapeL u r).map fun p => (.int .i64 (p.1 : Int), p.2))) := by
  have X := take_any b l u xs r w h hE.1 hl
  rw [ht] at X
  have HX := Lib.hid X
  have HCB := Lib.hid (takeL_rune ht)
  have HE := Lib.hid (fun w1 (hg : w.grownBy w1 (some b)) => hE.grown hg hb2)
  have H0 := Lib.hid (show At b l u xs w r w from ⟨h, grown_refl _ _⟩)
  obtain ⟨k, hk, hd, hb⟩ := h
  have c1 := hb.cell 1
  have HK := Lib.hid hk
  clear hk hd hb ht X hE
  have e99 : ((c : Int) == 99) = false := by simp; omega
  have e48 : ((c : Int) == 48) = false := by simp; omega
  have e120 : ((c : Int) == 120) = false := by simp; omega
  have e117 : ((c : Int) == 117) = false := by simp; omega
  have HN5 := Lib.hid n5
  clear n1 n2 n3 n4 n5
  subst hu
  have HLO := Lib.hid lo
  have lo' : (c : Int) < 128 := by omega
  have hw8 : IntKind.u8.wrap (c : Int) = (c : Int) := by rw [IntKind.wrap_u8]; omega
  obtain ⟨i1, hi1, hI1⟩ := index_c sim8 c
  rw [sim_bits lo, HN5.out] at hi1
  have hi1' : decide (0 ≤ i1) = false := hi1
  have HI1 := Lib.hid hI1
  clear hI1 hi1 lo
  obtain ⟨i2, hi2, hI2⟩ := index_c syn8 c
  rw [syn_bits HLO.out, hs] at hi2
  have hi3 : decide (i2 < 0) = !decide (0 ≤ i2) := by by_cases h : i2 < 0 <;> simp [h] <;> omega
  rw [hi2] at hi3
  have HI2 := Lib.hid hI2
  clear hI2 hs
  go_enter Tryd.func45, Tryd.ntmps45
  go_wp2_with fail
  refine HX.out.mono ?_
  rintro e w1 ⟨hg, rfl, hr⟩
  have H1 := Lib.hid (H0.out.next hr hg)
  clear hr hg HX c1
  obtain ⟨k_, hk_, hd_, hb_⟩ := H1.out.rd
  have c1 := hb_.cell 1
  have c2 := hb_.cell 2
  have f1 := hb_.frozen 1
  clear hk_ hd_ hb_
  go_wp2_with (go_at_call 16; refine (HI1.out _).mono ?_; rintro e w2 ⟨rfl, rfl⟩)
  refine (HI2.out _).mono ?_
  rintro e w3 ⟨rfl, rfl⟩
  go_wp2_with fail
  refine (fail_any _ _ _).mono ?_
  rintro e w9 ⟨he, rfl⟩
  replace he := he.trans (thrown_at 400 HK.out)
  subst he
  try simp (config := { zetaDelta := true }) only [Exit.noGoto_ret, Exit.inBlock, Exit.then]
  refine ⟨rfl, ?_⟩
  rw [HRES0.out]
  exact ⟨H1.out.gr, rfl⟩

set_option maxHeartbeats 4000000 in
theorem escape_usyn (b : Nat) (l : Ln) (u : Bool) (xs : List Value) (r : Ln) (w : World) (h : Rd b l u xs r w) (hl : l.length ≤ 4096) (hE : Env w) (hb2 : 2 < b) (c : Nat) (r1 : Ln) (ht : takeL r = .ok (c, r1)) (HRES0 : Hid (escapeL u r = .ok (c, r1))) (n1 : c ≠ 99) (n2 : c ≠ 48) (n3 : c ≠ 120) (n4 : c ≠ 117) (n5 : simpleL c = none) (hu : u = true) (lo : c < 128) (hs : syntaxChars.contains c = true) :
    Calls Tryd.prog 45 #[.pointer (some ⟨b, 0, none⟩)] w (Ends b l u xs w ((escapeL u r).map fun p => (.int .i64 (p.1 : Int), p.2))) := by
  have X := take_any b l u xs r w h hE.1 hl
  rw [ht] at X
  have HX := Lib.hid X
  have HCB := Lib.hid (takeL_rune ht)
  have HE := Lib.hid (fun w1 (hg : w.grownBy w1 (some b)) => hE.grown hg hb2)
  have H0 := Lib.hid (show At b l u xs w r w from ⟨h, grown_refl _ _⟩)
  obtain ⟨k, hk, hd, hb⟩ := h
  have c1 := hb.cell 1
  have HK := Lib.hid hk
  clear hk hd hb ht X hE
  have e99 : ((c : Int) == 99) = false := by simp; omega
  have e48 : ((c : Int) == 48) = false := by simp; omega
  have e120 : ((c : Int) == 120) = false := by simp; omega
  have e117 : ((c : Int) == 117) = false := by simp; omega
  have HN5 := Lib.hid n5
  clear n1 n2 n3 n4 n5
  subst hu
  have HLO := Lib.hid lo
  have lo' : (c : Int) < 128 := by omega
  have hw8 : IntKind.u8.wrap (c : Int) = (c : Int) := by rw [IntKind.wrap_u8]; omega
  obtain ⟨i1, hi1, hI1⟩ := index_c sim8 c
  rw [sim_bits lo, HN5.out] at hi1
  have hi1' : decide (0 ≤ i1) = false := hi1
  have HI1 := Lib.hid hI1
  clear hI1 hi1 lo
  obtain ⟨i2, hi2, hI2⟩ := index_c syn8 c
  rw [syn_bits HLO.out, hs] at hi2
  have hi3 : decide (i2 < 0) = !decide (0 ≤ i2) := by by_cases h : i2 < 0 <;> simp [h] <;> omega
  rw [hi2] at hi3
  have HI2 := Lib.hid hI2
  clear hI2 hs
  go_enter Tryd.func45, Tryd.ntmps45
  go_wp2_with fail
  refine HX.out.mono ?_
  rintro e w1 ⟨hg, rfl, hr⟩
  have H1 := Lib.hid (H0.out.next hr hg)
  clear hr hg HX c1
  obtain ⟨k_, hk_, hd_, hb_⟩ := H1.out.rd
  have c1 := hb_.cell 1
  have c2 := hb_.cell 2
  have f1 := hb_.frozen 1
  clear hk_ hd_ hb_
  go_wp2_with (go_at_call 16; refine (HI1.out _).mono ?_; rintro e w2 ⟨rfl, rfl⟩)
  refine (HI2.out _).mono ?_
  rintro e w3 ⟨rfl, rfl⟩
  go_wp2_with fail
  try simp (config := { zetaDelta := true }) only [Exit.noGoto_ret, Exit.inBlock, Exit.then]
  go_ret
  rw [HRES0.out]
  exact ⟨H1.out.gr, rfl, H1.out.rd⟩

set_option maxHeartbeats 4000000 in
theorem escape_partlow (b : Nat) (l : Ln) (u : Bool) (xs : List Value) (r : Ln) (w : World) (h : Rd b l u xs r w) (hl : l.length ≤ 4096) (hE : Env w) (hb2 : 2 < b) (c : Nat) (r1 : Ln) (ht : takeL r = .ok (c, r1)) (HRES0 : Hid (escapeL u r = .error (form r))) (n1 : c ≠ 99) (n2 : c ≠ 48) (n3 : c ≠ 120) (n4 : c ≠ 117) (n5 : simpleL c = none) (hu : u = false) (lo : c < 128) (hp : partB (c : Int) = true) :
    Calls Tryd.prog 45 #[.pointer (some ⟨b, 0, none⟩)] w (Ends b l u xs w ((escapeL u r).map fun p => (.int .i64 (p.1 : Int), p.2))) := by
  have X := take_any b l u xs r w h hE.1 hl
  rw [ht] at X
  have HX := Lib.hid X
  have HCB := Lib.hid (takeL_rune ht)
  have HE := Lib.hid (fun w1 (hg : w.grownBy w1 (some b)) => hE.grown hg hb2)
  have H0 := Lib.hid (show At b l u xs w r w from ⟨h, grown_refl _ _⟩)
  obtain ⟨k, hk, hd, hb⟩ := h
  have c1 := hb.cell 1
  have HK := Lib.hid hk
  clear hk hd hb ht X hE
  have e99 : ((c : Int) == 99) = false := by simp; omega
  have e48 : ((c : Int) == 48) = false := by simp; omega
  have e120 : ((c : Int) == 120) = false := by simp; omega
  have e117 : ((c : Int) == 117) = false := by simp; omega
  have HN5 := Lib.hid n5
  clear n1 n2 n3 n4 n5
  subst hu
  have HLO := Lib.hid lo
  have lo' : (c : Int) < 128 := by omega
  have hw8 : IntKind.u8.wrap (c : Int) = (c : Int) := by rw [IntKind.wrap_u8]; omega
  obtain ⟨i1, hi1, hI1⟩ := index_c sim8 c
  rw [sim_bits lo, HN5.out] at hi1
  have hi1' : decide (0 ≤ i1) = false := hi1
  have HI1 := Lib.hid hI1
  clear hI1 hi1 lo
  have HPT := Lib.hid (part_any (c : Int))
  rw [hp] at HPT
  clear hp
  go_enter Tryd.func45, Tryd.ntmps45
  go_wp2_with fail
  refine HX.out.mono ?_
  rintro e w1 ⟨hg, rfl, hr⟩
  have H1 := Lib.hid (H0.out.next hr hg)
  clear hr hg HX c1
  obtain ⟨k_, hk_, hd_, hb_⟩ := H1.out.rd
  have c1 := hb_.cell 1
  have c2 := hb_.cell 2
  have f1 := hb_.frozen 1
  clear hk_ hd_ hb_
  go_wp2_with (go_at_call 16; refine (HI1.out _).mono ?_; rintro e w2 ⟨rfl, rfl⟩)
  refine (HPT.out _).mono ?_
  rintro e w4 ⟨rfl, hb4⟩
  go_wp2_with fail
  refine (fail_any _ _ _).mono ?_
  rintro e w9 ⟨he, rfl⟩
  replace he := he.trans (thrown_at 400 HK.out)
  subst he
  try simp (config := { zetaDelta := true }) only [Exit.noGoto_ret, Exit.inBlock, Exit.then]
  refine ⟨rfl, ?_⟩
  rw [HRES0.out]
  exact ⟨grown_trans H1.out.gr (grown_of hb4 _), rfl⟩

set_option maxHeartbeats 4000000 in
theorem escape_idlelow (b : Nat) (l : Ln) (u : Bool) (xs : List Value) (r : Ln) (w : World) (h : Rd b l u xs r w) (hl : l.length ≤ 4096) (hE : Env w) (hb2 : 2 < b) (c : Nat) (r1 : Ln) (ht : takeL r = .ok (c, r1)) (HRES0 : Hid (escapeL u r = .ok (c, r1))) (n1 : c ≠ 99) (n2 : c ≠ 48) (n3 : c ≠ 120) (n4 : c ≠ 117) (n5 : simpleL c = none) (hu : u = false) (lo : c < 128) (hp : partB (c : Int) = false) :
    Calls Tryd.prog 45 #[.pointer (some ⟨b, 0, none⟩)] w (Ends b l u xs w ((escapeL u r).map fun p => (.int .i64 (p.1 : Int), p.2))) := by
  have X := take_any b l u xs r w h hE.1 hl
  rw [ht] at X
  have HX := Lib.hid X
  have HCB := Lib.hid (takeL_rune ht)
  have HE := Lib.hid (fun w1 (hg : w.grownBy w1 (some b)) => hE.grown hg hb2)
  have H0 := Lib.hid (show At b l u xs w r w from ⟨h, grown_refl _ _⟩)
  obtain ⟨k, hk, hd, hb⟩ := h
  have c1 := hb.cell 1
  have HK := Lib.hid hk
  clear hk hd hb ht X hE
  have e99 : ((c : Int) == 99) = false := by simp; omega
  have e48 : ((c : Int) == 48) = false := by simp; omega
  have e120 : ((c : Int) == 120) = false := by simp; omega
  have e117 : ((c : Int) == 117) = false := by simp; omega
  have HN5 := Lib.hid n5
  clear n1 n2 n3 n4 n5
  subst hu
  have HLO := Lib.hid lo
  have lo' : (c : Int) < 128 := by omega
  have hw8 : IntKind.u8.wrap (c : Int) = (c : Int) := by rw [IntKind.wrap_u8]; omega
  obtain ⟨i1, hi1, hI1⟩ := index_c sim8 c
  rw [sim_bits lo, HN5.out] at hi1
  have hi1' : decide (0 ≤ i1) = false := hi1
  have HI1 := Lib.hid hI1
  clear hI1 hi1 lo
  have HPT := Lib.hid (part_any (c : Int))
  rw [hp] at HPT
  clear hp
  go_enter Tryd.func45, Tryd.ntmps45
  go_wp2_with fail
  refine HX.out.mono ?_
  rintro e w1 ⟨hg, rfl, hr⟩
  have H1 := Lib.hid (H0.out.next hr hg)
  clear hr hg HX c1
  obtain ⟨k_, hk_, hd_, hb_⟩ := H1.out.rd
  have c1 := hb_.cell 1
  have c2 := hb_.cell 2
  have f1 := hb_.frozen 1
  clear hk_ hd_ hb_
  go_wp2_with (go_at_call 16; refine (HI1.out _).mono ?_; rintro e w2 ⟨rfl, rfl⟩)
  refine (HPT.out _).mono ?_
  rintro e w4 ⟨rfl, hb4⟩
  have H4 := Lib.hid (H1.out.next (H1.out.rd.grown hb4) (grown_of hb4 _))
  clear hb4
  go_wp2_with fail
  try simp (config := { zetaDelta := true }) only [Exit.noGoto_ret, Exit.inBlock, Exit.then]
  go_ret
  rw [HRES0.out]
  exact ⟨H4.out.gr, rfl, H4.out.rd⟩

set_option maxHeartbeats 4000000 in
theorem escape_parthigh (b : Nat) (l : Ln) (u : Bool) (xs : List Value) (r : Ln) (w : World) (h : Rd b l u xs r w) (hl : l.length ≤ 4096) (hE : Env w) (hb2 : 2 < b) (c : Nat) (r1 : Ln) (ht : takeL r = .ok (c, r1)) (HRES0 : Hid (escapeL u r = .error (form r))) (n1 : c ≠ 99) (n2 : c ≠ 48) (n3 : c ≠ 120) (n4 : c ≠ 117) (n5 : simpleL c = none) (hu : u = false) (lo : ¬ c < 128) (hp : partB (c : Int) = true) :
    Calls Tryd.prog 45 #[.pointer (some ⟨b, 0, none⟩)] w (Ends b l u xs w ((escapeL u r).map fun p => (.int .i64 (p.1 : Int), p.2))) := by
  have X := take_any b l u xs r w h hE.1 hl
  rw [ht] at X
  have HX := Lib.hid X
  have HCB := Lib.hid (takeL_rune ht)
  have HE := Lib.hid (fun w1 (hg : w.grownBy w1 (some b)) => hE.grown hg hb2)
  have H0 := Lib.hid (show At b l u xs w r w from ⟨h, grown_refl _ _⟩)
  obtain ⟨k, hk, hd, hb⟩ := h
  have c1 := hb.cell 1
  have HK := Lib.hid hk
  clear hk hd hb ht X hE
  have e99 : ((c : Int) == 99) = false := by simp; omega
  have e48 : ((c : Int) == 48) = false := by simp; omega
  have e120 : ((c : Int) == 120) = false := by simp; omega
  have e117 : ((c : Int) == 117) = false := by simp; omega
  have HN5 := Lib.hid n5
  clear n1 n2 n3 n4 n5
  subst hu
  have lo' : ¬ ((c : Int) < 128) := by omega
  have lo2 : (128 : Int) ≤ (c : Int) := by omega
  clear lo
  have HPT := Lib.hid (part_any (c : Int))
  rw [hp] at HPT
  clear hp
  go_enter Tryd.func45, Tryd.ntmps45
  go_wp2_with fail
  refine HX.out.mono ?_
  rintro e w1 ⟨hg, rfl, hr⟩
  have H1 := Lib.hid (H0.out.next hr hg)
  clear hr hg HX c1
  obtain ⟨k_, hk_, hd_, hb_⟩ := H1.out.rd
  have c1 := hb_.cell 1
  have c2 := hb_.cell 2
  have f1 := hb_.frozen 1
  clear hk_ hd_ hb_
  go_wp2_with fail
  refine (HPT.out _).mono ?_
  rintro e w4 ⟨rfl, hb4⟩
  go_wp2_with fail
  refine (fail_any _ _ _).mono ?_
  rintro e w9 ⟨he, rfl⟩
  replace he := he.trans (thrown_at 400 HK.out)
  subst he
  try simp (config := { zetaDelta := true }) only [Exit.noGoto_ret, Exit.inBlock, Exit.then]
  refine ⟨rfl, ?_⟩
  rw [HRES0.out]
  exact ⟨grown_trans H1.out.gr (grown_of hb4 _), rfl⟩

set_option maxHeartbeats 4000000 in
theorem escape_idlehigh (b : Nat) (l : Ln) (u : Bool) (xs : List Value) (r : Ln) (w : World) (h : Rd b l u xs r w) (hl : l.length ≤ 4096) (hE : Env w) (hb2 : 2 < b) (c : Nat) (r1 : Ln) (ht : takeL r = .ok (c, r1)) (HRES0 : Hid (escapeL u r = .ok (c, r1))) (n1 : c ≠ 99) (n2 : c ≠ 48) (n3 : c ≠ 120) (n4 : c ≠ 117) (n5 : simpleL c = none) (hu : u = false) (lo : ¬ c < 128) (hp : partB (c : Int) = false) :
    Calls Tryd.prog 45 #[.pointer (some ⟨b, 0, none⟩)] w (Ends b l u xs w ((escapeL u r).map fun p => (.int .i64 (p.1 : Int), p.2))) := by
  have X := take_any b l u xs r w h hE.1 hl
  rw [ht] at X
  have HX := Lib.hid X
  have HCB := Lib.hid (takeL_rune ht)
  have HE := Lib.hid (fun w1 (hg : w.grownBy w1 (some b)) => hE.grown hg hb2)
  have H0 := Lib.hid (show At b l u xs w r w from ⟨h, grown_refl _ _⟩)
  obtain ⟨k, hk, hd, hb⟩ := h
  have c1 := hb.cell 1
  have HK := Lib.hid hk
  clear hk hd hb ht X hE
  have e99 : ((c : Int) == 99) = false := by simp; omega
  have e48 : ((c : Int) == 48) = false := by simp; omega
  have e120 : ((c : Int) == 120) = false := by simp; omega
  have e117 : ((c : Int) == 117) = false := by simp; omega
  have HN5 := Lib.hid n5
  clear n1 n2 n3 n4 n5
  subst hu
  have lo' : ¬ ((c : Int) < 128) := by omega
  have lo2 : (128 : Int) ≤ (c : Int) := by omega
  clear lo
  have HPT := Lib.hid (part_any (c : Int))
  rw [hp] at HPT
  clear hp
  go_enter Tryd.func45, Tryd.ntmps45
  go_wp2_with fail
  refine HX.out.mono ?_
  rintro e w1 ⟨hg, rfl, hr⟩
  have H1 := Lib.hid (H0.out.next hr hg)
  clear hr hg HX c1
  obtain ⟨k_, hk_, hd_, hb_⟩ := H1.out.rd
  have c1 := hb_.cell 1
  have c2 := hb_.cell 2
  have f1 := hb_.frozen 1
  clear hk_ hd_ hb_
  go_wp2_with fail
  refine (HPT.out _).mono ?_
  rintro e w4 ⟨rfl, hb4⟩
  have H4 := Lib.hid (H1.out.next (H1.out.rd.grown hb4) (grown_of hb4 _))
  clear hb4
  go_wp2_with fail
  try simp (config := { zetaDelta := true }) only [Exit.noGoto_ret, Exit.inBlock, Exit.then]
  go_ret
  rw [HRES0.out]
  exact ⟨H4.out.gr, rfl, H4.out.rd⟩

set_option maxHeartbeats 4000000 in
theorem escape_any (b : Nat) (l : Ln) (u : Bool) (xs : List Value) (r : Ln) (w : World) (h : Rd b l u xs r w) (hl : l.length ≤ 4096) (hE : Env w) (hb2 : 2 < b) :
    Calls Tryd.prog 45 #[.pointer (some ⟨b, 0, none⟩)] w (Ends b l u xs w ((escapeL u r).map fun p => (.int .i64 (p.1 : Int), p.2))) := by
  rcases ht : takeL r with f4 | ⟨c, r1⟩
  · have HRES : Hid (escapeL u r = .error f4) := Lib.hid (by unfold escapeL; rw [ht]; rfl)
    have X := take_any b l u xs r w h hE.1 hl
    rw [ht] at X
    have HX := Lib.hid X
    obtain ⟨k, hk, hd, hb⟩ := h
    have c1 := hb.cell 1
    clear hk hd hb ht X hE
    go_enter Tryd.func45, Tryd.ntmps45
    go_wp2_with fail
    refine HX.out.mono ?_
    rintro e w1 ⟨hg, rfl⟩
    try simp (config := { zetaDelta := true }) only [Exit.noGoto_ret, Exit.inBlock, Exit.then]
    refine ⟨rfl, ?_⟩
    rw [HRES.out]
    exact ⟨hg, rfl⟩
  · have hs : escapeL u r = (if c = 99 then (if letterB (peekL r1) then .ok (peekL r1 % 32, r1.drop 1) else .error (form r1))
      else if c = 48 then (if digitB (peekL r1) then .error (form r1) else .ok (0, r1))
      else if c = 120 then hexesL 2 0 r1
      else if c = 117 then (if u && hasP [123] r1 then bracedL (r1.drop 1) else hexesL 4 0 r1)
      else match simpleL c with
        | some x => .ok (x, r1)
        | none => idleL u r c r1) := by unfold escapeL; rw [ht]; rfl
    by_cases n1 : c = 99
    · exact escape_ctrl b l u xs r w h hl hE hb2 c r1 ht (Lib.hid (by rw [hs, if_pos n1])) n1
    rw [if_neg n1] at hs
    by_cases n2 : c = 48
    · exact escape_zero b l u xs r w h hl hE hb2 c r1 ht (Lib.hid (by rw [hs, if_pos n2])) n2
    rw [if_neg n2] at hs
    by_cases n3 : c = 120
    · exact escape_two b l u xs r w h hl hE hb2 c r1 ht (Lib.hid (by rw [hs, if_pos n3])) n3
    rw [if_neg n3] at hs
    by_cases n4 : c = 117
    · rw [if_pos n4] at hs
      cases hu : u
      · subst hu
        exact escape_four b l false xs r w h hl hE hb2 c r1 ht (Lib.hid (by rw [hs]; rfl)) n4 (.inl rfl)
      · subst hu
        cases hp : hasP [123] r1
        · exact escape_four b l true xs r w h hl hE hb2 c r1 ht (Lib.hid (by rw [hs, hp]; rfl)) n4 (.inr hp)
        · exact escape_brace b l true xs r w h hl hE hb2 c r1 ht (Lib.hid (by rw [hs, hp]; rfl)) n4 rfl hp
    rw [if_neg n4] at hs
    by_cases s1 : c = 102
    · exact escape_sim102 b l u xs r w h hl hE hb2 c r1 ht (Lib.hid (by rw [hs, s1]; rfl)) s1
    by_cases s2 : c = 110
    · exact escape_sim110 b l u xs r w h hl hE hb2 c r1 ht (Lib.hid (by rw [hs, s2]; rfl)) s2
    by_cases s3 : c = 114
    · exact escape_sim114 b l u xs r w h hl hE hb2 c r1 ht (Lib.hid (by rw [hs, s3]; rfl)) s3
    by_cases s4 : c = 116
    · exact escape_sim116 b l u xs r w h hl hE hb2 c r1 ht (Lib.hid (by rw [hs, s4]; rfl)) s4
    by_cases s5 : c = 118
    · exact escape_sim118 b l u xs r w h hl hE hb2 c r1 ht (Lib.hid (by rw [hs, s5]; rfl)) s5
    have n5 : simpleL c = none := by unfold simpleL; rw [if_neg s1, if_neg s2, if_neg s3, if_neg s4, if_neg s5]
    rw [n5] at hs
    replace hs : escapeL u r = idleL u r c r1 := hs
    unfold idleL at hs
    cases hu : u
    · subst hu
      cases hp : partB (c : Int)
      · rw [hp] at hs
        by_cases lo : c < 128
        · exact escape_idlelow b l false xs r w h hl hE hb2 c r1 ht (Lib.hid (by rw [hs]; rfl)) n1 n2 n3 n4 n5 rfl lo hp
        · exact escape_idlehigh b l false xs r w h hl hE hb2 c r1 ht (Lib.hid (by rw [hs]; rfl)) n1 n2 n3 n4 n5 rfl lo hp
      · rw [hp] at hs
        by_cases lo : c < 128
        · exact escape_partlow b l false xs r w h hl hE hb2 c r1 ht (Lib.hid (by rw [hs]; rfl)) n1 n2 n3 n4 n5 rfl lo hp
        · exact escape_parthigh b l false xs r w h hl hE hb2 c r1 ht (Lib.hid (by rw [hs]; rfl)) n1 n2 n3 n4 n5 rfl lo hp
    · subst hu
      by_cases lo : c < 128
      · cases hc : syntaxChars.contains c
        · exact escape_ulow b l true xs r w h hl hE hb2 c r1 ht (Lib.hid (by rw [hs, hc]; simp)) n1 n2 n3 n4 n5 rfl lo hc
        · exact escape_usyn b l true xs r w h hl hE hb2 c r1 ht (Lib.hid (by rw [hs, hc]; simp; omega)) n1 n2 n3 n4 n5 rfl lo hc
      · exact escape_uhigh b l true xs r w h hl hE hb2 c r1 ht (Lib.hid (by rw [hs]; simp; intro h; omega)) n1 n2 n3 n4 n5 rfl lo
end Go.Proofs.YtnbadnmmolagfaaDoor
