/- WHAT IS PROVED: StrJoins holds for every two texts of at most 1048576 letters together: the units of two literals' parts in one literal are both ones' units. Conditions: the arguments' bulk is at most 1048576; the listed tables of the library's decoder read as its text lays them (the card ties them); the form's own reach. -/
import Derived.Test.YtcjnlbelgmcpeaaDoorLawStrUnits
import Derived.Test.YtcjnlbelgmcpeaaDoorStrJoinPlain
import Derived.Test.YtcjnlbelgmcpeaaDoorOwnG
namespace Go.Proofs.YtcjnlbelgmcpeaaDoor
open Go.RowKit Go.ChangeShapes Go.WideShapes Go.ChangeAt
open Go.ChangeMaps (open_string shut_string)
set_option maxRecDepth 100000
set_option linter.unusedVariables false
set_option linter.unusedSimpArgs false

theorem code_two (s : ByteArray) : (checkCode s = 0 ∧ ∃ ps, partsB s = .ok ps) ∨ checkCode s = 300 := by
  unfold checkCode
  cases h : partsB s with
  | ok ps => exact .inl ⟨rfl, ps, rfl⟩
  | error p => exact .inr rfl
theorem join_eq (s t : ByteArray) : (⟨#[39]⟩ ++ s ++ t ++ ⟨#[39]⟩ : ByteArray) = wrapQ 39 (s ++ t) := by
  unfold wrapQ
  rw [ByteArray.append_assoc (a := ⟨#[39]⟩)]
theorem joined_units {s t : ByteArray} {ps qs : List Pt} (hs : partsB (wrapQ 39 s) = .ok ps) (ht : partsB (wrapQ 39 t) = .ok qs)
    (c0 : 0 < t.size → ¬ (48 ≤ byt t 0 ∧ byt t 0 ≤ 57)) (c1 : 0 < s.size → 0 < t.size → byt s (s.size - 1) = 13 → byt t 0 ≠ 10) :
    ∃ rs, partsB (wrapQ 39 (s ++ t)) = .ok rs ∧ flatU rs = flatU ps ++ flatU qs :=
  ⟨_, parts_join (q := 39) (Or.inl rfl) hs ht c0 c1, by rw [flatU_app, flatU_move]⟩

set_option maxHeartbeats 16000000 in
theorem strJoins_call (s t : ByteArray) (w : World) (hs : s.size ≤ 1048576) (ht : t.size ≤ 1048576) (hT : Tabs w) :
    Calls Tryd.prog 7 #[.string s, .string t] w fun e w' => e = .returned (.bool true) ∧ Below w.heap.size w w' := by
  have HT := Lib.hid hT
  clear hT
  have HSZ := Lib.hid (wrap_size 39 s)
  have HTZ := Lib.hid (wrap_size 39 t)
  go_enter Tryd.func7, Tryd.ntmps7
  go_wp2_with fail
  refine (awake_any w HT.out).mono ?_
  rintro e w1 ⟨rfl, hw1⟩
  have HW1 := Lib.hid hw1
  clear hw1
  go_wp2_with fail
  refine (units_any (wrapQ 39 s) w1 (by rw [HSZ.out]; omega) (HT.out.below HW1.out)).mono ?_
  rintro e w2 ⟨hu1, hw2⟩
  obtain ⟨v1, us1, rfl, ho1, hl1, hbd1, he1⟩ := unitsOut_row hu1
  have HW2 := Lib.hid (HW1.out.call hw2)
  have HO1 := Lib.hid ho1
  have HE1 := Lib.hid he1
  have HL1 := Lib.hid hl1
  have hz12 := hw2.size
  clear hu1 hw2 ho1 he1 hbd1 hl1
  go_wp2_with fail
  refine (units_any (wrapQ 39 t) w2 (by rw [HTZ.out]; omega) (HT.out.below HW2.out)).mono ?_
  rintro e w3 ⟨hu2, hw3⟩
  obtain ⟨v2, us2, rfl, ho2, hl2, hbd2, he2⟩ := unitsOut_row hu2
  have HW3 := Lib.hid (HW2.out.call hw3)
  have HO1' := Lib.hid (own_below HO1.out hw3)
  have HO2 := Lib.hid ho2
  have HE2 := Lib.hid he2
  have HL2 := Lib.hid hl2
  have HZ1 := Lib.hid (show ∀ k, v1.ownBlock = some k → k < w2.heap.size from fun k hk => (HO1.out.lt k hk).2)
  have HZ12 := Lib.hid hw3.size
  have HZ01 := Lib.hid (show w1.heap.size ≤ w2.heap.size from hz12)
  clear hu2 hw3 ho2 he2 hbd2 hl2
  have H1 := Lib.hid (code_two (wrapQ 39 s))
  have H2 := Lib.hid (code_two (wrapQ 39 t))
  generalize checkCode (wrapQ 39 s) = x1 at *
  generalize checkCode (wrapQ 39 t) = x2 at *
  rcases H1.out with ⟨rfl, ps, hps⟩ | rfl
  · rcases H2.out with ⟨rfl, qs, hqs⟩ | rfl
    · have HPS := Lib.hid hps
      have HQS := Lib.hid hqs
      clear hps hqs
      by_cases hdig : ∃ h : 0 < t.size, 48 ≤ (t[0]'h).toNat ∧ (t[0]'h).toNat ≤ 57
      · obtain ⟨h0, hd1, hd2⟩ := hdig
        have g1 : 48 ≤ ((t[0]'h0).toNat : Int) := by omega
        have g2 : ((t[0]'h0).toNat : Int) ≤ 57 := by omega
        have g3 : 0 < (t.size : Int) := by omega
        go_wp2_with (go_at_call 12; refine (num_any _ _).mono ?_; rintro e w9 ⟨rfl, rfl⟩)
        go_ret
        exact ⟨rfl, HW3.out⟩
      · by_cases hcr : ∃ (h : 0 < t.size) (h' : 0 < s.size), (s[s.size - 1]'(by omega)).toNat = 13 ∧ (t[0]'h).toNat = 10
        · obtain ⟨h0, h0', hd1, hd2⟩ := hcr
          have g1 : ((t[0]'h0).toNat : Int) = 10 := by omega
          have g3 : 0 < (t.size : Int) := by omega
          have g4 : 0 < (s.size : Int) := by omega
          have g5 : ((s[s.size - 1]'(by omega)).toNat : Int) = 13 := by omega
          have g6 : ((s.size : Int) - 1).toNat = s.size - 1 := by omega
          clear hdig hd1 hd2
          go_wp2_with (go_at_call 12; refine (num_any _ _).mono ?_; rintro e w9 ⟨rfl, rfl⟩)
          go_ret
          exact ⟨rfl, HW3.out⟩
        · have HJ0 := Lib.hid (joined_units HPS.out HQS.out (fun h h2 => hdig ⟨h, by rw [byt_eq]; exact h2.1, by rw [byt_eq]; exact h2.2⟩) (fun h h2 h3 h4 => hcr ⟨h2, h, by rw [byt_eq]; exact h3, by rw [byt_eq]; exact h4⟩))
          obtain ⟨rs, hj1, hj2⟩ := HJ0.out
          rw [← join_eq] at hj1
          have HC0 : Hid (checkCode (⟨#[39]⟩ ++ s ++ t ++ ⟨#[39]⟩) = 0) := Lib.hid (by unfold checkCode; rw [hj1])
          have HJ : Hid (partsB (⟨#[39]⟩ ++ s ++ t ++ ⟨#[39]⟩) = .ok rs ∧ flatU rs = flatU ps ++ flatU qs) := Lib.hid ⟨hj1, hj2⟩
          have HUS : Hid (us1 = flatU ps ∧ us2 = flatU qs) := Lib.hid ⟨by rw [HE1.out, HPS.out], by rw [HE2.out, HQS.out]⟩
          have HCS : Hid ((⟨#[39]⟩ ++ s ++ t ++ ⟨#[39]⟩ : ByteArray).size ≤ 4194304) := Lib.hid (by rw [join_eq, wrap_size, sapp_size]; omega)
          obtain ⟨i0, z0, hI1, hI2, hI3, hI4, hI5, hI6, hI7⟩ := intE
          have HSS : ∃ S : ByteArray, S = ⟨#[39]⟩ ++ s ++ t ++ ⟨#[39]⟩ := ⟨_, rfl⟩
          obtain ⟨S, hS⟩ := HSS
          rw [← hS] at HC0 HJ HCS
          have HSE := Lib.hid hS
          clear hS hj1
          have HI2 := Lib.hid hI2
          have HI9 := Lib.hid (And.intro hI3 (And.intro hI4 (And.intro hI5 (And.intro hI6 hI7))))
          clear hI1 hI2 hj2 hI3 hI4 hI5 hI6 hI7
          have hT4 : (t.size : Int) ≤ 0 ∨ (∃ h : 0 < t.size, ((t[0]'h).toNat : Int) < 48 ∧ (((t[0]'h).toNat : Int) == 10) = false) ∨ (∃ h : 0 < t.size, 57 < ((t[0]'h).toNat : Int) ∧ (((t[0]'h).toNat : Int) == 10) = false) ∨ (∃ h : 0 < t.size, (t[0]'h).toNat = 10) := by
            by_cases h : 0 < t.size
            · refine .inr ?_
              by_cases h10 : (t[0]'h).toNat = 10
              · exact .inr (.inr ⟨h, h10⟩)
              · have hn : (((t[0]'h).toNat : Int) == 10) = false := by rw [beq_eq_false_iff_ne]; omega
                by_cases h48 : (t[0]'h).toNat < 48
                · exact .inl ⟨h, by omega, hn⟩
                · refine .inr (.inl ⟨h, ?_, hn⟩)
                  have : ¬ (t[0]'h).toNat ≤ 57 := fun h57 => hdig ⟨h, by omega, h57⟩
                  omega
            · exact .inl (by omega)
          have hS3 : (s.size : Int) ≤ 0 ∨ (∃ h : 0 < s.size, (((s[s.size - 1]'(by omega)).toNat : Int) == 13) = false) ∨ (∃ h : 0 < s.size, (s[s.size - 1]'(by omega)).toNat = 13) := by
            by_cases h : 0 < s.size
            · by_cases h13 : (s[s.size - 1]'(by omega)).toNat = 13
              · exact .inr (.inr ⟨h, h13⟩)
              · exact .inr (.inl ⟨h, by rw [beq_eq_false_iff_ne]; omega⟩)
            · exact .inl (by omega)
          have g6 : 0 < s.size → ((s.size : Int) - 1).toNat = s.size - 1 := fun _ => by omega
          have HCR := Lib.hid hcr
          clear hdig hcr
          rcases hT4 with hT0 | ⟨h0, g1, g2⟩ | ⟨h0, g1, g2⟩ | ⟨h0, g1⟩
          · rcases hS3 with hS0 | ⟨h0', k1⟩ | ⟨h0', k1⟩
            · clear g6
              go_wp2_with (go_at_call 12; refine (num_any _ _).mono ?_; rintro e w9 ⟨rfl, rfl⟩)
              rw [← HSE.out]
              refine (units_any S w3 HCS.out (HT.out.below HW3.out)).mono ?_
              rintro e w4 ⟨hu3, hw4⟩
              obtain ⟨v3, us3, rfl, ho3, hl3, hbd3, he3⟩ := unitsOut_row hu3
              have hus : us3 = us1 ++ us2 := by rw [he3, HJ.out.1, HUS.out.1, HUS.out.2]; exact HJ.out.2
              subst hus
              rw [HC0.out]
              have HW4 := Lib.hid (HW3.out.call hw4)
              have HO1'' := Lib.hid (own_low (own_below HO1'.out hw4) (Nat.le_refl _))
              have HO2' := Lib.hid (own_below HO2.out hw4)
              have HO3 := Lib.hid ho3
              have HZ4 := Lib.hid hw4.size
              clear hu3 hw4 ho3 he3 hbd3 hl3
              rcases HO2'.out.2 with ⟨rfl, hn0⟩ | ⟨g, cap, cur, rfl, hbg, hg, hcap, _⟩
              · have hn1 : us2 = [] := List.length_eq_zero_iff.1 hn0
                subst hn1
                clear hn0
                go_wp2_with (first
                  | (go_at_call 12; refine (num_any _ _).mono ?_; rintro e w9 ⟨rfl, rfl⟩)
                  | (at_builtin
                     refine wpList_append_none_g (by rfl) (.tmp 87) (.tmp 88) _ rfl w1.heap.size 3 i0 1 Tryd.underlying30 HI2.out v1 us1.length _ rfl HO1''.out rfl ?_))
                refine (sameInts_any (us1 ++ []) us1 v3 v1 _ (by rw [List.append_nil]; have := HL1.out; rw [HSZ.out] at this; omega) (by have := HL1.out; rw [HSZ.out] at this; omega) (.of_own HO3.out) (.of_own HO1''.out)).mono ?_
                rintro e w6 ⟨rfl, hw6⟩
                rw [show (us1 ++ [] == us1) = true by simp]
                have HW6 := Lib.hid (HW4.out.call hw6)
                clear hw6
                go_wp2_with fail
                go_ret
                exact ⟨rfl, HW6.out⟩
              · have HNEW := Lib.hid (HO2'.out.cells (g := g) rfl)
                clear hbg hg hcap
                go_wp2_with (first
                  | (go_at_call 12; refine (num_any _ _).mono ?_; rintro e w9 ⟨rfl, rfl⟩)
                  | (at_builtin
                     refine wpList_append_own_g _ (by rfl) (.tmp 87) (.tmp 88) _ rfl w1.heap.size 3 i0 z0 1 8 Tryd.underlying30 HI2.out HI9.out.1 HI9.out.2.1 HI9.out.2.2.1 HI9.out.2.2.2.1 HI9.out.2.2.2.2 v1 us1.length (intCells us1) rfl HO1''.out ⟨g, 0, none⟩ us2.length cap (intCells us2) rfl (by rw [intCells_len, Nat.mul_one]) HNEW.out (intCells_one _) (by have := HL1.out; rw [HSZ.out] at this; have := HL2.out; rw [HTZ.out] at this; unfold maxLen; omega) (by have := HL1.out; rw [HSZ.out] at this; have := HL2.out; rw [HTZ.out] at this; omega) (by have := HW4.out.size; have := HZ12.out; have := HZ4.out; have := HZ01.out; omega) ?_
                     intro v' W' ho' hg' _
                     have HOV := Lib.hid (own_snoc ho')
                     have HOV3 := Lib.hid (HO3.out.kept hg' (own_apart (fun k hk => Nat.lt_of_lt_of_le (HZ1.out k hk) HZ12.out) HO3.out))
                     have HW5 := Lib.hid (below_grown HW4.out HW4.out.size (own_low HO1''.out HW1.out.size) hg')
                     clear ho' hg'))
                refine (sameInts_any (us1 ++ us2) (us1 ++ us2) v3 v' _ (by rw [List.length_append]; have := HL1.out; rw [HSZ.out] at this; have := HL2.out; rw [HTZ.out] at this; omega) (by rw [List.length_append]; have := HL1.out; rw [HSZ.out] at this; have := HL2.out; rw [HTZ.out] at this; omega) (.of_own HOV3.out) (.of_own HOV.out)).mono ?_
                rintro e w6 ⟨rfl, hw6⟩
                rw [show (us1 ++ us2 == us1 ++ us2) = true by simp]
                have HW6 := Lib.hid (HW5.out.call hw6)
                clear hw6
                go_wp2_with fail
                go_ret
                exact ⟨rfl, HW6.out⟩
            · have g0' : 0 < (s.size : Int) := by omega
              have g6' := g6 h0'
              clear g6
              go_wp2_with (go_at_call 12; refine (num_any _ _).mono ?_; rintro e w9 ⟨rfl, rfl⟩)
              rw [← HSE.out]
              refine (units_any S w3 HCS.out (HT.out.below HW3.out)).mono ?_
              rintro e w4 ⟨hu3, hw4⟩
              obtain ⟨v3, us3, rfl, ho3, hl3, hbd3, he3⟩ := unitsOut_row hu3
              have hus : us3 = us1 ++ us2 := by rw [he3, HJ.out.1, HUS.out.1, HUS.out.2]; exact HJ.out.2
              subst hus
              rw [HC0.out]
              have HW4 := Lib.hid (HW3.out.call hw4)
              have HO1'' := Lib.hid (own_low (own_below HO1'.out hw4) (Nat.le_refl _))
              have HO2' := Lib.hid (own_below HO2.out hw4)
              have HO3 := Lib.hid ho3
              have HZ4 := Lib.hid hw4.size
              clear hu3 hw4 ho3 he3 hbd3 hl3
              rcases HO2'.out.2 with ⟨rfl, hn0⟩ | ⟨g, cap, cur, rfl, hbg, hg, hcap, _⟩
              · have hn1 : us2 = [] := List.length_eq_zero_iff.1 hn0
                subst hn1
                clear hn0
                go_wp2_with (first
                  | (go_at_call 12; refine (num_any _ _).mono ?_; rintro e w9 ⟨rfl, rfl⟩)
                  | (at_builtin
                     refine wpList_append_none_g (by rfl) (.tmp 87) (.tmp 88) _ rfl w1.heap.size 3 i0 1 Tryd.underlying30 HI2.out v1 us1.length _ rfl HO1''.out rfl ?_))
                refine (sameInts_any (us1 ++ []) us1 v3 v1 _ (by rw [List.append_nil]; have := HL1.out; rw [HSZ.out] at this; omega) (by have := HL1.out; rw [HSZ.out] at this; omega) (.of_own HO3.out) (.of_own HO1''.out)).mono ?_
                rintro e w6 ⟨rfl, hw6⟩
                rw [show (us1 ++ [] == us1) = true by simp]
                have HW6 := Lib.hid (HW4.out.call hw6)
                clear hw6
                go_wp2_with fail
                go_ret
                exact ⟨rfl, HW6.out⟩
              · have HNEW := Lib.hid (HO2'.out.cells (g := g) rfl)
                clear hbg hg hcap
                go_wp2_with (first
                  | (go_at_call 12; refine (num_any _ _).mono ?_; rintro e w9 ⟨rfl, rfl⟩)
                  | (at_builtin
                     refine wpList_append_own_g _ (by rfl) (.tmp 87) (.tmp 88) _ rfl w1.heap.size 3 i0 z0 1 8 Tryd.underlying30 HI2.out HI9.out.1 HI9.out.2.1 HI9.out.2.2.1 HI9.out.2.2.2.1 HI9.out.2.2.2.2 v1 us1.length (intCells us1) rfl HO1''.out ⟨g, 0, none⟩ us2.length cap (intCells us2) rfl (by rw [intCells_len, Nat.mul_one]) HNEW.out (intCells_one _) (by have := HL1.out; rw [HSZ.out] at this; have := HL2.out; rw [HTZ.out] at this; unfold maxLen; omega) (by have := HL1.out; rw [HSZ.out] at this; have := HL2.out; rw [HTZ.out] at this; omega) (by have := HW4.out.size; have := HZ12.out; have := HZ4.out; have := HZ01.out; omega) ?_
                     intro v' W' ho' hg' _
                     have HOV := Lib.hid (own_snoc ho')
                     have HOV3 := Lib.hid (HO3.out.kept hg' (own_apart (fun k hk => Nat.lt_of_lt_of_le (HZ1.out k hk) HZ12.out) HO3.out))
                     have HW5 := Lib.hid (below_grown HW4.out HW4.out.size (own_low HO1''.out HW1.out.size) hg')
                     clear ho' hg'))
                refine (sameInts_any (us1 ++ us2) (us1 ++ us2) v3 v' _ (by rw [List.length_append]; have := HL1.out; rw [HSZ.out] at this; have := HL2.out; rw [HTZ.out] at this; omega) (by rw [List.length_append]; have := HL1.out; rw [HSZ.out] at this; have := HL2.out; rw [HTZ.out] at this; omega) (.of_own HOV3.out) (.of_own HOV.out)).mono ?_
                rintro e w6 ⟨rfl, hw6⟩
                rw [show (us1 ++ us2 == us1 ++ us2) = true by simp]
                have HW6 := Lib.hid (HW5.out.call hw6)
                clear hw6
                go_wp2_with fail
                go_ret
                exact ⟨rfl, HW6.out⟩
            · have g0' : 0 < (s.size : Int) := by omega
              have g6' := g6 h0'
              have k1' : ((s[s.size - 1]'(by omega)).toNat : Int) = 13 := by omega
              clear g6
              clear k1
              go_wp2_with (go_at_call 12; refine (num_any _ _).mono ?_; rintro e w9 ⟨rfl, rfl⟩)
              rw [← HSE.out]
              refine (units_any S w3 HCS.out (HT.out.below HW3.out)).mono ?_
              rintro e w4 ⟨hu3, hw4⟩
              obtain ⟨v3, us3, rfl, ho3, hl3, hbd3, he3⟩ := unitsOut_row hu3
              have hus : us3 = us1 ++ us2 := by rw [he3, HJ.out.1, HUS.out.1, HUS.out.2]; exact HJ.out.2
              subst hus
              rw [HC0.out]
              have HW4 := Lib.hid (HW3.out.call hw4)
              have HO1'' := Lib.hid (own_low (own_below HO1'.out hw4) (Nat.le_refl _))
              have HO2' := Lib.hid (own_below HO2.out hw4)
              have HO3 := Lib.hid ho3
              have HZ4 := Lib.hid hw4.size
              clear hu3 hw4 ho3 he3 hbd3 hl3
              rcases HO2'.out.2 with ⟨rfl, hn0⟩ | ⟨g, cap, cur, rfl, hbg, hg, hcap, _⟩
              · have hn1 : us2 = [] := List.length_eq_zero_iff.1 hn0
                subst hn1
                clear hn0
                go_wp2_with (first
                  | (go_at_call 12; refine (num_any _ _).mono ?_; rintro e w9 ⟨rfl, rfl⟩)
                  | (at_builtin
                     refine wpList_append_none_g (by rfl) (.tmp 87) (.tmp 88) _ rfl w1.heap.size 3 i0 1 Tryd.underlying30 HI2.out v1 us1.length _ rfl HO1''.out rfl ?_))
                refine (sameInts_any (us1 ++ []) us1 v3 v1 _ (by rw [List.append_nil]; have := HL1.out; rw [HSZ.out] at this; omega) (by have := HL1.out; rw [HSZ.out] at this; omega) (.of_own HO3.out) (.of_own HO1''.out)).mono ?_
                rintro e w6 ⟨rfl, hw6⟩
                rw [show (us1 ++ [] == us1) = true by simp]
                have HW6 := Lib.hid (HW4.out.call hw6)
                clear hw6
                go_wp2_with fail
                go_ret
                exact ⟨rfl, HW6.out⟩
              · have HNEW := Lib.hid (HO2'.out.cells (g := g) rfl)
                clear hbg hg hcap
                go_wp2_with (first
                  | (go_at_call 12; refine (num_any _ _).mono ?_; rintro e w9 ⟨rfl, rfl⟩)
                  | (at_builtin
                     refine wpList_append_own_g _ (by rfl) (.tmp 87) (.tmp 88) _ rfl w1.heap.size 3 i0 z0 1 8 Tryd.underlying30 HI2.out HI9.out.1 HI9.out.2.1 HI9.out.2.2.1 HI9.out.2.2.2.1 HI9.out.2.2.2.2 v1 us1.length (intCells us1) rfl HO1''.out ⟨g, 0, none⟩ us2.length cap (intCells us2) rfl (by rw [intCells_len, Nat.mul_one]) HNEW.out (intCells_one _) (by have := HL1.out; rw [HSZ.out] at this; have := HL2.out; rw [HTZ.out] at this; unfold maxLen; omega) (by have := HL1.out; rw [HSZ.out] at this; have := HL2.out; rw [HTZ.out] at this; omega) (by have := HW4.out.size; have := HZ12.out; have := HZ4.out; have := HZ01.out; omega) ?_
                     intro v' W' ho' hg' _
                     have HOV := Lib.hid (own_snoc ho')
                     have HOV3 := Lib.hid (HO3.out.kept hg' (own_apart (fun k hk => Nat.lt_of_lt_of_le (HZ1.out k hk) HZ12.out) HO3.out))
                     have HW5 := Lib.hid (below_grown HW4.out HW4.out.size (own_low HO1''.out HW1.out.size) hg')
                     clear ho' hg'))
                refine (sameInts_any (us1 ++ us2) (us1 ++ us2) v3 v' _ (by rw [List.length_append]; have := HL1.out; rw [HSZ.out] at this; have := HL2.out; rw [HTZ.out] at this; omega) (by rw [List.length_append]; have := HL1.out; rw [HSZ.out] at this; have := HL2.out; rw [HTZ.out] at this; omega) (.of_own HOV3.out) (.of_own HOV.out)).mono ?_
                rintro e w6 ⟨rfl, hw6⟩
                rw [show (us1 ++ us2 == us1 ++ us2) = true by simp]
                have HW6 := Lib.hid (HW5.out.call hw6)
                clear hw6
                go_wp2_with fail
                go_ret
                exact ⟨rfl, HW6.out⟩
          · rcases hS3 with hS0 | ⟨h0', k1⟩ | ⟨h0', k1⟩
            · have g0 : 0 < (t.size : Int) := by omega
              clear g6
              go_wp2_with (go_at_call 12; refine (num_any _ _).mono ?_; rintro e w9 ⟨rfl, rfl⟩)
              rw [← HSE.out]
              refine (units_any S w3 HCS.out (HT.out.below HW3.out)).mono ?_
              rintro e w4 ⟨hu3, hw4⟩
              obtain ⟨v3, us3, rfl, ho3, hl3, hbd3, he3⟩ := unitsOut_row hu3
              have hus : us3 = us1 ++ us2 := by rw [he3, HJ.out.1, HUS.out.1, HUS.out.2]; exact HJ.out.2
              subst hus
              rw [HC0.out]
              have HW4 := Lib.hid (HW3.out.call hw4)
              have HO1'' := Lib.hid (own_low (own_below HO1'.out hw4) (Nat.le_refl _))
              have HO2' := Lib.hid (own_below HO2.out hw4)
              have HO3 := Lib.hid ho3
              have HZ4 := Lib.hid hw4.size
              clear hu3 hw4 ho3 he3 hbd3 hl3
              rcases HO2'.out.2 with ⟨rfl, hn0⟩ | ⟨g, cap, cur, rfl, hbg, hg, hcap, _⟩
              · have hn1 : us2 = [] := List.length_eq_zero_iff.1 hn0
                subst hn1
                clear hn0
                go_wp2_with (first
                  | (go_at_call 12; refine (num_any _ _).mono ?_; rintro e w9 ⟨rfl, rfl⟩)
                  | (at_builtin
                     refine wpList_append_none_g (by rfl) (.tmp 87) (.tmp 88) _ rfl w1.heap.size 3 i0 1 Tryd.underlying30 HI2.out v1 us1.length _ rfl HO1''.out rfl ?_))
                refine (sameInts_any (us1 ++ []) us1 v3 v1 _ (by rw [List.append_nil]; have := HL1.out; rw [HSZ.out] at this; omega) (by have := HL1.out; rw [HSZ.out] at this; omega) (.of_own HO3.out) (.of_own HO1''.out)).mono ?_
                rintro e w6 ⟨rfl, hw6⟩
                rw [show (us1 ++ [] == us1) = true by simp]
                have HW6 := Lib.hid (HW4.out.call hw6)
                clear hw6
                go_wp2_with fail
                go_ret
                exact ⟨rfl, HW6.out⟩
              · have HNEW := Lib.hid (HO2'.out.cells (g := g) rfl)
                clear hbg hg hcap
                go_wp2_with (first
                  | (go_at_call 12; refine (num_any _ _).mono ?_; rintro e w9 ⟨rfl, rfl⟩)
                  | (at_builtin
                     refine wpList_append_own_g _ (by rfl) (.tmp 87) (.tmp 88) _ rfl w1.heap.size 3 i0 z0 1 8 Tryd.underlying30 HI2.out HI9.out.1 HI9.out.2.1 HI9.out.2.2.1 HI9.out.2.2.2.1 HI9.out.2.2.2.2 v1 us1.length (intCells us1) rfl HO1''.out ⟨g, 0, none⟩ us2.length cap (intCells us2) rfl (by rw [intCells_len, Nat.mul_one]) HNEW.out (intCells_one _) (by have := HL1.out; rw [HSZ.out] at this; have := HL2.out; rw [HTZ.out] at this; unfold maxLen; omega) (by have := HL1.out; rw [HSZ.out] at this; have := HL2.out; rw [HTZ.out] at this; omega) (by have := HW4.out.size; have := HZ12.out; have := HZ4.out; have := HZ01.out; omega) ?_
                     intro v' W' ho' hg' _
                     have HOV := Lib.hid (own_snoc ho')
                     have HOV3 := Lib.hid (HO3.out.kept hg' (own_apart (fun k hk => Nat.lt_of_lt_of_le (HZ1.out k hk) HZ12.out) HO3.out))
                     have HW5 := Lib.hid (below_grown HW4.out HW4.out.size (own_low HO1''.out HW1.out.size) hg')
                     clear ho' hg'))
                refine (sameInts_any (us1 ++ us2) (us1 ++ us2) v3 v' _ (by rw [List.length_append]; have := HL1.out; rw [HSZ.out] at this; have := HL2.out; rw [HTZ.out] at this; omega) (by rw [List.length_append]; have := HL1.out; rw [HSZ.out] at this; have := HL2.out; rw [HTZ.out] at this; omega) (.of_own HOV3.out) (.of_own HOV.out)).mono ?_
                rintro e w6 ⟨rfl, hw6⟩
                rw [show (us1 ++ us2 == us1 ++ us2) = true by simp]
                have HW6 := Lib.hid (HW5.out.call hw6)
                clear hw6
                go_wp2_with fail
                go_ret
                exact ⟨rfl, HW6.out⟩
            · have g0 : 0 < (t.size : Int) := by omega
              have g0' : 0 < (s.size : Int) := by omega
              have g6' := g6 h0'
              clear g6
              go_wp2_with (go_at_call 12; refine (num_any _ _).mono ?_; rintro e w9 ⟨rfl, rfl⟩)
              rw [← HSE.out]
              refine (units_any S w3 HCS.out (HT.out.below HW3.out)).mono ?_
              rintro e w4 ⟨hu3, hw4⟩
              obtain ⟨v3, us3, rfl, ho3, hl3, hbd3, he3⟩ := unitsOut_row hu3
              have hus : us3 = us1 ++ us2 := by rw [he3, HJ.out.1, HUS.out.1, HUS.out.2]; exact HJ.out.2
              subst hus
              rw [HC0.out]
              have HW4 := Lib.hid (HW3.out.call hw4)
              have HO1'' := Lib.hid (own_low (own_below HO1'.out hw4) (Nat.le_refl _))
              have HO2' := Lib.hid (own_below HO2.out hw4)
              have HO3 := Lib.hid ho3
              have HZ4 := Lib.hid hw4.size
              clear hu3 hw4 ho3 he3 hbd3 hl3
              rcases HO2'.out.2 with ⟨rfl, hn0⟩ | ⟨g, cap, cur, rfl, hbg, hg, hcap, _⟩
              · have hn1 : us2 = [] := List.length_eq_zero_iff.1 hn0
                subst hn1
                clear hn0
                go_wp2_with (first
                  | (go_at_call 12; refine (num_any _ _).mono ?_; rintro e w9 ⟨rfl, rfl⟩)
                  | (at_builtin
                     refine wpList_append_none_g (by rfl) (.tmp 87) (.tmp 88) _ rfl w1.heap.size 3 i0 1 Tryd.underlying30 HI2.out v1 us1.length _ rfl HO1''.out rfl ?_))
                refine (sameInts_any (us1 ++ []) us1 v3 v1 _ (by rw [List.append_nil]; have := HL1.out; rw [HSZ.out] at this; omega) (by have := HL1.out; rw [HSZ.out] at this; omega) (.of_own HO3.out) (.of_own HO1''.out)).mono ?_
                rintro e w6 ⟨rfl, hw6⟩
                rw [show (us1 ++ [] == us1) = true by simp]
                have HW6 := Lib.hid (HW4.out.call hw6)
                clear hw6
                go_wp2_with fail
                go_ret
                exact ⟨rfl, HW6.out⟩
              · have HNEW := Lib.hid (HO2'.out.cells (g := g) rfl)
                clear hbg hg hcap
                go_wp2_with (first
                  | (go_at_call 12; refine (num_any _ _).mono ?_; rintro e w9 ⟨rfl, rfl⟩)
                  | (at_builtin
                     refine wpList_append_own_g _ (by rfl) (.tmp 87) (.tmp 88) _ rfl w1.heap.size 3 i0 z0 1 8 Tryd.underlying30 HI2.out HI9.out.1 HI9.out.2.1 HI9.out.2.2.1 HI9.out.2.2.2.1 HI9.out.2.2.2.2 v1 us1.length (intCells us1) rfl HO1''.out ⟨g, 0, none⟩ us2.length cap (intCells us2) rfl (by rw [intCells_len, Nat.mul_one]) HNEW.out (intCells_one _) (by have := HL1.out; rw [HSZ.out] at this; have := HL2.out; rw [HTZ.out] at this; unfold maxLen; omega) (by have := HL1.out; rw [HSZ.out] at this; have := HL2.out; rw [HTZ.out] at this; omega) (by have := HW4.out.size; have := HZ12.out; have := HZ4.out; have := HZ01.out; omega) ?_
                     intro v' W' ho' hg' _
                     have HOV := Lib.hid (own_snoc ho')
                     have HOV3 := Lib.hid (HO3.out.kept hg' (own_apart (fun k hk => Nat.lt_of_lt_of_le (HZ1.out k hk) HZ12.out) HO3.out))
                     have HW5 := Lib.hid (below_grown HW4.out HW4.out.size (own_low HO1''.out HW1.out.size) hg')
                     clear ho' hg'))
                refine (sameInts_any (us1 ++ us2) (us1 ++ us2) v3 v' _ (by rw [List.length_append]; have := HL1.out; rw [HSZ.out] at this; have := HL2.out; rw [HTZ.out] at this; omega) (by rw [List.length_append]; have := HL1.out; rw [HSZ.out] at this; have := HL2.out; rw [HTZ.out] at this; omega) (.of_own HOV3.out) (.of_own HOV.out)).mono ?_
                rintro e w6 ⟨rfl, hw6⟩
                rw [show (us1 ++ us2 == us1 ++ us2) = true by simp]
                have HW6 := Lib.hid (HW5.out.call hw6)
                clear hw6
                go_wp2_with fail
                go_ret
                exact ⟨rfl, HW6.out⟩
            · have g0 : 0 < (t.size : Int) := by omega
              have g0' : 0 < (s.size : Int) := by omega
              have g6' := g6 h0'
              have k1' : ((s[s.size - 1]'(by omega)).toNat : Int) = 13 := by omega
              clear g6
              clear k1
              go_wp2_with (go_at_call 12; refine (num_any _ _).mono ?_; rintro e w9 ⟨rfl, rfl⟩)
              rw [← HSE.out]
              refine (units_any S w3 HCS.out (HT.out.below HW3.out)).mono ?_
              rintro e w4 ⟨hu3, hw4⟩
              obtain ⟨v3, us3, rfl, ho3, hl3, hbd3, he3⟩ := unitsOut_row hu3
              have hus : us3 = us1 ++ us2 := by rw [he3, HJ.out.1, HUS.out.1, HUS.out.2]; exact HJ.out.2
              subst hus
              rw [HC0.out]
              have HW4 := Lib.hid (HW3.out.call hw4)
              have HO1'' := Lib.hid (own_low (own_below HO1'.out hw4) (Nat.le_refl _))
              have HO2' := Lib.hid (own_below HO2.out hw4)
              have HO3 := Lib.hid ho3
              have HZ4 := Lib.hid hw4.size
              clear hu3 hw4 ho3 he3 hbd3 hl3
              rcases HO2'.out.2 with ⟨rfl, hn0⟩ | ⟨g, cap, cur, rfl, hbg, hg, hcap, _⟩
              · have hn1 : us2 = [] := List.length_eq_zero_iff.1 hn0
                subst hn1
                clear hn0
                go_wp2_with (first
                  | (go_at_call 12; refine (num_any _ _).mono ?_; rintro e w9 ⟨rfl, rfl⟩)
                  | (at_builtin
                     refine wpList_append_none_g (by rfl) (.tmp 87) (.tmp 88) _ rfl w1.heap.size 3 i0 1 Tryd.underlying30 HI2.out v1 us1.length _ rfl HO1''.out rfl ?_))
                refine (sameInts_any (us1 ++ []) us1 v3 v1 _ (by rw [List.append_nil]; have := HL1.out; rw [HSZ.out] at this; omega) (by have := HL1.out; rw [HSZ.out] at this; omega) (.of_own HO3.out) (.of_own HO1''.out)).mono ?_
                rintro e w6 ⟨rfl, hw6⟩
                rw [show (us1 ++ [] == us1) = true by simp]
                have HW6 := Lib.hid (HW4.out.call hw6)
                clear hw6
                go_wp2_with fail
                go_ret
                exact ⟨rfl, HW6.out⟩
              · have HNEW := Lib.hid (HO2'.out.cells (g := g) rfl)
                clear hbg hg hcap
                go_wp2_with (first
                  | (go_at_call 12; refine (num_any _ _).mono ?_; rintro e w9 ⟨rfl, rfl⟩)
                  | (at_builtin
                     refine wpList_append_own_g _ (by rfl) (.tmp 87) (.tmp 88) _ rfl w1.heap.size 3 i0 z0 1 8 Tryd.underlying30 HI2.out HI9.out.1 HI9.out.2.1 HI9.out.2.2.1 HI9.out.2.2.2.1 HI9.out.2.2.2.2 v1 us1.length (intCells us1) rfl HO1''.out ⟨g, 0, none⟩ us2.length cap (intCells us2) rfl (by rw [intCells_len, Nat.mul_one]) HNEW.out (intCells_one _) (by have := HL1.out; rw [HSZ.out] at this; have := HL2.out; rw [HTZ.out] at this; unfold maxLen; omega) (by have := HL1.out; rw [HSZ.out] at this; have := HL2.out; rw [HTZ.out] at this; omega) (by have := HW4.out.size; have := HZ12.out; have := HZ4.out; have := HZ01.out; omega) ?_
                     intro v' W' ho' hg' _
                     have HOV := Lib.hid (own_snoc ho')
                     have HOV3 := Lib.hid (HO3.out.kept hg' (own_apart (fun k hk => Nat.lt_of_lt_of_le (HZ1.out k hk) HZ12.out) HO3.out))
                     have HW5 := Lib.hid (below_grown HW4.out HW4.out.size (own_low HO1''.out HW1.out.size) hg')
                     clear ho' hg'))
                refine (sameInts_any (us1 ++ us2) (us1 ++ us2) v3 v' _ (by rw [List.length_append]; have := HL1.out; rw [HSZ.out] at this; have := HL2.out; rw [HTZ.out] at this; omega) (by rw [List.length_append]; have := HL1.out; rw [HSZ.out] at this; have := HL2.out; rw [HTZ.out] at this; omega) (.of_own HOV3.out) (.of_own HOV.out)).mono ?_
                rintro e w6 ⟨rfl, hw6⟩
                rw [show (us1 ++ us2 == us1 ++ us2) = true by simp]
                have HW6 := Lib.hid (HW5.out.call hw6)
                clear hw6
                go_wp2_with fail
                go_ret
                exact ⟨rfl, HW6.out⟩
          · rcases hS3 with hS0 | ⟨h0', k1⟩ | ⟨h0', k1⟩
            · have g0 : 0 < (t.size : Int) := by omega
              clear g6
              go_wp2_with (go_at_call 12; refine (num_any _ _).mono ?_; rintro e w9 ⟨rfl, rfl⟩)
              rw [← HSE.out]
              refine (units_any S w3 HCS.out (HT.out.below HW3.out)).mono ?_
              rintro e w4 ⟨hu3, hw4⟩
              obtain ⟨v3, us3, rfl, ho3, hl3, hbd3, he3⟩ := unitsOut_row hu3
              have hus : us3 = us1 ++ us2 := by rw [he3, HJ.out.1, HUS.out.1, HUS.out.2]; exact HJ.out.2
              subst hus
              rw [HC0.out]
              have HW4 := Lib.hid (HW3.out.call hw4)
              have HO1'' := Lib.hid (own_low (own_below HO1'.out hw4) (Nat.le_refl _))
              have HO2' := Lib.hid (own_below HO2.out hw4)
              have HO3 := Lib.hid ho3
              have HZ4 := Lib.hid hw4.size
              clear hu3 hw4 ho3 he3 hbd3 hl3
              rcases HO2'.out.2 with ⟨rfl, hn0⟩ | ⟨g, cap, cur, rfl, hbg, hg, hcap, _⟩
              · have hn1 : us2 = [] := List.length_eq_zero_iff.1 hn0
                subst hn1
                clear hn0
                go_wp2_with (first
                  | (go_at_call 12; refine (num_any _ _).mono ?_; rintro e w9 ⟨rfl, rfl⟩)
                  | (at_builtin
                     refine wpList_append_none_g (by rfl) (.tmp 87) (.tmp 88) _ rfl w1.heap.size 3 i0 1 Tryd.underlying30 HI2.out v1 us1.length _ rfl HO1''.out rfl ?_))
                refine (sameInts_any (us1 ++ []) us1 v3 v1 _ (by rw [List.append_nil]; have := HL1.out; rw [HSZ.out] at this; omega) (by have := HL1.out; rw [HSZ.out] at this; omega) (.of_own HO3.out) (.of_own HO1''.out)).mono ?_
                rintro e w6 ⟨rfl, hw6⟩
                rw [show (us1 ++ [] == us1) = true by simp]
                have HW6 := Lib.hid (HW4.out.call hw6)
                clear hw6
                go_wp2_with fail
                go_ret
                exact ⟨rfl, HW6.out⟩
              · have HNEW := Lib.hid (HO2'.out.cells (g := g) rfl)
                clear hbg hg hcap
                go_wp2_with (first
                  | (go_at_call 12; refine (num_any _ _).mono ?_; rintro e w9 ⟨rfl, rfl⟩)
                  | (at_builtin
                     refine wpList_append_own_g _ (by rfl) (.tmp 87) (.tmp 88) _ rfl w1.heap.size 3 i0 z0 1 8 Tryd.underlying30 HI2.out HI9.out.1 HI9.out.2.1 HI9.out.2.2.1 HI9.out.2.2.2.1 HI9.out.2.2.2.2 v1 us1.length (intCells us1) rfl HO1''.out ⟨g, 0, none⟩ us2.length cap (intCells us2) rfl (by rw [intCells_len, Nat.mul_one]) HNEW.out (intCells_one _) (by have := HL1.out; rw [HSZ.out] at this; have := HL2.out; rw [HTZ.out] at this; unfold maxLen; omega) (by have := HL1.out; rw [HSZ.out] at this; have := HL2.out; rw [HTZ.out] at this; omega) (by have := HW4.out.size; have := HZ12.out; have := HZ4.out; have := HZ01.out; omega) ?_
                     intro v' W' ho' hg' _
                     have HOV := Lib.hid (own_snoc ho')
                     have HOV3 := Lib.hid (HO3.out.kept hg' (own_apart (fun k hk => Nat.lt_of_lt_of_le (HZ1.out k hk) HZ12.out) HO3.out))
                     have HW5 := Lib.hid (below_grown HW4.out HW4.out.size (own_low HO1''.out HW1.out.size) hg')
                     clear ho' hg'))
                refine (sameInts_any (us1 ++ us2) (us1 ++ us2) v3 v' _ (by rw [List.length_append]; have := HL1.out; rw [HSZ.out] at this; have := HL2.out; rw [HTZ.out] at this; omega) (by rw [List.length_append]; have := HL1.out; rw [HSZ.out] at this; have := HL2.out; rw [HTZ.out] at this; omega) (.of_own HOV3.out) (.of_own HOV.out)).mono ?_
                rintro e w6 ⟨rfl, hw6⟩
                rw [show (us1 ++ us2 == us1 ++ us2) = true by simp]
                have HW6 := Lib.hid (HW5.out.call hw6)
                clear hw6
                go_wp2_with fail
                go_ret
                exact ⟨rfl, HW6.out⟩
            · have g0 : 0 < (t.size : Int) := by omega
              have g0' : 0 < (s.size : Int) := by omega
              have g6' := g6 h0'
              clear g6
              go_wp2_with (go_at_call 12; refine (num_any _ _).mono ?_; rintro e w9 ⟨rfl, rfl⟩)
              rw [← HSE.out]
              refine (units_any S w3 HCS.out (HT.out.below HW3.out)).mono ?_
              rintro e w4 ⟨hu3, hw4⟩
              obtain ⟨v3, us3, rfl, ho3, hl3, hbd3, he3⟩ := unitsOut_row hu3
              have hus : us3 = us1 ++ us2 := by rw [he3, HJ.out.1, HUS.out.1, HUS.out.2]; exact HJ.out.2
              subst hus
              rw [HC0.out]
              have HW4 := Lib.hid (HW3.out.call hw4)
              have HO1'' := Lib.hid (own_low (own_below HO1'.out hw4) (Nat.le_refl _))
              have HO2' := Lib.hid (own_below HO2.out hw4)
              have HO3 := Lib.hid ho3
              have HZ4 := Lib.hid hw4.size
              clear hu3 hw4 ho3 he3 hbd3 hl3
              rcases HO2'.out.2 with ⟨rfl, hn0⟩ | ⟨g, cap, cur, rfl, hbg, hg, hcap, _⟩
              · have hn1 : us2 = [] := List.length_eq_zero_iff.1 hn0
                subst hn1
                clear hn0
                go_wp2_with (first
                  | (go_at_call 12; refine (num_any _ _).mono ?_; rintro e w9 ⟨rfl, rfl⟩)
                  | (at_builtin
                     refine wpList_append_none_g (by rfl) (.tmp 87) (.tmp 88) _ rfl w1.heap.size 3 i0 1 Tryd.underlying30 HI2.out v1 us1.length _ rfl HO1''.out rfl ?_))
                refine (sameInts_any (us1 ++ []) us1 v3 v1 _ (by rw [List.append_nil]; have := HL1.out; rw [HSZ.out] at this; omega) (by have := HL1.out; rw [HSZ.out] at this; omega) (.of_own HO3.out) (.of_own HO1''.out)).mono ?_
                rintro e w6 ⟨rfl, hw6⟩
                rw [show (us1 ++ [] == us1) = true by simp]
                have HW6 := Lib.hid (HW4.out.call hw6)
                clear hw6
                go_wp2_with fail
                go_ret
                exact ⟨rfl, HW6.out⟩
              · have HNEW := Lib.hid (HO2'.out.cells (g := g) rfl)
                clear hbg hg hcap
                go_wp2_with (first
                  | (go_at_call 12; refine (num_any _ _).mono ?_; rintro e w9 ⟨rfl, rfl⟩)
                  | (at_builtin
                     refine wpList_append_own_g _ (by rfl) (.tmp 87) (.tmp 88) _ rfl w1.heap.size 3 i0 z0 1 8 Tryd.underlying30 HI2.out HI9.out.1 HI9.out.2.1 HI9.out.2.2.1 HI9.out.2.2.2.1 HI9.out.2.2.2.2 v1 us1.length (intCells us1) rfl HO1''.out ⟨g, 0, none⟩ us2.length cap (intCells us2) rfl (by rw [intCells_len, Nat.mul_one]) HNEW.out (intCells_one _) (by have := HL1.out; rw [HSZ.out] at this; have := HL2.out; rw [HTZ.out] at this; unfold maxLen; omega) (by have := HL1.out; rw [HSZ.out] at this; have := HL2.out; rw [HTZ.out] at this; omega) (by have := HW4.out.size; have := HZ12.out; have := HZ4.out; have := HZ01.out; omega) ?_
                     intro v' W' ho' hg' _
                     have HOV := Lib.hid (own_snoc ho')
                     have HOV3 := Lib.hid (HO3.out.kept hg' (own_apart (fun k hk => Nat.lt_of_lt_of_le (HZ1.out k hk) HZ12.out) HO3.out))
                     have HW5 := Lib.hid (below_grown HW4.out HW4.out.size (own_low HO1''.out HW1.out.size) hg')
                     clear ho' hg'))
                refine (sameInts_any (us1 ++ us2) (us1 ++ us2) v3 v' _ (by rw [List.length_append]; have := HL1.out; rw [HSZ.out] at this; have := HL2.out; rw [HTZ.out] at this; omega) (by rw [List.length_append]; have := HL1.out; rw [HSZ.out] at this; have := HL2.out; rw [HTZ.out] at this; omega) (.of_own HOV3.out) (.of_own HOV.out)).mono ?_
                rintro e w6 ⟨rfl, hw6⟩
                rw [show (us1 ++ us2 == us1 ++ us2) = true by simp]
                have HW6 := Lib.hid (HW5.out.call hw6)
                clear hw6
                go_wp2_with fail
                go_ret
                exact ⟨rfl, HW6.out⟩
            · have g0 : 0 < (t.size : Int) := by omega
              have g0' : 0 < (s.size : Int) := by omega
              have g6' := g6 h0'
              have k1' : ((s[s.size - 1]'(by omega)).toNat : Int) = 13 := by omega
              clear g6
              clear k1
              go_wp2_with (go_at_call 12; refine (num_any _ _).mono ?_; rintro e w9 ⟨rfl, rfl⟩)
              rw [← HSE.out]
              refine (units_any S w3 HCS.out (HT.out.below HW3.out)).mono ?_
              rintro e w4 ⟨hu3, hw4⟩
              obtain ⟨v3, us3, rfl, ho3, hl3, hbd3, he3⟩ := unitsOut_row hu3
              have hus : us3 = us1 ++ us2 := by rw [he3, HJ.out.1, HUS.out.1, HUS.out.2]; exact HJ.out.2
              subst hus
              rw [HC0.out]
              have HW4 := Lib.hid (HW3.out.call hw4)
              have HO1'' := Lib.hid (own_low (own_below HO1'.out hw4) (Nat.le_refl _))
              have HO2' := Lib.hid (own_below HO2.out hw4)
              have HO3 := Lib.hid ho3
              have HZ4 := Lib.hid hw4.size
              clear hu3 hw4 ho3 he3 hbd3 hl3
              rcases HO2'.out.2 with ⟨rfl, hn0⟩ | ⟨g, cap, cur, rfl, hbg, hg, hcap, _⟩
              · have hn1 : us2 = [] := List.length_eq_zero_iff.1 hn0
                subst hn1
                clear hn0
                go_wp2_with (first
                  | (go_at_call 12; refine (num_any _ _).mono ?_; rintro e w9 ⟨rfl, rfl⟩)
                  | (at_builtin
                     refine wpList_append_none_g (by rfl) (.tmp 87) (.tmp 88) _ rfl w1.heap.size 3 i0 1 Tryd.underlying30 HI2.out v1 us1.length _ rfl HO1''.out rfl ?_))
                refine (sameInts_any (us1 ++ []) us1 v3 v1 _ (by rw [List.append_nil]; have := HL1.out; rw [HSZ.out] at this; omega) (by have := HL1.out; rw [HSZ.out] at this; omega) (.of_own HO3.out) (.of_own HO1''.out)).mono ?_
                rintro e w6 ⟨rfl, hw6⟩
                rw [show (us1 ++ [] == us1) = true by simp]
                have HW6 := Lib.hid (HW4.out.call hw6)
                clear hw6
                go_wp2_with fail
                go_ret
                exact ⟨rfl, HW6.out⟩
              · have HNEW := Lib.hid (HO2'.out.cells (g := g) rfl)
                clear hbg hg hcap
                go_wp2_with (first
                  | (go_at_call 12; refine (num_any _ _).mono ?_; rintro e w9 ⟨rfl, rfl⟩)
                  | (at_builtin
                     refine wpList_append_own_g _ (by rfl) (.tmp 87) (.tmp 88) _ rfl w1.heap.size 3 i0 z0 1 8 Tryd.underlying30 HI2.out HI9.out.1 HI9.out.2.1 HI9.out.2.2.1 HI9.out.2.2.2.1 HI9.out.2.2.2.2 v1 us1.length (intCells us1) rfl HO1''.out ⟨g, 0, none⟩ us2.length cap (intCells us2) rfl (by rw [intCells_len, Nat.mul_one]) HNEW.out (intCells_one _) (by have := HL1.out; rw [HSZ.out] at this; have := HL2.out; rw [HTZ.out] at this; unfold maxLen; omega) (by have := HL1.out; rw [HSZ.out] at this; have := HL2.out; rw [HTZ.out] at this; omega) (by have := HW4.out.size; have := HZ12.out; have := HZ4.out; have := HZ01.out; omega) ?_
                     intro v' W' ho' hg' _
                     have HOV := Lib.hid (own_snoc ho')
                     have HOV3 := Lib.hid (HO3.out.kept hg' (own_apart (fun k hk => Nat.lt_of_lt_of_le (HZ1.out k hk) HZ12.out) HO3.out))
                     have HW5 := Lib.hid (below_grown HW4.out HW4.out.size (own_low HO1''.out HW1.out.size) hg')
                     clear ho' hg'))
                refine (sameInts_any (us1 ++ us2) (us1 ++ us2) v3 v' _ (by rw [List.length_append]; have := HL1.out; rw [HSZ.out] at this; have := HL2.out; rw [HTZ.out] at this; omega) (by rw [List.length_append]; have := HL1.out; rw [HSZ.out] at this; have := HL2.out; rw [HTZ.out] at this; omega) (.of_own HOV3.out) (.of_own HOV.out)).mono ?_
                rintro e w6 ⟨rfl, hw6⟩
                rw [show (us1 ++ us2 == us1 ++ us2) = true by simp]
                have HW6 := Lib.hid (HW5.out.call hw6)
                clear hw6
                go_wp2_with fail
                go_ret
                exact ⟨rfl, HW6.out⟩
          · rcases hS3 with hS0 | ⟨h0', k1⟩ | ⟨h0', k1⟩
            · have g0 : 0 < (t.size : Int) := by omega
              have g1' : ((t[0]'h0).toNat : Int) = 10 := by omega
              clear g6
              clear g1
              go_wp2_with (go_at_call 12; refine (num_any _ _).mono ?_; rintro e w9 ⟨rfl, rfl⟩)
              rw [← HSE.out]
              refine (units_any S w3 HCS.out (HT.out.below HW3.out)).mono ?_
              rintro e w4 ⟨hu3, hw4⟩
              obtain ⟨v3, us3, rfl, ho3, hl3, hbd3, he3⟩ := unitsOut_row hu3
              have hus : us3 = us1 ++ us2 := by rw [he3, HJ.out.1, HUS.out.1, HUS.out.2]; exact HJ.out.2
              subst hus
              rw [HC0.out]
              have HW4 := Lib.hid (HW3.out.call hw4)
              have HO1'' := Lib.hid (own_low (own_below HO1'.out hw4) (Nat.le_refl _))
              have HO2' := Lib.hid (own_below HO2.out hw4)
              have HO3 := Lib.hid ho3
              have HZ4 := Lib.hid hw4.size
              clear hu3 hw4 ho3 he3 hbd3 hl3
              rcases HO2'.out.2 with ⟨rfl, hn0⟩ | ⟨g, cap, cur, rfl, hbg, hg, hcap, _⟩
              · have hn1 : us2 = [] := List.length_eq_zero_iff.1 hn0
                subst hn1
                clear hn0
                go_wp2_with (first
                  | (go_at_call 12; refine (num_any _ _).mono ?_; rintro e w9 ⟨rfl, rfl⟩)
                  | (at_builtin
                     refine wpList_append_none_g (by rfl) (.tmp 87) (.tmp 88) _ rfl w1.heap.size 3 i0 1 Tryd.underlying30 HI2.out v1 us1.length _ rfl HO1''.out rfl ?_))
                refine (sameInts_any (us1 ++ []) us1 v3 v1 _ (by rw [List.append_nil]; have := HL1.out; rw [HSZ.out] at this; omega) (by have := HL1.out; rw [HSZ.out] at this; omega) (.of_own HO3.out) (.of_own HO1''.out)).mono ?_
                rintro e w6 ⟨rfl, hw6⟩
                rw [show (us1 ++ [] == us1) = true by simp]
                have HW6 := Lib.hid (HW4.out.call hw6)
                clear hw6
                go_wp2_with fail
                go_ret
                exact ⟨rfl, HW6.out⟩
              · have HNEW := Lib.hid (HO2'.out.cells (g := g) rfl)
                clear hbg hg hcap
                go_wp2_with (first
                  | (go_at_call 12; refine (num_any _ _).mono ?_; rintro e w9 ⟨rfl, rfl⟩)
                  | (at_builtin
                     refine wpList_append_own_g _ (by rfl) (.tmp 87) (.tmp 88) _ rfl w1.heap.size 3 i0 z0 1 8 Tryd.underlying30 HI2.out HI9.out.1 HI9.out.2.1 HI9.out.2.2.1 HI9.out.2.2.2.1 HI9.out.2.2.2.2 v1 us1.length (intCells us1) rfl HO1''.out ⟨g, 0, none⟩ us2.length cap (intCells us2) rfl (by rw [intCells_len, Nat.mul_one]) HNEW.out (intCells_one _) (by have := HL1.out; rw [HSZ.out] at this; have := HL2.out; rw [HTZ.out] at this; unfold maxLen; omega) (by have := HL1.out; rw [HSZ.out] at this; have := HL2.out; rw [HTZ.out] at this; omega) (by have := HW4.out.size; have := HZ12.out; have := HZ4.out; have := HZ01.out; omega) ?_
                     intro v' W' ho' hg' _
                     have HOV := Lib.hid (own_snoc ho')
                     have HOV3 := Lib.hid (HO3.out.kept hg' (own_apart (fun k hk => Nat.lt_of_lt_of_le (HZ1.out k hk) HZ12.out) HO3.out))
                     have HW5 := Lib.hid (below_grown HW4.out HW4.out.size (own_low HO1''.out HW1.out.size) hg')
                     clear ho' hg'))
                refine (sameInts_any (us1 ++ us2) (us1 ++ us2) v3 v' _ (by rw [List.length_append]; have := HL1.out; rw [HSZ.out] at this; have := HL2.out; rw [HTZ.out] at this; omega) (by rw [List.length_append]; have := HL1.out; rw [HSZ.out] at this; have := HL2.out; rw [HTZ.out] at this; omega) (.of_own HOV3.out) (.of_own HOV.out)).mono ?_
                rintro e w6 ⟨rfl, hw6⟩
                rw [show (us1 ++ us2 == us1 ++ us2) = true by simp]
                have HW6 := Lib.hid (HW5.out.call hw6)
                clear hw6
                go_wp2_with fail
                go_ret
                exact ⟨rfl, HW6.out⟩
            · have g0 : 0 < (t.size : Int) := by omega
              have g1' : ((t[0]'h0).toNat : Int) = 10 := by omega
              have g0' : 0 < (s.size : Int) := by omega
              have g6' := g6 h0'
              clear g6
              clear g1
              go_wp2_with (go_at_call 12; refine (num_any _ _).mono ?_; rintro e w9 ⟨rfl, rfl⟩)
              rw [← HSE.out]
              refine (units_any S w3 HCS.out (HT.out.below HW3.out)).mono ?_
              rintro e w4 ⟨hu3, hw4⟩
              obtain ⟨v3, us3, rfl, ho3, hl3, hbd3, he3⟩ := unitsOut_row hu3
              have hus : us3 = us1 ++ us2 := by rw [he3, HJ.out.1, HUS.out.1, HUS.out.2]; exact HJ.out.2
              subst hus
              rw [HC0.out]
              have HW4 := Lib.hid (HW3.out.call hw4)
              have HO1'' := Lib.hid (own_low (own_below HO1'.out hw4) (Nat.le_refl _))
              have HO2' := Lib.hid (own_below HO2.out hw4)
              have HO3 := Lib.hid ho3
              have HZ4 := Lib.hid hw4.size
              clear hu3 hw4 ho3 he3 hbd3 hl3
              rcases HO2'.out.2 with ⟨rfl, hn0⟩ | ⟨g, cap, cur, rfl, hbg, hg, hcap, _⟩
              · have hn1 : us2 = [] := List.length_eq_zero_iff.1 hn0
                subst hn1
                clear hn0
                go_wp2_with (first
                  | (go_at_call 12; refine (num_any _ _).mono ?_; rintro e w9 ⟨rfl, rfl⟩)
                  | (at_builtin
                     refine wpList_append_none_g (by rfl) (.tmp 87) (.tmp 88) _ rfl w1.heap.size 3 i0 1 Tryd.underlying30 HI2.out v1 us1.length _ rfl HO1''.out rfl ?_))
                refine (sameInts_any (us1 ++ []) us1 v3 v1 _ (by rw [List.append_nil]; have := HL1.out; rw [HSZ.out] at this; omega) (by have := HL1.out; rw [HSZ.out] at this; omega) (.of_own HO3.out) (.of_own HO1''.out)).mono ?_
                rintro e w6 ⟨rfl, hw6⟩
                rw [show (us1 ++ [] == us1) = true by simp]
                have HW6 := Lib.hid (HW4.out.call hw6)
                clear hw6
                go_wp2_with fail
                go_ret
                exact ⟨rfl, HW6.out⟩
              · have HNEW := Lib.hid (HO2'.out.cells (g := g) rfl)
                clear hbg hg hcap
                go_wp2_with (first
                  | (go_at_call 12; refine (num_any _ _).mono ?_; rintro e w9 ⟨rfl, rfl⟩)
                  | (at_builtin
                     refine wpList_append_own_g _ (by rfl) (.tmp 87) (.tmp 88) _ rfl w1.heap.size 3 i0 z0 1 8 Tryd.underlying30 HI2.out HI9.out.1 HI9.out.2.1 HI9.out.2.2.1 HI9.out.2.2.2.1 HI9.out.2.2.2.2 v1 us1.length (intCells us1) rfl HO1''.out ⟨g, 0, none⟩ us2.length cap (intCells us2) rfl (by rw [intCells_len, Nat.mul_one]) HNEW.out (intCells_one _) (by have := HL1.out; rw [HSZ.out] at this; have := HL2.out; rw [HTZ.out] at this; unfold maxLen; omega) (by have := HL1.out; rw [HSZ.out] at this; have := HL2.out; rw [HTZ.out] at this; omega) (by have := HW4.out.size; have := HZ12.out; have := HZ4.out; have := HZ01.out; omega) ?_
                     intro v' W' ho' hg' _
                     have HOV := Lib.hid (own_snoc ho')
                     have HOV3 := Lib.hid (HO3.out.kept hg' (own_apart (fun k hk => Nat.lt_of_lt_of_le (HZ1.out k hk) HZ12.out) HO3.out))
                     have HW5 := Lib.hid (below_grown HW4.out HW4.out.size (own_low HO1''.out HW1.out.size) hg')
                     clear ho' hg'))
                refine (sameInts_any (us1 ++ us2) (us1 ++ us2) v3 v' _ (by rw [List.length_append]; have := HL1.out; rw [HSZ.out] at this; have := HL2.out; rw [HTZ.out] at this; omega) (by rw [List.length_append]; have := HL1.out; rw [HSZ.out] at this; have := HL2.out; rw [HTZ.out] at this; omega) (.of_own HOV3.out) (.of_own HOV.out)).mono ?_
                rintro e w6 ⟨rfl, hw6⟩
                rw [show (us1 ++ us2 == us1 ++ us2) = true by simp]
                have HW6 := Lib.hid (HW5.out.call hw6)
                clear hw6
                go_wp2_with fail
                go_ret
                exact ⟨rfl, HW6.out⟩
            · exact absurd ⟨h0, h0', k1, g1⟩ HCR.out
    · go_wp2_with (go_at_call 12; refine (num_any _ _).mono ?_; rintro e w9 ⟨rfl, rfl⟩)
      go_ret
      exact ⟨rfl, HW3.out⟩
  · go_wp2_with (go_at_call 12; refine (num_any _ _).mono ?_; rintro e w9 ⟨rfl, rfl⟩)
    go_ret
    exact ⟨rfl, HW3.out⟩

/-- What the walk gives, for every argument. -/
theorem strJoins_contract (H : Type) (enc : TypeId × Value → H) (W : World) (base : Nat) (args : Array Value) (ds gs : List (DataW H)) (before : List MemPlace)
    (hval : ∀ (j : Nat) t v, Tryd.f7.params[j]? = some t → args[j]? = some v → Value.okWide Tryd.prog W .any base t v)
    (hW : DataW.Whole enc Tryd.prog Tryd.f7.params.toList Rows.strJoinsSpec.vars false W args.toList ds gs before)
    (hsz : (DataW.weightsEach Tryd.prog (Tryd.f7.params.toList ++ Rows.strJoinsSpec.plain.varTypes Tryd.prog) (ds ++ gs)).all (· ≤ reachBytes) = true) (hT : Tabs W) (hc : Rows.uptoSmall H (ds ++ gs) = true) :
    Calls Tryd.prog 7 args W fun e W' => ∃ v, e = .returned v ∧ Rows.strJoinsSpec.post enc Tryd.prog Tryd.f7 false true false false W args v W' := by
  have hW' := hW
  obtain ⟨p, q, hA0, hV, rfl, hfz, hnd⟩ := hW
  have hA : DataW.TrodAll enc Tryd.prog W 0 (fun _ => true) true Tryd.f7.params.toList args.toList ds p := hA0
  rw [Tryd.params7] at hA hval hsz
  obtain ⟨v0, vs0, d0, ds0, p0, q0, hargs, rfl, rfl, h0, r0⟩ := trodAll_cons hA
  obtain ⟨v1, vs1, d1, ds1, p1, q1, rfl, rfl, rfl, h1, r1⟩ := trodAll_cons r0
  obtain ⟨rfl, rfl, rfl⟩ := trodAll_nil r1
  obtain rfl : args = #[v0, v1] := by cases args; simp_all
  obtain ⟨rfl, rfl⟩ := trodVars_none hV
  obtain ⟨a0, rfl, rfl, rfl, s0⟩ := open_string Tryd.underlying9 (hval 0 9 v0 rfl rfl) h0
  obtain ⟨a1, rfl, rfl, rfl, s1⟩ := open_string Tryd.underlying9 (hval 1 9 v1 rfl rfl) h1
  clear hA0 hval
  simp [Rows.uptoSmall, Rows.uptoBulkAll, Rows.uptoBulk] at hc
  have z0 : a0.size ≤ 1048576 := by
    have e := size_list a0
    first | (simp at e; omega) | (rw [← ByteArray.toList_eq] at e; omega)
  have z1 : a1.size ≤ 1048576 := by
    have e := size_list a1
    first | (simp at e; omega) | (rw [← ByteArray.toList_eq] at e; omega)
  refine (strJoins_call a0 a1 W (by omega) (by omega) hT).mono fun e W' ⟨he, hb⟩ => ?_
  subst he
  exact ⟨_, rfl, law_post (pa := []) (pv := []) Tryd.underlying4 (by kernel_rfl) hW' rfl (fun sp _ => (trodAll_cons_mk (shut_string Tryd.underlying9 s0) (trodAll_cons_mk (shut_string Tryd.underlying9 s1) trodAll_mk0))) (fun _ _ => rfl) hb⟩

theorem strJoins_reads (os : Os) {H : Type} (enc : TypeId × Value → H) : ∃ places, DataW.whole enc Tryd.prog ((laidWorld os).forCall (fun _ _ => 0) ⟨#[], #[.string ⟨#[]⟩, .string ⟨#[]⟩], []⟩).memory Tryd.f7.params.toList Rows.strJoinsSpec.vars false (#[.string ⟨#[]⟩, .string ⟨#[]⟩] : Array Value).toList 8 = some ([.lit (.string []), .lit (.string [])], [], places) :=
  ⟨[], by kernel_rfl⟩
theorem strJoins_lifted (os : Os) (started : os.Started) (H : Type) (enc : TypeId × Value → H) (F : Stop.Interp) :
    ReturnsInHanded {} Tryd.checked os 7 .any ((Rows.OpenSpec.upto Rows.strJoinsSpec).preRow enc Tryd.prog Tryd.f7 Rows.strJoinsUptoRow.domain false Rows.strJoinsUptoRow.laid) (((Rows.OpenSpec.upto Rows.strJoinsSpec).at F).post enc Tryd.prog Tryd.f7 false true false false) := by
  obtain ⟨places, hx⟩ := strJoins_reads os enc
  refine returnsInHanded_of_row (C := Tryd.checked) (s := (Rows.OpenSpec.upto Rows.strJoinsSpec)) ownKnob_none started (by kernel_rfl) Tryd.func7
    (witness_row_at (enc := enc) (C := Tryd.checked) false (laidWorld os) #[.string ⟨#[]⟩, .string ⟨#[]⟩] rfl (by kernel_rfl) (by kernel_rfl) (by kernel_rfl)
      (OpenSpec.preRow_of_cond 8 hx (by kernel_rfl) (fun k hk => by cases hk; kernel_rfl) (by kernel_rfl) (laid_met os _))) ?_
  intro W base args ds gs before hval hW _ hc0 hsz hL _ _
  exact strJoins_contract H enc W base args ds gs before hval hW hsz (tabs_of_laid hL) (hc0 _ rfl)
theorem strJoins_said : Rows.StrJoinsUptoSaid :=
  OpenClaim.holds_of_cond 7 Tryd.f7 rfl rfl rfl rfl rfl rfl rfl ⟨rfl, rfl, rfl, rfl, rfl⟩ rfl rfl rfl rfl rfl (by kernel_rfl) Tryd.func7 (by kernel_rfl)
    (of_decide_eq_true (by kernel_rfl)) (by unfold Func.isWrapper; first | (rw [if_pos (by decide +kernel)]; kernel_rfl) | (rw [if_neg (by decide +kernel)]; exact ⟨rfl, rfl⟩))
    (fun os started H enc _ F => by rw [OpenClaim.pre_eq_preRow]; exact strJoins_lifted os started H enc F)
theorem strJoins_plain (f : FuncId) (fn : Func) (hf : Tryd.pinned.checked.prog.funcNamed Rows.strJoinsRow.func = some f) (hfn : Tryd.pinned.checked.prog.funcs[f]? = some fn) :
    false = Tryd.pinned.checked.prog.looks [] ∧ ∀ (j : Nat) t, fn.params[j]? = some t → Tryd.pinned.checked.prog.wantsStandIn t = false := by
  obtain rfl : f = 7 := Option.some.inj ((show Tryd.prog.funcNamed Rows.strJoinsRow.func = some 7 by kernel_rfl).symm.trans hf) |>.symm
  obtain rfl : fn = Tryd.f7 := (Option.some.inj (Tryd.func7.symm.trans hfn)).symm
  refine ⟨by kernel_rfl, fun j t ht => ?_⟩
  rw [Tryd.params7] at ht
  have hm := Array.mem_of_getElem? ht
  have hall : ∀ t ∈ (#[9, 9] : Array TypeId), Tryd.prog.wantsStandIn t = false := by
    intro t ht
    simp only [List.mem_toArray, List.mem_cons, List.mem_nil_iff, or_false] at ht
    rcases ht with rfl | rfl
    all_goals kernel_rfl
  exact hall t hm

/-- THE CARD. -/
theorem strJoins_card : Rows.StrJoinsUptoCardSaid :=
  Claim7.holds_tied_plain_at .later [] _ _ _ _ strJoins_said (fun _ h => by cases h) (by kernel_rfl) (fun _ h => by cases h) strJoinsUpto_row_tie rfl ⟨rfl, rfl⟩ (by kernel_rfl) rfl strJoins_plain (by kernel_rfl)
#print axioms strJoins_card
end Go.Proofs.YtcjnlbelgmcpeaaDoor
