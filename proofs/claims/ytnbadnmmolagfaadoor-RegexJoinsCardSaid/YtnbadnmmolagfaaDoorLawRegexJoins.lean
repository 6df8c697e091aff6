/- The law RegexJoins (platenlaw4) holds of the program. Conditions: the library's tables unicode/utf8.first and acceptRanges read as their initialisers lay them. -/
import Derived.Test.YtnbadnmmolagfaaDoorRegLaw
import Derived.Test.YtnbadnmmolagfaaDoorRegJoinS
namespace Go.Proofs.YtnbadnmmolagfaaDoor
open Go.RowKit Go.WideShapes Go.ChangeShapes Go.ChangeAt
open Go.ChangeMaps (open_string shut_string)
set_option maxRecDepth 100000
set_option linter.unusedVariables false
set_option linter.unusedSimpArgs false

/-- May a letter stand ahead of another one? -/
def plainAt (c d : Nat) : Bool := !((c == 92 && (decide (49 ≤ d) && decide (d ≤ 57) || d == 107)) || (c == 63 && d == 60))
theorem plainB_cons (c : UInt8) (r : Ln) : plainB (c :: r) = (!((c == 92 && (decide (49 ≤ peekL r) && decide (peekL r ≤ 57) || peekL r == 107)) || (c == 63 && peekL r == 60)) && plainB r) := rfl
theorem plain_step {l : Ln} {j : Nat} (h : j + 1 < l.length) : plainB (l.drop j) = (plainAt (l[j]'(by omega)).toNat (l[j + 1]'h).toNat && plainB (l.drop (j + 1))) := by
  have e1 := List.drop_eq_getElem_cons (l := l) (i := j) (by omega)
  have e2 := List.drop_eq_getElem_cons (l := l) (i := j + 1) h
  have e3 : peekL (l.drop (j + 1)) = (l[j + 1]'h).toNat := by rw [e2]; rfl
  rw [e1, plainB_cons, e3]
  unfold plainAt
  have a1 : (l[j]'(by omega) == 92) = ((l[j]'(by omega)).toNat == 92) := by rw [Bool.eq_iff_iff]; simp [← UInt8.toNat_inj]
  have a2 : (l[j]'(by omega) == 63) = ((l[j]'(by omega)).toNat == 63) := by rw [Bool.eq_iff_iff]; simp [← UInt8.toNat_inj]
  rw [a1, a2]
theorem plain_end {l : Ln} {j : Nat} (h : l.length ≤ j + 1) : plainB (l.drop j) = true := by
  rcases Nat.lt_or_ge j l.length with hj | hj
  · have e1 := List.drop_eq_getElem_cons (l := l) (i := j) hj
    have e2 : l.drop (j + 1) = [] := List.drop_of_length_le (by omega)
    rw [e1, e2]
    simp [plainB, peekL]
  · rw [List.drop_of_length_le hj]; rfl

set_option maxHeartbeats 8000000 in
theorem plain_any (l : Ln) (w : World) (hl : l.length ≤ 140737488355328) :
    Calls Tryd.prog 11 #[.string (strOf l)] w fun e w' => e = .returned (.bool (plainB l)) ∧ w = w' := by
  have hz := strOf_size l
  go_enter Tryd.func11, Tryd.ntmps11
  go_wp2_with fail
  go_loopw [3] (fun i wr => ∃ j : Nat, j ≤ l.length ∧ i = .int .i64 (j : Int) ∧ plainB l = plainB (l.drop j) ∧ wr = w) (fun i _ => l.length - (intOf i).toNat)
  case atStart => exact ⟨0, by omega, rfl, rfl, rfl⟩
  case round =>
    obtain ⟨j, hj, rfl, hp, rfl⟩ := hrel
    have HP := Lib.hid hp
    clear hp
    by_cases hlt : j + 1 < l.length
    · have hlt' : (j : Int) + 1 < (l.length : Int) := by omega
      have hs0 : j < (strOf l).size := by omega
      have hs1 : j + 1 < (strOf l).size := by omega
      have hb0 := byte_at hs0 (show j < l.length by omega)
      have hb1 := byte_at hs1 hlt
      have HS := Lib.hid (plain_step hlt)
      generalize (l[j]'(show j < l.length by omega)).toNat = c at hb0 HS
      generalize (l[j + 1]'hlt).toNat = d at hb1 HS
      have hcs : (c = 92 ∧ 49 ≤ d ∧ d ≤ 57) ∨ (c = 92 ∧ 49 ≤ d ∧ ¬ d ≤ 57 ∧ d = 107) ∨ (c = 92 ∧ 49 ≤ d ∧ ¬ d ≤ 57 ∧ d ≠ 107) ∨ (c = 92 ∧ ¬ 49 ≤ d) ∨ (c ≠ 92 ∧ c = 63 ∧ d = 60) ∨ (c ≠ 92 ∧ c = 63 ∧ d ≠ 60) ∨ (c ≠ 92 ∧ c ≠ 63) := by omega
      rcases hcs with hcs | hcs | hcs | hcs | hcs | hcs | hcs
      · have HR : Hid (plainAt c d = false) := Lib.hid (by unfold plainAt; simp; omega)
        have e92 : ((c : Int) == 92) = true := by simp; omega
        have e49 : decide ((d : Int) ≥ 49) = true := by simp; omega
        have e57 : decide ((d : Int) ≤ 57) = true := by simp; omega
        clear hcs
        go_wp2_with fail
        go_ret
        exact ⟨ret_bool (by rw [HP.out, HS.out, HR.out]; rfl), rfl⟩
      · have HR : Hid (plainAt c d = false) := Lib.hid (by unfold plainAt; simp; omega)
        have e92 : ((c : Int) == 92) = true := by simp; omega
        have e49 : decide ((d : Int) ≥ 49) = true := by simp; omega
        have e57 : decide ((d : Int) ≤ 57) = false := by simp; omega
        have e107 : ((d : Int) == 107) = true := by simp; omega
        clear hcs
        go_wp2_with fail
        go_ret
        exact ⟨ret_bool (by rw [HP.out, HS.out, HR.out]; rfl), rfl⟩
      · have HR : Hid (plainAt c d = true) := Lib.hid (by unfold plainAt; simp; omega)
        have e92 : ((c : Int) == 92) = true := by simp; omega
        have e49 : decide ((d : Int) ≥ 49) = true := by simp; omega
        have e57 : decide ((d : Int) ≤ 57) = false := by simp; omega
        have e107 : ((d : Int) == 107) = false := by simp; omega
        have e63 : ((c : Int) == 63) = false := by simp; omega
        clear hcs
        go_wp2_with fail
        go_roundw
        case rel => exact ⟨j + 1, by omega, by go_num, by rw [HP.out, HS.out, HR.out]; rfl, by trivial⟩
        case measure => simp [intOf]; omega
      · have HR : Hid (plainAt c d = true) := Lib.hid (by unfold plainAt; simp; omega)
        have e92 : ((c : Int) == 92) = true := by simp; omega
        have e49 : decide ((d : Int) ≥ 49) = false := by simp; omega
        have e107 : ((d : Int) == 107) = false := by simp; omega
        have e63 : ((c : Int) == 63) = false := by simp; omega
        clear hcs
        go_wp2_with fail
        go_roundw
        case rel => exact ⟨j + 1, by omega, by go_num, by rw [HP.out, HS.out, HR.out]; rfl, by trivial⟩
        case measure => simp [intOf]; omega
      · have HR : Hid (plainAt c d = false) := Lib.hid (by unfold plainAt; simp; omega)
        have e92 : ((c : Int) == 92) = false := by simp; omega
        have e63 : ((c : Int) == 63) = true := by simp; omega
        have e60 : ((d : Int) == 60) = true := by simp; omega
        clear hcs
        go_wp2_with fail
        go_ret
        exact ⟨ret_bool (by rw [HP.out, HS.out, HR.out]; rfl), rfl⟩
      · have HR : Hid (plainAt c d = true) := Lib.hid (by unfold plainAt; simp; omega)
        have e92 : ((c : Int) == 92) = false := by simp; omega
        have e63 : ((c : Int) == 63) = true := by simp; omega
        have e60 : ((d : Int) == 60) = false := by simp; omega
        clear hcs
        go_wp2_with fail
        go_roundw
        case rel => exact ⟨j + 1, by omega, by go_num, by rw [HP.out, HS.out, HR.out]; rfl, by trivial⟩
        case measure => simp [intOf]; omega
      · have HR : Hid (plainAt c d = true) := Lib.hid (by unfold plainAt; simp; omega)
        have e92 : ((c : Int) == 92) = false := by simp; omega
        have e63 : ((c : Int) == 63) = false := by simp; omega
        clear hcs
        go_wp2_with fail
        go_roundw
        case rel => exact ⟨j + 1, by omega, by go_num, by rw [HP.out, HS.out, HR.out]; rfl, by trivial⟩
        case measure => simp [intOf]; omega
    · have hlt' : ¬ (j : Int) + 1 < (l.length : Int) := by omega
      have HE := Lib.hid (plain_end (l := l) (j := j) (by omega))
      go_wp2_with fail
      go_ret
      exact ⟨ret_bool (by rw [HP.out, HE.out]), rfl⟩

theorem ne_beq {n : Nat} (h : n ≠ 0) : ((n : Int) == 0) = false := by simp; omega
set_option maxHeartbeats 8000000 in
theorem regexJoins_core (la lb lf lg lh li : Ln) (w : World) (ka kb : Int) (ca cb : Nat) (pa pb : Bool) (HT : Hid (Env w)) (ha : la.length ≤ 140737488351232) (hb : lb.length ≤ 140737488351232) (hf : lf.length ≤ 140737488351232)
    (HPA : Hid (plainB la = pa)) (HPB : Hid (plainB lb = pb)) (HCA : Hid (checkN la lf = (ka, ca))) (HCB : Hid (checkN lb lf = (kb, cb)))
    (EG : Hid (la.length + lb.length + 9 ≤ 4096 → strOf la ++ ⟨#[124]⟩ ++ strOf lb = strOf lg)) (EH : Hid ((⟨#[40]⟩ : ByteArray) ++ strOf la ++ ⟨#[41, 42]⟩ = strOf lh)) (EI : Hid ((⟨#[40, 63, 61]⟩ : ByteArray) ++ strOf la ++ ⟨#[41, 40, 63, 58]⟩ ++ strOf lb ++ ⟨#[41, 63]⟩ = strOf li))
    (HL : Hid (la.length + lb.length + 9 ≤ 4096 → lg.length ≤ 140737488355328 ∧ lh.length ≤ 140737488355328 ∧ li.length ≤ 140737488355328))
    (HJ : Hid (pa = true → pb = true → ca = 0 → cb = 0 → la.length + lb.length + 9 ≤ 4096 → checkN lg lf = (0, 0) ∧ checkN lh lf = (0, 0) ∧ checkN li lf = (0, 0))) :
    Calls Tryd.prog 3 #[.string (strOf la), .string (strOf lb), .string (strOf lf)] w fun e w' => e = .returned (.bool true) ∧ Below w.heap.size w w' := by
  have hza := strOf_size la
  have hzb := strOf_size lb
  go_enter Tryd.func3, Tryd.ntmps3
  go_wp2_with (go_at_call 9; refine (awake_any _ HT.out).mono ?_; rintro e w1 ⟨rfl, hb1⟩)
  have HB1 := Lib.hid hb1
  clear hb1
  refine (check_is (l := la) (fl := lf) _ (HT.out.below HB1.out) (by omega) (by omega) HCA.out).mono ?_
  rintro e w2 ⟨rfl, hb2⟩
  have HB2 := Lib.hid (HB1.out.call hb2)
  clear hb2
  go_wp2_with fail
  refine (check_is (l := lb) (fl := lf) _ (HT.out.below HB2.out) (by omega) (by omega) HCB.out).mono ?_
  rintro e w3 ⟨rfl, hb3⟩
  have HB3 := Lib.hid (HB2.out.call hb3)
  clear hb3
  go_wp2_with fail
  have hpa := plain_any la w3 (by omega)
  rw [HPA.out] at hpa
  refine hpa.mono ?_
  rintro e w4 ⟨rfl, rfl⟩
  clear hpa
  cases pa
  · go_wp2_with fail
    go_ret
    exact ⟨rfl, HB3.out⟩
  · go_wp2_with fail
    have hpb := plain_any lb w3 (by omega)
    rw [HPB.out] at hpb
    refine hpb.mono ?_
    rintro e w4 ⟨rfl, rfl⟩
    clear hpb
    cases pb
    · go_wp2_with fail
      go_ret
      exact ⟨rfl, HB3.out⟩
    · by_cases h1 : ca = 0
      · have e1 : ((ca : Int) != 0) = false := by simp; omega
        by_cases h2 : cb = 0
        · have e2 : ((cb : Int) != 0) = false := by simp; omega
          by_cases h3 : la.length + lb.length + 9 ≤ 4096
          · obtain ⟨j1, j2, j3⟩ := HJ.out (by trivial) (by trivial) h1 h2 h3
            obtain ⟨l1, l2, l3⟩ := HL.out h3
            have eg := EG.out h3
            have J1 := Lib.hid j1
            have J2 := Lib.hid j2
            have J3 := Lib.hid j3
            have L1 := Lib.hid l1
            have L2 := Lib.hid l2
            have L3 := Lib.hid l3
            have EG2 := Lib.hid eg
            have h3' : ¬ (4096 : Int) < (la.length : Int) + (lb.length : Int) + 9 := by omega
            clear j1 j2 j3 l1 l2 l3 eg HJ HL EG h1 h2
            go_wp2_with (go_at_call 12; refine (num_any _ _).mono ?_; rintro e w9 ⟨rfl, rfl⟩)
            rw [EG2.out]
            refine (check_is (l := lg) (fl := lf) _ (HT.out.below HB3.out) L1.out (by omega) J1.out).mono ?_
            rintro e w5 ⟨rfl, hb5⟩
            have HB5 := Lib.hid (HB3.out.call hb5)
            clear hb5
            go_wp2_with fail
            rw [EH.out]
            refine (check_is (l := lh) (fl := lf) _ (HT.out.below HB5.out) L2.out (by omega) J2.out).mono ?_
            rintro e w6 ⟨rfl, hb6⟩
            have HB6 := Lib.hid (HB5.out.call hb6)
            clear hb6
            go_wp2_with fail
            rw [EI.out]
            refine (check_is (l := li) (fl := lf) _ (HT.out.below HB6.out) L3.out (by omega) J3.out).mono ?_
            rintro e w7 ⟨rfl, hb7⟩
            have HB7 := Lib.hid (HB6.out.call hb7)
            clear hb7
            go_wp2_with (go_at_call 12; refine (num_any _ _).mono ?_; rintro e w9 ⟨rfl, rfl⟩)
            go_ret
            exact ⟨rfl, HB7.out⟩
          · have h3' : (4096 : Int) < (la.length : Int) + (lb.length : Int) + 9 := by omega
            go_wp2_with (go_at_call 12; refine (num_any _ _).mono ?_; rintro e w9 ⟨rfl, rfl⟩)
            go_ret
            exact ⟨rfl, HB3.out⟩
        · have e2 : ((cb : Int) != 0) = true := by simp; omega
          go_wp2_with (go_at_call 12; refine (num_any _ _).mono ?_; rintro e w9 ⟨rfl, rfl⟩)
          go_ret
          exact ⟨rfl, HB3.out⟩
      · have e1 : ((ca : Int) != 0) = true := by simp; omega
        go_wp2_with (go_at_call 12; refine (num_any _ _).mono ?_; rintro e w9 ⟨rfl, rfl⟩)
        go_ret
        exact ⟨rfl, HB3.out⟩

theorem regexJoins_call (a b f : ByteArray) (w : World) (ha : a.size ≤ 140737488351232) (hb : b.size ≤ 140737488351232) (hf : f.size ≤ 140737488351232) (hT : Env w) :
    Calls Tryd.prog 3 #[.string a, .string b, .string f] w fun e w' => e = .returned (.bool true) ∧ Below w.heap.size w w' := by
  obtain ⟨la, rfl⟩ : ∃ l : Ln, a = strOf l := ⟨a.data.toList, by cases a; rfl⟩
  obtain ⟨lb, rfl⟩ : ∃ l : Ln, b = strOf l := ⟨b.data.toList, by cases b; rfl⟩
  obtain ⟨lf, rfl⟩ : ∃ l : Ln, f = strOf l := ⟨f.data.toList, by cases f; rfl⟩
  rw [strOf_size] at ha hb hf
  refine regexJoins_core la lb lf (la ++ 124 :: lb) (40 :: (la ++ [41, 42])) (40 :: 63 :: 61 :: (la ++ 41 :: (40 :: 63 :: 58 :: (lb ++ [41, 63])))) w (checkN la lf).1 (checkN lb lf).1 (checkN la lf).2 (checkN lb lf).2 (plainB la) (plainB lb) (Lib.hid hT) ha hb hf
    (Lib.hid rfl) (Lib.hid rfl) (Lib.hid rfl) (Lib.hid rfl) (Lib.hid fun _ => ?_) (Lib.hid ?_) (Lib.hid ?_) (Lib.hid fun h => ?_) (Lib.hid fun p q h1 h2 hl => joins_are p q h1 h2 hl)
  · have h1 : strOf la ++ strOf [124] ++ strOf lb = strOf (la ++ 124 :: lb) := by simp only [strOf_append]; simp
    exact h1
  · have h1 : strOf [40] ++ strOf la ++ strOf [41, 42] = strOf (40 :: (la ++ [41, 42])) := by simp only [strOf_append]; simp
    exact h1
  · have h1 : strOf [40, 63, 61] ++ strOf la ++ strOf [41, 40, 63, 58] ++ strOf lb ++ strOf [41, 63] = strOf (40 :: 63 :: 61 :: (la ++ 41 :: (40 :: 63 :: 58 :: (lb ++ [41, 63])))) := by simp only [strOf_append]; simp
    exact h1
  · simp; omega

/-- What the walk gives, for every argument. -/
theorem regexJoins_contract (H : Type) (enc : TypeId × Value → H) (W : World) (base : Nat) (args : Array Value) (ds gs : List (DataW H)) (before : List MemPlace)
    (hval : ∀ (j : Nat) t v, Tryd.f3.params[j]? = some t → args[j]? = some v → Value.okWide Tryd.prog W .any base t v)
    (hW : DataW.Whole enc Tryd.prog Tryd.f3.params.toList Rows.regexJoinsSpec.vars false W args.toList ds gs before)
    (hsz : (DataW.weightsEach Tryd.prog (Tryd.f3.params.toList ++ Rows.regexJoinsSpec.plain.varTypes Tryd.prog) (ds ++ gs)).all (· ≤ reachBytes) = true) (hT : Env W) :
    Calls Tryd.prog 3 args W fun e W' => ∃ v, e = .returned v ∧ Rows.regexJoinsSpec.post enc Tryd.prog Tryd.f3 false true false false W args v W' := by
  have hW' := hW
  obtain ⟨p, q, hA0, hV, rfl, hfz, hnd⟩ := hW
  have hA : DataW.TrodAll enc Tryd.prog W 0 (fun _ => true) true Tryd.f3.params.toList args.toList ds p := hA0
  rw [Tryd.params3] at hA hval hsz
  obtain ⟨v0, vs0, d0, ds0, p0, q0, hargs, rfl, rfl, h0, r0⟩ := trodAll_cons hA
  obtain ⟨v1, vs1, d1, ds1, p1, q1, rfl, rfl, rfl, h1, r1⟩ := trodAll_cons r0
  obtain ⟨v2, vs2, d2, ds2, p2, q2, rfl, rfl, rfl, h2, r2⟩ := trodAll_cons r1
  obtain ⟨rfl, rfl, rfl⟩ := trodAll_nil r2
  obtain rfl : args = #[v0, v1, v2] := by cases args; simp_all
  obtain ⟨rfl, rfl⟩ := trodVars_none hV
  obtain ⟨a0, rfl, rfl, rfl, s0⟩ := open_string Tryd.underlying9 (hval 0 9 v0 rfl rfl) h0
  obtain ⟨a1, rfl, rfl, rfl, s1⟩ := open_string Tryd.underlying9 (hval 1 9 v1 rfl rfl) h1
  obtain ⟨a2, rfl, rfl, rfl, s2⟩ := open_string Tryd.underlying9 (hval 2 9 v2 rfl rfl) h2
  clear hA0 hval
  have z0 : a0.size ≤ 140737488351232 := by
    have := sized_string hsz (j := 0) (t := 9) rfl rfl
    simpa [reachBytes] using this
  have z1 : a1.size ≤ 140737488351232 := by
    have := sized_string hsz (j := 1) (t := 9) rfl rfl
    simpa [reachBytes] using this
  have z2 : a2.size ≤ 140737488351232 := by
    have := sized_string hsz (j := 2) (t := 9) rfl rfl
    simpa [reachBytes] using this
  refine (regexJoins_call a0 a1 a2 W (by omega) (by omega) (by omega) hT).mono fun e W' ⟨he, hb⟩ => ?_
  subst he
  exact ⟨_, rfl, law_post (pa := []) (pv := []) Tryd.underlying4 (by kernel_rfl) hW' rfl (fun sp _ => (trodAll_cons_mk (shut_string Tryd.underlying9 s0) (trodAll_cons_mk (shut_string Tryd.underlying9 s1) (trodAll_cons_mk (shut_string Tryd.underlying9 s2) trodAll_mk0)))) (fun _ _ => rfl) hb⟩

theorem regexJoins_reads (os : Os) {H : Type} (enc : TypeId × Value → H) : ∃ places, DataW.whole enc Tryd.prog ((laidWorld os).forCall (fun _ _ => 0) ⟨#[], #[.string ⟨#[]⟩, .string ⟨#[]⟩, .string ⟨#[]⟩], []⟩).memory Tryd.f3.params.toList Rows.regexJoinsSpec.vars false (#[.string ⟨#[]⟩, .string ⟨#[]⟩, .string ⟨#[]⟩] : Array Value).toList 8 = some ([.lit (.string []), .lit (.string []), .lit (.string [])], [], places) :=
  ⟨[], by kernel_rfl⟩
theorem regexJoins_lifted (os : Os) (started : os.Started) (H : Type) (enc : TypeId × Value → H) (F : Stop.Interp) :
    ReturnsInHanded {} Tryd.checked os 3 .any ((OpenSpec.ofChange Rows.regexJoinsSpec).preRow enc Tryd.prog Tryd.f3 Rows.regexJoinsRow.domain false Rows.regexJoinsRow.laid) (((OpenSpec.ofChange Rows.regexJoinsSpec).at F).post enc Tryd.prog Tryd.f3 false true false false) := by
  obtain ⟨places, hx⟩ := regexJoins_reads os enc
  refine returnsInHanded_of_row (C := Tryd.checked) (s := (OpenSpec.ofChange Rows.regexJoinsSpec)) ownKnob_none started (by kernel_rfl) Tryd.func3
    (witness_row_at (enc := enc) (C := Tryd.checked) false (laidWorld os) #[.string ⟨#[]⟩, .string ⟨#[]⟩, .string ⟨#[]⟩] rfl (by kernel_rfl) (by kernel_rfl) (by kernel_rfl)
      (OpenSpec.preRow_of_cond 8 hx (by kernel_rfl) (fun k hk => by cases hk) (by kernel_rfl) (laid_met os _))) ?_
  intro W base args ds gs before hval hW _ _ hsz hL hSh _
  exact regexJoins_contract H enc W base args ds gs before hval hW hsz (env_of_laid hL hSh)
theorem regexJoins_said : Rows.RegexJoinsSaid :=
  OpenClaim.holds_of_cond 3 Tryd.f3 rfl rfl rfl rfl rfl rfl rfl ⟨rfl, rfl, rfl, rfl, rfl⟩ rfl rfl rfl rfl rfl (by kernel_rfl) Tryd.func3 (by kernel_rfl)
    (of_decide_eq_true (by kernel_rfl)) (by unfold Func.isWrapper; first | (rw [if_pos (by decide +kernel)]; kernel_rfl) | (rw [if_neg (by decide +kernel)]; exact ⟨rfl, rfl⟩))
    (fun os started H enc _ F => by rw [OpenClaim.pre_eq_preRow]; exact regexJoins_lifted os started H enc F)
theorem regexJoins_plain (f : FuncId) (fn : Func) (hf : Tryd.pinned.checked.prog.funcNamed Rows.regexJoinsRow.func = some f) (hfn : Tryd.pinned.checked.prog.funcs[f]? = some fn) :
    true = Tryd.pinned.checked.prog.looks [] ∧ ∀ (j : Nat) t, fn.params[j]? = some t → Tryd.pinned.checked.prog.wantsStandIn t = false := by
  obtain rfl : f = 3 := Option.some.inj ((show Tryd.prog.funcNamed Rows.regexJoinsRow.func = some 3 by kernel_rfl).symm.trans hf) |>.symm
  obtain rfl : fn = Tryd.f3 := (Option.some.inj (Tryd.func3.symm.trans hfn)).symm
  refine ⟨by kernel_rfl, fun j t ht => ?_⟩
  rw [Tryd.params3] at ht
  have hm := Array.mem_of_getElem? ht
  have hall : ∀ t ∈ (#[9, 9, 9] : Array TypeId), Tryd.prog.wantsStandIn t = false := by
    intro t ht
    simp only [List.mem_toArray, List.mem_cons, List.mem_nil_iff, or_false] at ht
    rcases ht with rfl | rfl | rfl
    all_goals kernel_rfl
  exact hall t hm

/-- THE CARD. -/
theorem regexJoins_card : Rows.RegexJoinsCardSaid :=
  Claim7.holds_tied_plain_at .later [] _ _ _ _ regexJoins_said (fun _ h => by cases h) (by kernel_rfl) (fun _ h => by cases h) regexJoins_row_tie rfl ⟨rfl, rfl⟩ (by kernel_rfl) rfl regexJoins_plain (by kernel_rfl)
#print axioms regexJoins_card
end Go.Proofs.YtnbadnmmolagfaaDoor
