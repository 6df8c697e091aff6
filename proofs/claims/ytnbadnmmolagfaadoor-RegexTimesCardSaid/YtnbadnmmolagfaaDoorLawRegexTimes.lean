/- The law RegexTimes (platenlaw4) holds of the program. Conditions: the library's tables unicode/utf8.first and acceptRanges read as their initialisers lay them. -/
import Derived.Test.YtnbadnmmolagfaaDoorRegLaw
import Derived.Test.YtnbadnmmolagfaaDoorRegTimesP
namespace Go.Proofs.YtnbadnmmolagfaaDoor
open Go.RowKit Go.WideShapes Go.ChangeShapes Go.ChangeAt
set_option maxRecDepth 100000
set_option linter.unusedVariables false
set_option linter.unusedSimpArgs false

set_option maxHeartbeats 4000000 in
theorem regexTimes_core (a b n : Int) (x y z : Nat) (w : World) (dx dy zs : ByteArray) (l lf lg : Ln) (hax : bits .and .i64 a 65535 = (x : Int)) (hby : bits .and .i64 b 65535 = (y : Int)) (hnz : bits .and .i64 n 7 = (z : Int)) (hz : z ≤ 7) (HT : Hid (Env w))
    (HDX : Hid (∀ w, Calls Tryd.prog 13 #[.int .i64 (x : Int)] w fun e w' => e = .returned (.string dx) ∧ Below w.heap.size w w'))
    (HDY : Hid (∀ w, Calls Tryd.prog 13 #[.int .i64 (y : Int)] w fun e w' => e = .returned (.string dy) ∧ Below w.heap.size w w'))
    (EZ : Hid ((⟨#[48, 48, 48, 48, 48, 48, 48]⟩ : ByteArray).extract 0 z = zs))
    (EL : Hid ((⟨#[97, 123]⟩ : ByteArray) ++ zs ++ dx ++ ⟨#[57, 57, 57, 57, 57, 57, 57, 57, 57, 57, 57, 57, 57, 57, 57, 57, 57, 57, 57, 57, 44]⟩ ++ dy ++ ⟨#[57, 57, 57, 57, 57, 57, 57, 57, 57, 57, 57, 57, 57, 57, 57, 57, 57, 57, 57, 57, 125, 63]⟩ = strOf l))
    (EF : Hid ((⟨#[97, 123]⟩ : ByteArray) ++ dx ++ ⟨#[125]⟩ = strOf lf)) (EG : Hid ((⟨#[97, 123]⟩ : ByteArray) ++ dx ++ ⟨#[44, 125]⟩ = strOf lg))
    (s1 : dx.size ≤ 20) (s2 : dy.size ≤ 20) (s3 : zs.size ≤ 7)
    (HLL : Hid (l.length ≤ 140737488355328)) (HLF : Hid (lf.length ≤ 140737488355328)) (HLG : Hid (lg.length ≤ 140737488355328))
    (HCK : Hid (checkN l [] = if x ≤ y then (0, 0) else (1, 403))) (HCF : Hid (checkN lf [117] = (0, 0))) (HCG : Hid (checkN lg [] = (0, 0))) :
    Calls Tryd.prog 7 #[.int .i64 a, .int .i64 b, .int .i64 n] w fun e w' => e = .returned (.bool true) ∧ Below w.heap.size w w' := by
  go_enter Tryd.func7, Tryd.ntmps7
  go_wp2_with (go_at_call 9; refine (awake_any _ HT.out).mono ?_; rintro e w1 ⟨rfl, hb1⟩)
  have HB1 := Lib.hid hb1
  clear hb1
  refine (HDX.out _).mono ?_
  rintro e w2 ⟨rfl, hb2⟩
  have HB2 := Lib.hid (HB1.out.call hb2)
  clear hb2
  go_wp2_with fail
  refine (HDY.out _).mono ?_
  rintro e w3 ⟨rfl, hb3⟩
  have HB3 := Lib.hid (HB2.out.call hb3)
  clear hb3
  go_wp2_with fail
  rw [EZ.out, EL.out]
  have HQ : Hid (∃ (at' : Int) (c : Nat), checkN l [] = (at', c) ∧ ((x ≤ y ∧ at' = 0 ∧ c = 0) ∨ (¬ x ≤ y ∧ at' = 1 ∧ c = 403))) := Lib.hid (by
    rw [HCK.out]
    by_cases h1 : x ≤ y
    · rw [if_pos h1]; exact ⟨_, _, rfl, .inl ⟨h1, rfl, rfl⟩⟩
    · rw [if_neg h1]; exact ⟨_, _, rfl, .inr ⟨h1, rfl, rfl⟩⟩)
  obtain ⟨at', c, hck, hq⟩ := HQ.out
  have HCK2 := Lib.hid hck
  clear hck HQ HCK
  refine (check_is (l := l) (fl := []) _ (HT.out.below HB3.out) HLL.out (by decide) HCK2.out).mono ?_
  rintro e w4 ⟨rfl, hb4⟩
  have HB4 := Lib.hid (HB3.out.call hb4)
  clear hb4
  go_wp2_with fail
  rw [EF.out]
  refine (check_is (l := lf) (fl := [117]) _ (HT.out.below HB4.out) HLF.out (by decide) HCF.out).mono ?_
  rintro e w5 ⟨rfl, hb5⟩
  have HB5 := Lib.hid (HB4.out.call hb5)
  clear hb5
  go_wp2_with fail
  rw [EG.out]
  refine (check_is (l := lg) (fl := []) _ (HT.out.below HB5.out) HLG.out (by decide) HCG.out).mono ?_
  rintro e w6 ⟨rfl, hb6⟩
  have HB6 := Lib.hid (HB5.out.call hb6)
  clear hb6
  rcases hq with ⟨h1, rfl, rfl⟩ | ⟨h1, rfl, rfl⟩
  · have h1' : (x : Int) ≤ (y : Int) := by omega
    clear h1
    go_wp2_with (go_at_call 12; refine (num_any _ _).mono ?_; rintro e w9 ⟨rfl, rfl⟩)
    go_ret
    exact ⟨rfl, HB6.out⟩
  · have h1' : ¬ (x : Int) ≤ (y : Int) := by omega
    clear h1
    go_wp2_with (go_at_call 12; refine (num_any _ _).mono ?_; rintro e w9 ⟨rfl, rfl⟩)
    go_ret
    exact ⟨rfl, HB6.out⟩

theorem noughts_all : (List.range 8).all (fun z => ((⟨#[48, 48, 48, 48, 48, 48, 48]⟩ : ByteArray).extract 0 z).data.toList == List.replicate z 48) = true := by decide +kernel
theorem noughts_is {z : Nat} (h : z ≤ 7) : (⟨#[48, 48, 48, 48, 48, 48, 48]⟩ : ByteArray).extract 0 z = strOf (List.replicate z 48) := by
  have h1 := eq_of_beq (List.all_eq_true.1 noughts_all z (List.mem_range.2 (by omega)))
  have h2 : (strOf (List.replicate z 48)).data.toList = List.replicate z 48 := strOf_list _
  have h5 := Array.toList_inj.1 (h1.trans h2.symm)
  revert h5
  generalize strOf (List.replicate z 48) = A
  generalize (⟨#[48, 48, 48, 48, 48, 48, 48]⟩ : ByteArray).extract 0 z = B
  intro h5
  cases A; cases B; simp_all
theorem regexTimes_call (a b n : Int) (w : World) (wa : (Lit.int .i64 a).wf = true) (wb : (Lit.int .i64 b).wf = true) (wn : (Lit.int .i64 n).wf = true) (hT : Env w) :
    Calls Tryd.prog 7 #[.int .i64 a, .int .i64 b, .int .i64 n] w fun e w' => e = .returned (.bool true) ∧ Below w.heap.size w w' := by
  obtain ⟨x, hx, hax⟩ := and_low a 65535 (by decide)
  obtain ⟨y, hy, hby⟩ := and_low b 65535 (by decide)
  obtain ⟨z, hz, hnz⟩ := and_low n 7 (by decide)
  have l1 := decB_size x
  have l2 := decB_size y
  refine regexTimes_core a b n x y z w (strOf (decB (x : Int))) (strOf (decB (y : Int))) (strOf (List.replicate z 48)) (timesL z x y) (onceL x) (leastL x) hax hby hnz hz (Lib.hid hT) (Lib.hid (dec_small x hx)) (Lib.hid (dec_small y hy))
    (Lib.hid (noughts_is hz)) (Lib.hid ?_) (Lib.hid ?_) (Lib.hid ?_) (by rw [strOf_size]; exact l1) (by rw [strOf_size]; exact l2) (by rw [strOf_size, List.length_replicate]; exact hz) (Lib.hid ?_) (Lib.hid ?_) (Lib.hid ?_) (Lib.hid (times_is hz hx hy)) (Lib.hid (once_is x)) (Lib.hid (least_is x))
  · have h1 : strOf [97, 123] ++ strOf (List.replicate z 48) ++ strOf (decB (x : Int)) ++ strOf (nines ++ [44]) ++ strOf (decB (y : Int)) ++ strOf (nines ++ [125, 63]) = strOf (timesL z x y) := by simp only [strOf_append]; simp [timesL]
    exact h1
  · have h1 : strOf [97, 123] ++ strOf (decB (x : Int)) ++ strOf [125] = strOf (onceL x) := by simp only [strOf_append]; simp [onceL]
    exact h1
  · have h1 : strOf [97, 123] ++ strOf (decB (x : Int)) ++ strOf [44, 125] = strOf (leastL x) := by simp only [strOf_append]; simp [leastL]
    exact h1
  · simp [timesL, nines]; omega
  · simp [onceL]; omega
  · simp [leastL]; omega

/-- What the walk gives, for every argument. -/
theorem regexTimes_contract (H : Type) (enc : TypeId × Value → H) (W : World) (base : Nat) (args : Array Value) (ds gs : List (DataW H)) (before : List MemPlace)
    (hval : ∀ (j : Nat) t v, Tryd.f7.params[j]? = some t → args[j]? = some v → Value.okWide Tryd.prog W .any base t v)
    (hW : DataW.Whole enc Tryd.prog Tryd.f7.params.toList Rows.regexTimesSpec.vars false W args.toList ds gs before)
    (hsz : (DataW.weightsEach Tryd.prog (Tryd.f7.params.toList ++ Rows.regexTimesSpec.plain.varTypes Tryd.prog) (ds ++ gs)).all (· ≤ reachBytes) = true) (hT : Env W) :
    Calls Tryd.prog 7 args W fun e W' => ∃ v, e = .returned v ∧ Rows.regexTimesSpec.post enc Tryd.prog Tryd.f7 false true false false W args v W' := by
  have hW' := hW
  obtain ⟨p, q, hA0, hV, rfl, hfz, hnd⟩ := hW
  have hA : DataW.TrodAll enc Tryd.prog W 0 (fun _ => true) true Tryd.f7.params.toList args.toList ds p := hA0
  rw [Tryd.params7] at hA hval hsz
  obtain ⟨v0, vs0, d0, ds0, p0, q0, hargs, rfl, rfl, h0, r0⟩ := trodAll_cons hA
  obtain ⟨v1, vs1, d1, ds1, p1, q1, rfl, rfl, rfl, h1, r1⟩ := trodAll_cons r0
  obtain ⟨v2, vs2, d2, ds2, p2, q2, rfl, rfl, rfl, h2, r2⟩ := trodAll_cons r1
  obtain ⟨rfl, rfl, rfl⟩ := trodAll_nil r2
  obtain rfl : args = #[v0, v1, v2] := by cases args; simp_all
  obtain ⟨rfl, rfl⟩ := trodVars_none hV
  obtain ⟨a0, rfl, rfl, rfl, w0⟩ := open_int Tryd.underlying3 (hval 0 3 v0 rfl rfl) h0
  obtain ⟨a1, rfl, rfl, rfl, w1⟩ := open_int Tryd.underlying3 (hval 1 3 v1 rfl rfl) h1
  obtain ⟨a2, rfl, rfl, rfl, w2⟩ := open_int Tryd.underlying3 (hval 2 3 v2 rfl rfl) h2
  clear hA0 hval
  refine (regexTimes_call a0 a1 a2 W w0 w1 w2 hT).mono fun e W' ⟨he, hb⟩ => ?_
  subst he
  exact ⟨_, rfl, law_post (pa := []) (pv := []) Tryd.underlying4 (by kernel_rfl) hW' rfl (fun sp _ => (trodAll_cons_mk (shut_int Tryd.underlying3 w0) (trodAll_cons_mk (shut_int Tryd.underlying3 w1) (trodAll_cons_mk (shut_int Tryd.underlying3 w2) trodAll_mk0)))) (fun _ _ => rfl) hb⟩

theorem regexTimes_reads (os : Os) {H : Type} (enc : TypeId × Value → H) : ∃ places, DataW.whole enc Tryd.prog ((laidWorld os).forCall (fun _ _ => 0) ⟨#[], #[.int .i64 0, .int .i64 0, .int .i64 0], []⟩).memory Tryd.f7.params.toList Rows.regexTimesSpec.vars false (#[.int .i64 0, .int .i64 0, .int .i64 0] : Array Value).toList 8 = some ([.lit (.int .i64 0), .lit (.int .i64 0), .lit (.int .i64 0)], [], places) :=
  ⟨[], by kernel_rfl⟩
theorem regexTimes_lifted (os : Os) (started : os.Started) (H : Type) (enc : TypeId × Value → H) (F : Stop.Interp) :
    ReturnsInHanded {} Tryd.checked os 7 .any ((OpenSpec.ofChange Rows.regexTimesSpec).preRow enc Tryd.prog Tryd.f7 Rows.regexTimesRow.domain false Rows.regexTimesRow.laid) (((OpenSpec.ofChange Rows.regexTimesSpec).at F).post enc Tryd.prog Tryd.f7 false true false false) := by
  obtain ⟨places, hx⟩ := regexTimes_reads os enc
  refine returnsInHanded_of_row (C := Tryd.checked) (s := (OpenSpec.ofChange Rows.regexTimesSpec)) ownKnob_none started (by kernel_rfl) Tryd.func7
    (witness_row_at (enc := enc) (C := Tryd.checked) false (laidWorld os) #[.int .i64 0, .int .i64 0, .int .i64 0] rfl (by kernel_rfl) (by kernel_rfl) (by kernel_rfl)
      (OpenSpec.preRow_of_cond 8 hx (by kernel_rfl) (fun k hk => by cases hk) (by kernel_rfl) (laid_met os _))) ?_
  intro W base args ds gs before hval hW _ _ hsz hL hSh _
  exact regexTimes_contract H enc W base args ds gs before hval hW hsz (env_of_laid hL hSh)
theorem regexTimes_said : Rows.RegexTimesSaid :=
  OpenClaim.holds_of_cond 7 Tryd.f7 rfl rfl rfl rfl rfl rfl rfl ⟨rfl, rfl, rfl, rfl, rfl⟩ rfl rfl rfl rfl rfl (by kernel_rfl) Tryd.func7 (by kernel_rfl)
    (of_decide_eq_true (by kernel_rfl)) (by unfold Func.isWrapper; first | (rw [if_pos (by decide +kernel)]; kernel_rfl) | (rw [if_neg (by decide +kernel)]; exact ⟨rfl, rfl⟩))
    (fun os started H enc _ F => by rw [OpenClaim.pre_eq_preRow]; exact regexTimes_lifted os started H enc F)
theorem regexTimes_plain (f : FuncId) (fn : Func) (hf : Tryd.pinned.checked.prog.funcNamed Rows.regexTimesRow.func = some f) (hfn : Tryd.pinned.checked.prog.funcs[f]? = some fn) :
    true = Tryd.pinned.checked.prog.looks [] ∧ ∀ (j : Nat) t, fn.params[j]? = some t → Tryd.pinned.checked.prog.wantsStandIn t = false := by
  obtain rfl : f = 7 := Option.some.inj ((show Tryd.prog.funcNamed Rows.regexTimesRow.func = some 7 by kernel_rfl).symm.trans hf) |>.symm
  obtain rfl : fn = Tryd.f7 := (Option.some.inj (Tryd.func7.symm.trans hfn)).symm
  refine ⟨by kernel_rfl, fun j t ht => ?_⟩
  rw [Tryd.params7] at ht
  have hm := Array.mem_of_getElem? ht
  have hall : ∀ t ∈ (#[3, 3, 3] : Array TypeId), Tryd.prog.wantsStandIn t = false := by
    intro t ht
    simp only [List.mem_toArray, List.mem_cons, List.mem_nil_iff, or_false] at ht
    rcases ht with rfl | rfl | rfl
    all_goals kernel_rfl
  exact hall t hm

/-- THE CARD. -/
theorem regexTimes_card : Rows.RegexTimesCardSaid :=
  Claim7.holds_tied_plain_at .later [] _ _ _ _ regexTimes_said (fun _ h => by cases h) (by kernel_rfl) (fun _ h => by cases h) regexTimes_row_tie rfl ⟨rfl, rfl⟩ (by kernel_rfl) rfl regexTimes_plain (by kernel_rfl)
#print axioms regexTimes_card
end Go.Proofs.YtnbadnmmolagfaaDoor
