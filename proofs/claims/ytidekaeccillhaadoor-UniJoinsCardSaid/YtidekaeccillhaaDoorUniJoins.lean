/- WHAT IS PROVED: UniJoins holds for every two texts: widths of valid texts add up, and joined they are valid. Condition: the listed tables of the library's decoder read as its text lays them (the card ties them); the form's own reach. -/
import Derived.Test.YtidekaeccillhaaDoorCard
import Derived.Test.YtidekaeccillhaaDoorUniLawPlain
namespace Go.Proofs.YtidekaeccillhaaDoor
open Go.RowKit Go.ChangeShapes Go.WideShapes Go.ChangeAt
open Go.ChangeMaps (open_string shut_string)
set_option maxRecDepth 100000
set_option linter.unusedVariables false

set_option maxHeartbeats 4000000 in
theorem uniJoins_bad (s t : ByteArray) (w : World) (hs : s.size ≤ 1000000000000000000) (ht : t.size ≤ 1000000000000000000) (p : Nat) (hp : badRest s 0 = some p) (hT : Tabs w) :
    Calls Tryd.prog 7 #[.string s, .string t] w fun e w' => e = .returned (.bool true) ∧ Below w.heap.size w w' := by
  have HT := Lib.hid hT
  have hst : s.size + t.size ≤ 2305843009213693952 := by omega
  have HST : Hid ((s ++ t).size ≤ 2305843009213693952) := Lib.hid (by rw [app_size]; exact hst)
  have HV := Lib.hid (valid_some hp)
  have hlt : p < s.size := bad_lt s _ _ _ hp
  clear hT hp
  go_enter Tryd.func7, Tryd.ntmps7
  go_wp2_with fail
  refine (awake1_any w HT.out).mono ?_
  rintro e w1 ⟨rfl, hw1⟩
  go_wp2_with fail
  refine (valid_is s w1 (by omega) (HT.out.below hw1) HV.out).mono ?_
  rintro e w2 ⟨rfl, hw2⟩
  go_wp2_with fail
  refine (valid_any t w2 (by omega) (HT.out.below (hw1.call hw2))).mono ?_
  rintro e w3 ⟨rfl, hw3⟩
  go_wp2_with fail
  refine (valid_any (s ++ t) w3 HST.out (HT.out.below ((hw1.call hw2).call hw3))).mono ?_
  rintro e w4 ⟨rfl, hw4⟩
  go_wp2_with fail
  refine (num_any 100 w4).mono ?_
  rintro e w5 ⟨rfl, rfl⟩
  go_wp2_with fail
  go_ret
  exact ⟨rfl, (((hw1.call hw2).call hw3).call hw4)⟩
set_option maxHeartbeats 4000000 in
theorem uniJoins_half (s t : ByteArray) (w : World) (hs : s.size ≤ 1000000000000000000) (ht : t.size ≤ 1000000000000000000) (p : Nat) (hn : badRest s 0 = Option.none) (hp : badRest t 0 = some p) (hT : Tabs w) :
    Calls Tryd.prog 7 #[.string s, .string t] w fun e w' => e = .returned (.bool true) ∧ Below w.heap.size w w' := by
  have HT := Lib.hid hT
  have hst : s.size + t.size ≤ 2305843009213693952 := by omega
  have HST : Hid ((s ++ t).size ≤ 2305843009213693952) := Lib.hid (by rw [app_size]; exact hst)
  have HV := Lib.hid (valid_none hn)
  have HU := Lib.hid (valid_some hp)
  have hj : badRest (s ++ t) 0 = some (s.size + p) := by rw [app_bad s t hn, hp]; rfl
  have HG := Lib.hid (valid_some hj)
  clear hj
  clear hT hp hn
  go_enter Tryd.func7, Tryd.ntmps7
  go_wp2_with fail
  refine (awake1_any w HT.out).mono ?_
  rintro e w1 ⟨rfl, hw1⟩
  go_wp2_with fail
  refine (valid_is s w1 (by omega) (HT.out.below hw1) HV.out).mono ?_
  rintro e w2 ⟨rfl, hw2⟩
  go_wp2_with fail
  refine (valid_is t w2 (by omega) (HT.out.below (hw1.call hw2)) HU.out).mono ?_
  rintro e w3 ⟨rfl, hw3⟩
  go_wp2_with fail
  refine (valid_is (s ++ t) w3 HST.out (HT.out.below ((hw1.call hw2).call hw3)) HG.out).mono ?_
  rintro e w4 ⟨rfl, hw4⟩
  go_wp2_with fail
  refine (num_any 0 w4).mono ?_
  rintro e w5 ⟨rfl, rfl⟩
  go_wp2_with fail
  refine (num_any 100 w4).mono ?_
  rintro e w5 ⟨rfl, rfl⟩
  go_wp2_with fail
  refine (num_any 100 w4).mono ?_
  rintro e w5 ⟨rfl, rfl⟩
  go_wp2_with fail
  refine (num_any 100 w4).mono ?_
  rintro e w5 ⟨rfl, rfl⟩
  go_wp2_with fail
  go_ret
  exact ⟨rfl, (((hw1.call hw2).call hw3).call hw4)⟩
set_option maxHeartbeats 4000000 in
theorem uniJoins_fine (s t : ByteArray) (w : World) (hs : s.size ≤ 1000000000000000000) (ht : t.size ≤ 1000000000000000000) (hn : badRest s 0 = Option.none) (hp : badRest t 0 = Option.none) (hT : Tabs w) :
    Calls Tryd.prog 7 #[.string s, .string t] w fun e w' => e = .returned (.bool true) ∧ Below w.heap.size w w' := by
  have HT := Lib.hid hT
  have hst : s.size + t.size ≤ 2305843009213693952 := by omega
  have HST : Hid ((s ++ t).size ≤ 2305843009213693952) := Lib.hid (by rw [app_size]; exact hst)
  have HV := Lib.hid (valid_none hn)
  have HU := Lib.hid (valid_none hp)
  have hj : badRest (s ++ t) 0 = Option.none := by rw [app_bad s t hn, hp]; rfl
  have HG := Lib.hid (valid_none hj)
  clear hj
  have HW : Hid (((widthB (s ++ t) : Nat) : Int) = (widthB s : Int) + (widthB t : Int)) := Lib.hid (by rw [app_width s t hn]; omega)
  have hws := widthB_le s
  have hwt := widthB_le t
  clear hT hp hn
  go_enter Tryd.func7, Tryd.ntmps7
  go_wp2_with fail
  refine (awake1_any w HT.out).mono ?_
  rintro e w1 ⟨rfl, hw1⟩
  go_wp2_with fail
  refine (valid_is s w1 (by omega) (HT.out.below hw1) HV.out).mono ?_
  rintro e w2 ⟨rfl, hw2⟩
  go_wp2_with fail
  refine (valid_is t w2 (by omega) (HT.out.below (hw1.call hw2)) HU.out).mono ?_
  rintro e w3 ⟨rfl, hw3⟩
  go_wp2_with fail
  refine (valid_is (s ++ t) w3 HST.out (HT.out.below ((hw1.call hw2).call hw3)) HG.out).mono ?_
  rintro e w4 ⟨rfl, hw4⟩
  go_wp2_with fail
  refine (num_any 0 w4).mono ?_
  rintro e w5 ⟨rfl, rfl⟩
  go_wp2_with fail
  refine (num_any 0 w4).mono ?_
  rintro e w5 ⟨rfl, rfl⟩
  go_wp2_with fail
  refine (num_any 0 w4).mono ?_
  rintro e w5 ⟨rfl, rfl⟩
  go_wp2_with fail
  refine (num_any 0 w4).mono ?_
  rintro e w5 ⟨rfl, rfl⟩
  go_wp2_with fail
  refine (width_is (s ++ t) w4 HST.out HW.out).mono ?_
  rintro e w5 ⟨rfl, hw5⟩
  go_wp2_with fail
  refine (width_any s w5 (by omega)).mono ?_
  rintro e w6 ⟨rfl, hw6⟩
  go_wp2_with fail
  refine (width_any t w6 (by omega)).mono ?_
  rintro e w7 ⟨rfl, hw7⟩
  go_wp2_with fail
  refine (width_any s w7 (by omega)).mono ?_
  rintro e w8 ⟨rfl, hw8⟩
  go_wp2_with fail
  go_ret
  exact ⟨rfl, (((((((hw1.call hw2).call hw3).call hw4).call hw5).call hw6).call hw7).call hw8)⟩
theorem uniJoins_call (s t : ByteArray) (w : World) (hs : s.size ≤ 1000000000000000000) (ht : t.size ≤ 1000000000000000000) (hT : Tabs w) :
    Calls Tryd.prog 7 #[.string s, .string t] w fun e w' => e = .returned (.bool true) ∧ Below w.heap.size w w' := by
  cases h1 : badRest s 0 with
  | some p => exact uniJoins_bad s t w hs ht p h1 hT
  | none =>
    cases h2 : badRest t 0 with
    | some p => exact uniJoins_half s t w hs ht p h1 h2 hT
    | none => exact uniJoins_fine s t w hs ht h1 h2 hT

/-- What the walk gives, for every argument. -/
theorem uniJoins_contract (H : Type) (enc : TypeId × Value → H) (W : World) (base : Nat) (args : Array Value) (ds gs : List (DataW H)) (before : List MemPlace)
    (hval : ∀ (j : Nat) t v, Tryd.f7.params[j]? = some t → args[j]? = some v → Value.okWide Tryd.prog W .any base t v)
    (hW : DataW.Whole enc Tryd.prog Tryd.f7.params.toList Rows.uniJoinsSpec.vars false W args.toList ds gs before)
    (hsz : (DataW.weightsEach Tryd.prog (Tryd.f7.params.toList ++ Rows.uniJoinsSpec.plain.varTypes Tryd.prog) (ds ++ gs)).all (· ≤ reachBytes) = true) (hT : Tabs W) :
    Calls Tryd.prog 7 args W fun e W' => ∃ v, e = .returned v ∧ Rows.uniJoinsSpec.post enc Tryd.prog Tryd.f7 false true false false W args v W' := by
  have hW' := hW
  obtain ⟨p, q, hA0, hV, rfl, hfz, hnd⟩ := hW
  have hA : DataW.TrodAll enc Tryd.prog W 0 (fun _ => true) true Tryd.f7.params.toList args.toList ds p := hA0
  rw [Tryd.params7] at hA hval hsz
  obtain ⟨v0, vs0, d0, ds0, p0, q0, hargs, rfl, rfl, h0, r0⟩ := trodAll_cons hA
  obtain ⟨v1, vs1, d1, ds1, p1, q1, rfl, rfl, rfl, h1, r1⟩ := trodAll_cons r0
  obtain ⟨rfl, rfl, rfl⟩ := trodAll_nil r1
  obtain rfl : args = #[v0, v1] := by cases args; simp_all
  obtain ⟨rfl, rfl⟩ := trodVars_none hV
  obtain ⟨a0, rfl, rfl, rfl, s0⟩ := open_string Tryd.underlying9 (hval 0 9 v0 rfl rfl) h0
  obtain ⟨a1, rfl, rfl, rfl, s1⟩ := open_string Tryd.underlying9 (hval 1 9 v1 rfl rfl) h1
  clear hA0 hval
  have z0 : a0.size ≤ 140737488351232 := by
    have := sized_string hsz (j := 0) (t := 9) rfl rfl
    simpa [reachBytes] using this
  have z1 : a1.size ≤ 140737488351232 := by
    have := sized_string hsz (j := 1) (t := 9) rfl rfl
    simpa [reachBytes] using this
  refine (uniJoins_call a0 a1 W (by omega) (by omega) hT).mono fun e W' ⟨he, hb⟩ => ?_
  subst he
  exact ⟨_, rfl, law_post (pa := []) (pv := []) Tryd.underlying4 (by kernel_rfl) hW' rfl (fun sp _ => (trodAll_cons_mk (shut_string Tryd.underlying9 s0) (trodAll_cons_mk (shut_string Tryd.underlying9 s1) trodAll_mk0))) (fun _ _ => rfl) hb⟩

theorem uniJoins_reads (os : Os) {H : Type} (enc : TypeId × Value → H) : ∃ places, DataW.whole enc Tryd.prog ((laidWorld os).forCall (fun _ _ => 0) ⟨#[], #[.string ⟨#[]⟩, .string ⟨#[]⟩], []⟩).memory Tryd.f7.params.toList Rows.uniJoinsSpec.vars false (#[.string ⟨#[]⟩, .string ⟨#[]⟩] : Array Value).toList 8 = some ([.lit (.string []), .lit (.string [])], [], places) :=
  ⟨[], by kernel_rfl⟩
theorem uniJoins_lifted (os : Os) (started : os.Started) (H : Type) (enc : TypeId × Value → H) (F : Stop.Interp) :
    ReturnsInHanded {} Tryd.checked os 7 .any ((OpenSpec.ofChange Rows.uniJoinsSpec).preRow enc Tryd.prog Tryd.f7 Rows.uniJoinsRow.domain false Rows.uniJoinsRow.laid) (((OpenSpec.ofChange Rows.uniJoinsSpec).at F).post enc Tryd.prog Tryd.f7 false true false false) := by
  obtain ⟨places, hx⟩ := uniJoins_reads os enc
  refine returnsInHanded_of_row (C := Tryd.checked) (s := (OpenSpec.ofChange Rows.uniJoinsSpec)) ownKnob_none started (by kernel_rfl) Tryd.func7
    (witness_row_at (enc := enc) (C := Tryd.checked) false (laidWorld os) #[.string ⟨#[]⟩, .string ⟨#[]⟩] rfl (by kernel_rfl) (by kernel_rfl) (by kernel_rfl)
      (OpenSpec.preRow_of_cond 8 hx (by kernel_rfl) (fun k hk => by cases hk) (by kernel_rfl) (laid_met os _))) ?_
  intro W base args ds gs before hval hW _ _ hsz hL _ _
  exact uniJoins_contract H enc W base args ds gs before hval hW hsz (tabs_of_laid hL)
theorem uniJoins_said : Rows.UniJoinsSaid :=
  OpenClaim.holds_of_cond 7 Tryd.f7 rfl rfl rfl rfl rfl rfl rfl ⟨rfl, rfl, rfl, rfl, rfl⟩ rfl rfl rfl rfl rfl (by kernel_rfl) Tryd.func7 (by kernel_rfl)
    (of_decide_eq_true (by kernel_rfl)) (by unfold Func.isWrapper; first | (rw [if_pos (by decide +kernel)]; kernel_rfl) | (rw [if_neg (by decide +kernel)]; exact ⟨rfl, rfl⟩))
    (fun os started H enc _ F => by rw [OpenClaim.pre_eq_preRow]; exact uniJoins_lifted os started H enc F)
theorem uniJoins_plain (f : FuncId) (fn : Func) (hf : Tryd.pinned.checked.prog.funcNamed Rows.uniJoinsRow.func = some f) (hfn : Tryd.pinned.checked.prog.funcs[f]? = some fn) :
    false = Tryd.pinned.checked.prog.looks [] ∧ ∀ (j : Nat) t, fn.params[j]? = some t → Tryd.pinned.checked.prog.wantsStandIn t = false := by
  obtain rfl : f = 7 := Option.some.inj ((show Tryd.prog.funcNamed Rows.uniJoinsRow.func = some 7 by kernel_rfl).symm.trans hf) |>.symm
  obtain rfl : fn = Tryd.f7 := (Option.some.inj (Tryd.func7.symm.trans hfn)).symm
  refine ⟨by kernel_rfl, fun j t ht => ?_⟩
  rw [Tryd.params7] at ht
  have hm := Array.mem_of_getElem? ht
  have hall : ∀ t ∈ (#[9, 9] : Array TypeId), Tryd.prog.wantsStandIn t = false := by
    intro t ht
    simp only [List.mem_toArray, List.mem_cons, List.mem_nil_iff, or_false] at ht
    rcases ht with rfl | rfl
    all_goals kernel_rfl
  exact hall t hm

/-- THE CARD. -/
theorem uniJoins_card : Rows.UniJoinsCardSaid :=
  Claim7.holds_tied_plain_at .later [] _ _ _ _ uniJoins_said (fun _ h => by cases h) (by kernel_rfl) (fun _ h => by cases h) uniJoins_row_tie rfl ⟨rfl, rfl⟩ (by kernel_rfl) rfl uniJoins_plain (by kernel_rfl)
#print axioms uniJoins_card
end Go.Proofs.YtidekaeccillhaaDoor
