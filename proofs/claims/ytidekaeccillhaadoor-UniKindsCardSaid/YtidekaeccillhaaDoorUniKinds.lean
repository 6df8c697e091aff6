/- WHAT IS PROVED: UniKinds holds for every number: no character is two of a name's, a line's end, a blank. Condition: the listed tables of the library's decoder read as its text lays them (the card ties them); the form's own reach. -/
import Derived.Test.YtidekaeccillhaaDoorCard
import Derived.Test.YtidekaeccillhaaDoorUniLawPlain
namespace Go.Proofs.YtidekaeccillhaaDoor
open Go.RowKit Go.ChangeShapes Go.WideShapes Go.ChangeAt
open Go.ChangeMaps (open_string shut_string)
set_option maxRecDepth 100000
set_option linter.unusedVariables false

set_option maxHeartbeats 4000000 in
theorem uniKinds_start (r : Int) (w : World) (h0 : 0 ≤ r) (h1 : r ≤ 0x10ffff) (hp : partB r = true) (he : endsB r = false) (hb : blankB r = false) (hst : startB r = true) (hT : Tabs w) :
    Calls Tryd.prog 6 #[.int .i64 r] w fun e w' => e = .returned (.bool true) ∧ Below w.heap.size w w' := by
  have HT := Lib.hid hT
  have HP := Lib.hid hp
  have HE := Lib.hid he
  have HB := Lib.hid hb
  have HS := Lib.hid hst
  clear hT hp he hb hst
  go_enter Tryd.func6, Tryd.ntmps6
  go_wp2_with fail
  refine (awake1_any w HT.out).mono ?_
  rintro e w1 ⟨rfl, hw1⟩
  go_wp2_with fail
  refine (part_is r w1 HP.out).mono ?_
  rintro e w2 ⟨rfl, hw2⟩
  go_wp2_with fail
  refine (ends_is r w2 HE.out).mono ?_
  rintro e w3 ⟨rfl, hw3⟩
  go_wp2_with fail
  refine (blank_is r w3 HB.out).mono ?_
  rintro e w4 ⟨rfl, hw4⟩
  go_wp2_with fail
  refine (start_is r w4 HS.out).mono ?_
  rintro e w5 ⟨rfl, hw5⟩
  go_wp2_with fail
  refine (part_is r w5 HP.out).mono ?_
  rintro e w6 ⟨rfl, hw6⟩
  go_wp2_with fail
  go_ret
  exact ⟨rfl, (((((hw1.call hw2).call hw3).call hw4).call hw5).call hw6)⟩
set_option maxHeartbeats 4000000 in
theorem uniKinds_part (r : Int) (w : World) (h0 : 0 ≤ r) (h1 : r ≤ 0x10ffff) (hp : partB r = true) (he : endsB r = false) (hb : blankB r = false) (hst : startB r = false) (hT : Tabs w) :
    Calls Tryd.prog 6 #[.int .i64 r] w fun e w' => e = .returned (.bool true) ∧ Below w.heap.size w w' := by
  have HT := Lib.hid hT
  have HP := Lib.hid hp
  have HE := Lib.hid he
  have HB := Lib.hid hb
  have HS := Lib.hid hst
  clear hT hp he hb hst
  go_enter Tryd.func6, Tryd.ntmps6
  go_wp2_with fail
  refine (awake1_any w HT.out).mono ?_
  rintro e w1 ⟨rfl, hw1⟩
  go_wp2_with fail
  refine (part_is r w1 HP.out).mono ?_
  rintro e w2 ⟨rfl, hw2⟩
  go_wp2_with fail
  refine (ends_is r w2 HE.out).mono ?_
  rintro e w3 ⟨rfl, hw3⟩
  go_wp2_with fail
  refine (blank_is r w3 HB.out).mono ?_
  rintro e w4 ⟨rfl, hw4⟩
  go_wp2_with fail
  refine (start_is r w4 HS.out).mono ?_
  rintro e w5 ⟨rfl, hw5⟩
  go_wp2_with fail
  go_ret
  exact ⟨rfl, ((((hw1.call hw2).call hw3).call hw4).call hw5)⟩
set_option maxHeartbeats 4000000 in
theorem uniKinds_ends (r : Int) (w : World) (h0 : 0 ≤ r) (h1 : r ≤ 0x10ffff) (hp : partB r = false) (he : endsB r = true) (hb : blankB r = false) (hst : startB r = false) (hT : Tabs w) :
    Calls Tryd.prog 6 #[.int .i64 r] w fun e w' => e = .returned (.bool true) ∧ Below w.heap.size w w' := by
  have HT := Lib.hid hT
  have HP := Lib.hid hp
  have HE := Lib.hid he
  have HB := Lib.hid hb
  have HS := Lib.hid hst
  clear hT hp he hb hst
  go_enter Tryd.func6, Tryd.ntmps6
  go_wp2_with fail
  refine (awake1_any w HT.out).mono ?_
  rintro e w1 ⟨rfl, hw1⟩
  go_wp2_with fail
  refine (part_is r w1 HP.out).mono ?_
  rintro e w2 ⟨rfl, hw2⟩
  go_wp2_with fail
  refine (ends_is r w2 HE.out).mono ?_
  rintro e w3 ⟨rfl, hw3⟩
  go_wp2_with fail
  refine (blank_is r w3 HB.out).mono ?_
  rintro e w4 ⟨rfl, hw4⟩
  go_wp2_with fail
  refine (start_is r w4 HS.out).mono ?_
  rintro e w5 ⟨rfl, hw5⟩
  go_wp2_with fail
  go_ret
  exact ⟨rfl, ((((hw1.call hw2).call hw3).call hw4).call hw5)⟩
set_option maxHeartbeats 4000000 in
theorem uniKinds_blank (r : Int) (w : World) (h0 : 0 ≤ r) (h1 : r ≤ 0x10ffff) (hp : partB r = false) (he : endsB r = false) (hb : blankB r = true) (hst : startB r = false) (hT : Tabs w) :
    Calls Tryd.prog 6 #[.int .i64 r] w fun e w' => e = .returned (.bool true) ∧ Below w.heap.size w w' := by
  have HT := Lib.hid hT
  have HP := Lib.hid hp
  have HE := Lib.hid he
  have HB := Lib.hid hb
  have HS := Lib.hid hst
  clear hT hp he hb hst
  go_enter Tryd.func6, Tryd.ntmps6
  go_wp2_with fail
  refine (awake1_any w HT.out).mono ?_
  rintro e w1 ⟨rfl, hw1⟩
  go_wp2_with fail
  refine (part_is r w1 HP.out).mono ?_
  rintro e w2 ⟨rfl, hw2⟩
  go_wp2_with fail
  refine (ends_is r w2 HE.out).mono ?_
  rintro e w3 ⟨rfl, hw3⟩
  go_wp2_with fail
  refine (blank_is r w3 HB.out).mono ?_
  rintro e w4 ⟨rfl, hw4⟩
  go_wp2_with fail
  refine (start_is r w4 HS.out).mono ?_
  rintro e w5 ⟨rfl, hw5⟩
  go_wp2_with fail
  go_ret
  exact ⟨rfl, ((((hw1.call hw2).call hw3).call hw4).call hw5)⟩
set_option maxHeartbeats 4000000 in
theorem uniKinds_none (r : Int) (w : World)  (hp : partB r = false) (he : endsB r = false) (hb : blankB r = false) (hst : startB r = false) (hT : Tabs w) :
    Calls Tryd.prog 6 #[.int .i64 r] w fun e w' => e = .returned (.bool true) ∧ Below w.heap.size w w' := by
  have HT := Lib.hid hT
  have HP := Lib.hid hp
  have HE := Lib.hid he
  have HB := Lib.hid hb
  have HS := Lib.hid hst
  clear hT hp he hb hst
  go_enter Tryd.func6, Tryd.ntmps6
  go_wp2_with fail
  refine (awake1_any w HT.out).mono ?_
  rintro e w1 ⟨rfl, hw1⟩
  go_wp2_with fail
  refine (part_is r w1 HP.out).mono ?_
  rintro e w2 ⟨rfl, hw2⟩
  go_wp2_with fail
  refine (ends_is r w2 HE.out).mono ?_
  rintro e w3 ⟨rfl, hw3⟩
  go_wp2_with fail
  refine (blank_is r w3 HB.out).mono ?_
  rintro e w4 ⟨rfl, hw4⟩
  go_wp2_with fail
  refine (start_is r w4 HS.out).mono ?_
  rintro e w5 ⟨rfl, hw5⟩
  go_wp2_with fail
  all_goals go_ret
  all_goals exact ⟨rfl, ((((hw1.call hw2).call hw3).call hw4).call hw5)⟩
theorem uniKinds_call (r : Int) (w : World) (wr : (Lit.int .i64 r).wf = true) (hT : Tabs w) :
    Calls Tryd.prog 6 #[.int .i64 r] w fun e w' => e = .returned (.bool true) ∧ Below w.heap.size w w' := by
  cases he : endsB r
  · cases hb : blankB r
    · cases hp : partB r
      · cases hst : startB r
        · exact uniKinds_none r w hp he hb hst hT
        · rw [startB_part r hst] at hp
          cases hp
      · obtain ⟨h0, h1⟩ := part_range hp
        cases hst : startB r
        · exact uniKinds_part r w h0 h1 hp he hb hst hT
        · exact uniKinds_start r w h0 h1 hp he hb hst hT
    · obtain ⟨hp, _, hst, h0, h1⟩ := blank_kind hb
      exact uniKinds_blank r w h0 h1 hp he hb hst hT
  · obtain ⟨hp, hb, hst, h0, h1⟩ := ends_kind he
    exact uniKinds_ends r w h0 h1 hp he hb hst hT

/-- What the walk gives, for every argument. -/
theorem uniKinds_contract (H : Type) (enc : TypeId × Value → H) (W : World) (base : Nat) (args : Array Value) (ds gs : List (DataW H)) (before : List MemPlace)
    (hval : ∀ (j : Nat) t v, Tryd.f6.params[j]? = some t → args[j]? = some v → Value.okWide Tryd.prog W .any base t v)
    (hW : DataW.Whole enc Tryd.prog Tryd.f6.params.toList Rows.uniKindsSpec.vars false W args.toList ds gs before)
    (hsz : (DataW.weightsEach Tryd.prog (Tryd.f6.params.toList ++ Rows.uniKindsSpec.plain.varTypes Tryd.prog) (ds ++ gs)).all (· ≤ reachBytes) = true) (hT : Tabs W) :
    Calls Tryd.prog 6 args W fun e W' => ∃ v, e = .returned v ∧ Rows.uniKindsSpec.post enc Tryd.prog Tryd.f6 false true false false W args v W' := by
  have hW' := hW
  obtain ⟨p, q, hA0, hV, rfl, hfz, hnd⟩ := hW
  have hA : DataW.TrodAll enc Tryd.prog W 0 (fun _ => true) true Tryd.f6.params.toList args.toList ds p := hA0
  rw [Tryd.params6] at hA hval hsz
  obtain ⟨v0, vs0, d0, ds0, p0, q0, hargs, rfl, rfl, h0, r0⟩ := trodAll_cons hA
  obtain ⟨rfl, rfl, rfl⟩ := trodAll_nil r0
  obtain rfl : args = #[v0] := by cases args; simp_all
  obtain ⟨rfl, rfl⟩ := trodVars_none hV
  obtain ⟨a0, rfl, rfl, rfl, w0⟩ := open_int Tryd.underlying3 (hval 0 3 v0 rfl rfl) h0
  clear hA0 hval
  refine (uniKinds_call a0 W w0 hT).mono fun e W' ⟨he, hb⟩ => ?_
  subst he
  exact ⟨_, rfl, law_post (pa := []) (pv := []) Tryd.underlying4 (by kernel_rfl) hW' rfl (fun sp _ => (trodAll_cons_mk (shut_int Tryd.underlying3 w0) trodAll_mk0)) (fun _ _ => rfl) hb⟩

theorem uniKinds_reads (os : Os) {H : Type} (enc : TypeId × Value → H) : ∃ places, DataW.whole enc Tryd.prog ((laidWorld os).forCall (fun _ _ => 0) ⟨#[], #[.int .i64 0], []⟩).memory Tryd.f6.params.toList Rows.uniKindsSpec.vars false (#[.int .i64 0] : Array Value).toList 8 = some ([.lit (.int .i64 0)], [], places) :=
  ⟨[], by kernel_rfl⟩
theorem uniKinds_lifted (os : Os) (started : os.Started) (H : Type) (enc : TypeId × Value → H) (F : Stop.Interp) :
    ReturnsInHanded {} Tryd.checked os 6 .any ((OpenSpec.ofChange Rows.uniKindsSpec).preRow enc Tryd.prog Tryd.f6 Rows.uniKindsRow.domain false Rows.uniKindsRow.laid) (((OpenSpec.ofChange Rows.uniKindsSpec).at F).post enc Tryd.prog Tryd.f6 false true false false) := by
  obtain ⟨places, hx⟩ := uniKinds_reads os enc
  refine returnsInHanded_of_row (C := Tryd.checked) (s := (OpenSpec.ofChange Rows.uniKindsSpec)) ownKnob_none started (by kernel_rfl) Tryd.func6
    (witness_row_at (enc := enc) (C := Tryd.checked) false (laidWorld os) #[.int .i64 0] rfl (by kernel_rfl) (by kernel_rfl) (by kernel_rfl)
      (OpenSpec.preRow_of_cond 8 hx (by kernel_rfl) (fun k hk => by cases hk) (by kernel_rfl) (laid_met os _))) ?_
  intro W base args ds gs before hval hW _ _ hsz hL _ _
  exact uniKinds_contract H enc W base args ds gs before hval hW hsz (tabs_of_laid hL)
theorem uniKinds_said : Rows.UniKindsSaid :=
  OpenClaim.holds_of_cond 6 Tryd.f6 rfl rfl rfl rfl rfl rfl rfl ⟨rfl, rfl, rfl, rfl, rfl⟩ rfl rfl rfl rfl rfl (by kernel_rfl) Tryd.func6 (by kernel_rfl)
    (of_decide_eq_true (by kernel_rfl)) (by unfold Func.isWrapper; first | (rw [if_pos (by decide +kernel)]; kernel_rfl) | (rw [if_neg (by decide +kernel)]; exact ⟨rfl, rfl⟩))
    (fun os started H enc _ F => by rw [OpenClaim.pre_eq_preRow]; exact uniKinds_lifted os started H enc F)
theorem uniKinds_plain (f : FuncId) (fn : Func) (hf : Tryd.pinned.checked.prog.funcNamed Rows.uniKindsRow.func = some f) (hfn : Tryd.pinned.checked.prog.funcs[f]? = some fn) :
    false = Tryd.pinned.checked.prog.looks [] ∧ ∀ (j : Nat) t, fn.params[j]? = some t → Tryd.pinned.checked.prog.wantsStandIn t = false := by
  obtain rfl : f = 6 := Option.some.inj ((show Tryd.prog.funcNamed Rows.uniKindsRow.func = some 6 by kernel_rfl).symm.trans hf) |>.symm
  obtain rfl : fn = Tryd.f6 := (Option.some.inj (Tryd.func6.symm.trans hfn)).symm
  refine ⟨by kernel_rfl, fun j t ht => ?_⟩
  rw [Tryd.params6] at ht
  have hm := Array.mem_of_getElem? ht
  have hall : ∀ t ∈ (#[3] : Array TypeId), Tryd.prog.wantsStandIn t = false := by
    intro t ht
    simp only [List.mem_toArray, List.mem_cons, List.mem_nil_iff, or_false] at ht
    rcases ht with rfl
    all_goals kernel_rfl
  exact hall t hm

/-- THE CARD. -/
theorem uniKinds_card : Rows.UniKindsCardSaid :=
  Claim7.holds_tied_plain_at .later [] _ _ _ _ uniKinds_said (fun _ h => by cases h) (by kernel_rfl) (fun _ h => by cases h) uniKinds_row_tie rfl ⟨rfl, rfl⟩ (by kernel_rfl) rfl uniKinds_plain (by kernel_rfl)
#print axioms uniKinds_card
end Go.Proofs.YtidekaeccillhaaDoor
