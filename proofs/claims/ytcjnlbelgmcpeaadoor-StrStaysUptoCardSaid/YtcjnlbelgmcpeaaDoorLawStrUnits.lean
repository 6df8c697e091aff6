/- WHAT IS PROVED: StrUnits holds for every text of at most 1048576 letters: the program's Units of a string literal are the reference's, and two answers are held apart. Conditions: the arguments' bulk is at most 1048576; the listed tables of the library's decoder read as its text lays them (the card ties them); the form's own reach. -/
import Derived.Test.YtcjnlbelgmcpeaaDoorStrCard
import Derived.Test.YtcjnlbelgmcpeaaDoorRefStrAll
namespace Go.Proofs.YtcjnlbelgmcpeaaDoor
open Go.RowKit Go.ChangeShapes Go.WideShapes Go.ChangeAt
open Go.ChangeMaps (open_string shut_string)
set_option maxRecDepth 100000
set_option linter.unusedVariables false

theorem unitsOf_bd {v : Int} (h : v ≤ 1114111) : ∀ x ∈ unitsOf v, 0 ≤ x ∧ x ≤ 65535 := by
  intro x hx
  unfold unitsOf at hx
  split at hx
  · simp at hx
  · split at hx
    · simp at hx
      omega
    · simp at hx
      omega
theorem flatU_bd {s : ByteArray} {ps : List Pt} (h : ∀ p ∈ ps, PtOk s p) : ∀ x ∈ flatU ps, 0 ≤ x ∧ x ≤ 65535 := by
  intro x hx
  unfold flatU at hx
  obtain ⟨p, hp, hx⟩ := List.mem_flatMap.1 hx
  exact unitsOf_bd (h p hp).vhi x hx
theorem getD_bd {l : List Int} (h : ∀ x ∈ l, 0 ≤ x ∧ x ≤ 65535) (j : Nat) : 0 ≤ l.getD j 0 ∧ l.getD j 0 ≤ 65535 := by
  rw [List.getD_eq_getElem?_getD]
  cases hj : l[j]? with
  | none => simp
  | some x =>
    obtain ⟨hl, rfl⟩ := List.getElem?_eq_some_iff.1 hj
    simpa using h _ (List.getElem_mem hl)
/-- What Units hands out, in either case a row of one's own. -/
theorem unitsOut_row {s : ByteArray} {w w' : World} {e : Ending} (h : UnitsOut s w e w') : ∃ v us, e = .returned (.tuple #[v, .int .i64 (checkCode s)]) ∧ w'.ownsRow w.heap.size 3 1 v us.length (intCells us) ∧ us.length ≤ 2 * s.size ∧ (∀ x ∈ us, 0 ≤ x ∧ x ≤ 65535) ∧ us = (match partsB s with | .ok ps => flatU ps | .error _ => []) := by
  unfold UnitsOut at h
  unfold checkCode
  cases hp : partsB s with
  | ok ps =>
    rw [hp] at h
    obtain ⟨v, rfl, ho, hl⟩ := h
    exact ⟨v, flatU ps, rfl, ho, hl, flatU_bd (partsB_ok hp), rfl⟩
  | error p =>
    rw [hp] at h
    subst h
    exact ⟨.slice none 0 0, [], rfl, World.ownsRow_nil _ _ _ _, by simp, by simp, rfl⟩
theorem below_grown {B : Nat} {w w1 w2 : World} {v : Value} {e size n : Nat} {xs : List Value} (h : Below B w w1) (hB : B ≤ w1.heap.size) (ho : w1.ownsRow B e size v n xs) (hg : w1.grownBy w2 v.ownBlock) : Below B w w2 :=
  h.grown hg hB (fun k hk => (ho.lt k hk).1)

theorem own_apart {W : World} {v v' : Value} {b e size n : Nat} {xs : List Value} (h1 : ∀ k, v.ownBlock = some k → k < b) (h2 : W.ownsRow b e size v' n xs) : v'.ownBlock = none ∨ v'.ownBlock ≠ v.ownBlock := by
  cases h : v'.ownBlock with
  | none => exact .inl rfl
  | some k =>
    refine .inr fun e => ?_
    have h3 := (h2.lt k h).1
    have h4 := h1 k e.symm
    omega

set_option maxHeartbeats 4000000 in
theorem strUnits_call (s : ByteArray) (w : World) (hs : s.size ≤ 1048576) (hT : Tabs w) :
    Calls Tryd.prog 4 #[.string s] w fun e w' => e = .returned (.bool true) ∧ Below w.heap.size w w' := by
  have HT := Lib.hid hT
  clear hT
  go_enter Tryd.func4, Tryd.ntmps4
  go_wp2_with fail
  refine (units_any s w (by omega) HT.out).mono ?_
  rintro e w1 ⟨hu1, hw1⟩
  obtain ⟨v1, us1, rfl, ho1, hl1, hbd1, he1⟩ := unitsOut_row hu1
  clear hu1
  have HW1 := Lib.hid hw1
  have HO1 := Lib.hid ho1
  clear hw1 ho1
  go_wp2_with fail
  refine (units_any s w1 (by omega) (HT.out.below HW1.out)).mono ?_
  rintro e w2 ⟨hu2, hw2⟩
  obtain ⟨v2, us2, rfl, ho2, hl2, hbd2, he2⟩ := unitsOut_row hu2
  obtain rfl : us1 = us2 := by rw [he1, he2]
  clear hu2 he2 hbd2 hl2
  have HW2 := Lib.hid (HW1.out.call hw2)
  have HO1' := Lib.hid (own_below HO1.out hw2)
  have HZ12 := Lib.hid hw2.size
  have HO2 := Lib.hid ho2
  have HZ2 := Lib.hid (show ∀ k, v1.ownBlock = some k → k < w1.heap.size from fun k hk => (HO1.out.lt k hk).2)
  clear hw2 ho2
  go_wp2_with fail
  refine (rall_any s w2 (by omega)).mono ?_
  rintro e w3 ⟨hu3, hw3⟩
  obtain ⟨v3, us3, rfl, ho3, hl3, hbd3, he3⟩ := unitsOut_row hu3
  obtain rfl : us1 = us3 := by rw [he1, he3]
  clear hu3 he3 hbd3 hl3 he1
  have HW3 := Lib.hid (HW2.out.call hw3)
  have HO13 := Lib.hid (own_below HO1'.out hw3)
  have HO23 := Lib.hid (own_below HO2.out hw3)
  have HO33 := Lib.hid ho3
  clear hw3 ho3
  generalize checkCode s = cc
  go_wp2_with (go_at_call 12; refine (num_any _ _).mono ?_; rintro e w9 ⟨rfl, rfl⟩)
  refine (sameInts_any us1 us1 v1 v3 w3 (by omega) (by omega) (.of_own HO13.out) (.of_own HO33.out)).mono ?_
  rintro e w4 ⟨rfl, hw4⟩
  rw [show (us1 == us1) = true by simp]
  have HW4 := Lib.hid (HW3.out.call hw4)
  have HO14 := Lib.hid (own_below HO13.out hw4)
  have HO24 := Lib.hid (own_below HO23.out hw4)
  have HO34 := Lib.hid (own_below HO33.out hw4)
  clear hw4
  go_wp2_with fail
  refine (spoil_own us1 v1 w.heap.size w4 (by omega) HO14.out (getD_bd hbd1)).mono ?_
  rintro e w5 ⟨rfl, hg5⟩
  have HW5 := Lib.hid (below_grown HW4.out HW4.out.size HO14.out hg5)
  have HO25 := Lib.hid (HO24.out.kept hg5 (own_apart HZ2.out HO24.out))
  have HO35 := Lib.hid (HO34.out.kept hg5 (own_apart (fun k hk => Nat.lt_of_lt_of_le (HZ2.out k hk) HZ12.out) HO34.out))
  clear hg5
  go_wp2_with fail
  refine (sameInts_any us1 us1 v2 v3 w5 (by omega) (by omega) (.of_own HO25.out) (.of_own HO35.out)).mono ?_
  rintro e w6 ⟨rfl, hw6⟩
  rw [show (us1 == us1) = true by simp]
  have HW6 := Lib.hid (HW5.out.call hw6)
  clear hw6
  go_wp2_with fail
  refine (awake_any w6 (HT.out.below HW6.out)).mono ?_
  rintro e w7 ⟨rfl, hw7⟩
  have HW7 := Lib.hid (HW6.out.call hw7)
  clear hw7
  go_wp2_with fail
  go_ret
  exact ⟨rfl, HW7.out⟩

/-- What the walk gives, for every argument. -/
theorem strUnits_contract (H : Type) (enc : TypeId × Value → H) (W : World) (base : Nat) (args : Array Value) (ds gs : List (DataW H)) (before : List MemPlace)
    (hval : ∀ (j : Nat) t v, Tryd.f4.params[j]? = some t → args[j]? = some v → Value.okWide Tryd.prog W .any base t v)
    (hW : DataW.Whole enc Tryd.prog Tryd.f4.params.toList Rows.strUnitsSpec.vars false W args.toList ds gs before)
    (hsz : (DataW.weightsEach Tryd.prog (Tryd.f4.params.toList ++ Rows.strUnitsSpec.plain.varTypes Tryd.prog) (ds ++ gs)).all (· ≤ reachBytes) = true) (hT : Tabs W) (hc : Rows.uptoSmall H (ds ++ gs) = true) :
    Calls Tryd.prog 4 args W fun e W' => ∃ v, e = .returned v ∧ Rows.strUnitsSpec.post enc Tryd.prog Tryd.f4 false true false false W args v W' := by
  have hW' := hW
  obtain ⟨p, q, hA0, hV, rfl, hfz, hnd⟩ := hW
  have hA : DataW.TrodAll enc Tryd.prog W 0 (fun _ => true) true Tryd.f4.params.toList args.toList ds p := hA0
  rw [Tryd.params4] at hA hval hsz
  obtain ⟨v0, vs0, d0, ds0, p0, q0, hargs, rfl, rfl, h0, r0⟩ := trodAll_cons hA
  obtain ⟨rfl, rfl, rfl⟩ := trodAll_nil r0
  obtain rfl : args = #[v0] := by cases args; simp_all
  obtain ⟨rfl, rfl⟩ := trodVars_none hV
  obtain ⟨a0, rfl, rfl, rfl, s0⟩ := open_string Tryd.underlying9 (hval 0 9 v0 rfl rfl) h0
  clear hA0 hval
  simp [Rows.uptoSmall, Rows.uptoBulkAll, Rows.uptoBulk] at hc
  have z0 : a0.size ≤ 1048576 := by
    have e := size_list a0
    first | (simp at e; omega) | (rw [← ByteArray.toList_eq] at e; omega)
  refine (strUnits_call a0 W (by omega) hT).mono fun e W' ⟨he, hb⟩ => ?_
  subst he
  exact ⟨_, rfl, law_post (pa := []) (pv := []) Tryd.underlying4 (by kernel_rfl) hW' rfl (fun sp _ => (trodAll_cons_mk (shut_string Tryd.underlying9 s0) trodAll_mk0)) (fun _ _ => rfl) hb⟩

theorem strUnits_reads (os : Os) {H : Type} (enc : TypeId × Value → H) : ∃ places, DataW.whole enc Tryd.prog ((laidWorld os).forCall (fun _ _ => 0) ⟨#[], #[.string ⟨#[]⟩], []⟩).memory Tryd.f4.params.toList Rows.strUnitsSpec.vars false (#[.string ⟨#[]⟩] : Array Value).toList 8 = some ([.lit (.string [])], [], places) :=
  ⟨[], by kernel_rfl⟩
theorem strUnits_lifted (os : Os) (started : os.Started) (H : Type) (enc : TypeId × Value → H) (F : Stop.Interp) :
    ReturnsInHanded {} Tryd.checked os 4 .any ((Rows.OpenSpec.upto Rows.strUnitsSpec).preRow enc Tryd.prog Tryd.f4 Rows.strUnitsUptoRow.domain false Rows.strUnitsUptoRow.laid) (((Rows.OpenSpec.upto Rows.strUnitsSpec).at F).post enc Tryd.prog Tryd.f4 false true false false) := by
  obtain ⟨places, hx⟩ := strUnits_reads os enc
  refine returnsInHanded_of_row (C := Tryd.checked) (s := (Rows.OpenSpec.upto Rows.strUnitsSpec)) ownKnob_none started (by kernel_rfl) Tryd.func4
    (witness_row_at (enc := enc) (C := Tryd.checked) false (laidWorld os) #[.string ⟨#[]⟩] rfl (by kernel_rfl) (by kernel_rfl) (by kernel_rfl)
      (OpenSpec.preRow_of_cond 8 hx (by kernel_rfl) (fun k hk => by cases hk; kernel_rfl) (by kernel_rfl) (laid_met os _))) ?_
  intro W base args ds gs before hval hW _ hc0 hsz hL _ _
  exact strUnits_contract H enc W base args ds gs before hval hW hsz (tabs_of_laid hL) (hc0 _ rfl)
theorem strUnits_said : Rows.StrUnitsUptoSaid :=
  OpenClaim.holds_of_cond 4 Tryd.f4 rfl rfl rfl rfl rfl rfl rfl ⟨rfl, rfl, rfl, rfl, rfl⟩ rfl rfl rfl rfl rfl (by kernel_rfl) Tryd.func4 (by kernel_rfl)
    (of_decide_eq_true (by kernel_rfl)) (by unfold Func.isWrapper; first | (rw [if_pos (by decide +kernel)]; kernel_rfl) | (rw [if_neg (by decide +kernel)]; exact ⟨rfl, rfl⟩))
    (fun os started H enc _ F => by rw [OpenClaim.pre_eq_preRow]; exact strUnits_lifted os started H enc F)
theorem strUnits_plain (f : FuncId) (fn : Func) (hf : Tryd.pinned.checked.prog.funcNamed Rows.strUnitsRow.func = some f) (hfn : Tryd.pinned.checked.prog.funcs[f]? = some fn) :
    false = Tryd.pinned.checked.prog.looks [] ∧ ∀ (j : Nat) t, fn.params[j]? = some t → Tryd.pinned.checked.prog.wantsStandIn t = false := by
  obtain rfl : f = 4 := Option.some.inj ((show Tryd.prog.funcNamed Rows.strUnitsRow.func = some 4 by kernel_rfl).symm.trans hf) |>.symm
  obtain rfl : fn = Tryd.f4 := (Option.some.inj (Tryd.func4.symm.trans hfn)).symm
  refine ⟨by kernel_rfl, fun j t ht => ?_⟩
  rw [Tryd.params4] at ht
  have hm := Array.mem_of_getElem? ht
  have hall : ∀ t ∈ (#[9] : Array TypeId), Tryd.prog.wantsStandIn t = false := by
    intro t ht
    simp only [List.mem_toArray, List.mem_cons, List.mem_nil_iff, or_false] at ht
    rcases ht with rfl
    all_goals kernel_rfl
  exact hall t hm

/-- THE CARD. -/
theorem strUnits_card : Rows.StrUnitsUptoCardSaid :=
  Claim7.holds_tied_plain_at .later [] _ _ _ _ strUnits_said (fun _ h => by cases h) (by kernel_rfl) (fun _ h => by cases h) strUnitsUpto_row_tie rfl ⟨rfl, rfl⟩ (by kernel_rfl) rfl strUnits_plain (by kernel_rfl)
#print axioms strUnits_card
end Go.Proofs.YtcjnlbelgmcpeaaDoor
