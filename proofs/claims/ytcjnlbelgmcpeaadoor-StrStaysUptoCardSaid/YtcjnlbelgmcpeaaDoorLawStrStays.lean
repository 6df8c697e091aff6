/- WHAT IS PROVED: StrStays holds for every text of at most 1048576 letters and both quotes: in other quotes a literal stands for the same, and again it stays. Conditions: the arguments' bulk is at most 1048576; the listed tables of the library's decoder read as its text lays them (the card ties them); the form's own reach. -/
import Derived.Test.YtcjnlbelgmcpeaaDoorLawStrUnits
import Derived.Test.YtcjnlbelgmcpeaaDoorStrStayPlain
namespace Go.Proofs.YtcjnlbelgmcpeaaDoor
open Go.RowKit Go.ChangeShapes Go.WideShapes Go.ChangeAt
open Go.ChangeMaps (open_string shut_string)
set_option maxRecDepth 100000
set_option linter.unusedVariables false
set_option linter.unusedSimpArgs false

/-- What the walk wants of a literal in other quotes. -/
theorem stays_all {s : ByteArray} {ps : List Pt} {single : Bool} (h : partsB s = .ok ps) :
    ∃ qs, partsB (quoteS s single) = .ok qs ∧ flatU qs = flatU ps ∧ quoteS (quoteS s single) single = quoteS s single ∧ 2 ≤ (quoteS s single).size ∧ (quoteS s single).size ≤ 2 * s.size ∧ byt (quoteS s single) 0 = byt (quoteS s single) ((quoteS s single).size - 1) := by
  have e : quoteS s single = ⟨(quoteB s ps single).toArray⟩ := by unfold quoteS; rw [h]
  obtain ⟨qs, h1, h2, h3, h4, h5, h6⟩ := quote_stays (single := single) h _ e
  refine ⟨qs, h1, h2, ?_, h4, h5, h6⟩
  have key : ∀ t, partsB t = .ok qs → quoteS t single = ⟨(quoteB t qs single).toArray⟩ := by
    intro t ht
    unfold quoteS
    rw [ht]
  rw [key _ h1, h3, ← e]
theorem quoteS_bad {s : ByteArray} (single : Bool) (h : checkCode s = 300) : quoteS s single = ⟨#[]⟩ := by
  unfold checkCode at h
  unfold quoteS
  cases hp : partsB s with
  | ok ps => rw [hp] at h; cases h
  | error p => rfl
theorem code_two' (s : ByteArray) : (checkCode s = 0 ∧ ∃ ps, partsB s = .ok ps) ∨ checkCode s = 300 := by
  unfold checkCode
  cases h : partsB s with
  | ok ps => exact .inl ⟨rfl, ps, rfl⟩
  | error p => exact .inr rfl
theorem code_ok {s : ByteArray} {ps : List Pt} (h : partsB s = .ok ps) : checkCode s = 0 := by unfold checkCode; rw [h]

set_option maxHeartbeats 8000000 in
theorem strStays_call (s : ByteArray) (b : Bool) (w : World) (hs : s.size ≤ 1048576) (hT : Tabs w) :
    Calls Tryd.prog 6 #[.string s, .bool b] w fun e w' => e = .returned (.bool true) ∧ Below w.heap.size w w' := by
  have HT := Lib.hid hT
  clear hT
  go_enter Tryd.func6, Tryd.ntmps6
  go_wp2_with fail
  refine (awake_any w HT.out).mono ?_
  rintro e w1 ⟨rfl, hw1⟩
  have HW1 := Lib.hid hw1
  clear hw1
  go_wp2_with fail
  refine (units_any s w1 (by omega) (HT.out.below HW1.out)).mono ?_
  rintro e w2 ⟨hu1, hw2⟩
  obtain ⟨v1, us1, rfl, ho1, hl1, hbd1, he1⟩ := unitsOut_row hu1
  have HW2 := Lib.hid (HW1.out.call hw2)
  have HO1 := Lib.hid ho1
  have HE1 := Lib.hid he1
  have HL1 := Lib.hid hl1
  clear hu1 hw2 ho1 he1 hbd1 hl1
  go_wp2_with fail
  refine (quote_any s b w2 (by omega) (HT.out.below HW2.out)).mono ?_
  rintro e w3 ⟨rfl, hw3⟩
  have HW3 := Lib.hid (HW2.out.call hw3)
  have HO1' := Lib.hid (own_below HO1.out hw3)
  clear hw3
  rcases code_two' s with ⟨h0, ps, hps⟩ | h0
  · obtain ⟨qs, hq, hfl, hidem, hz2, hzs, hends⟩ := stays_all (single := b) hps
    have HUS : Hid (us1 = flatU ps) := Lib.hid (by rw [HE1.out, hps])
    have hcq := code_ok hq
    rw [h0]
    have HQ := Lib.hid hq
    have HF := Lib.hid hfl
    have HI := Lib.hid hidem
    have HCQ := Lib.hid hcq
    have HZS := Lib.hid hzs
    generalize quoteS s b = t at *
    have HEE : Hid ((t[0]'(by omega)).toNat = (t[t.size - 1]'(by omega)).toNat) := Lib.hid (by rw [byt_eq, byt_eq]; exact hends)
    clear h0 hq hfl hidem hcq hends hps hzs
    go_wp2_with (go_at_call 12; refine (num_any _ _).mono ?_; rintro e w9 ⟨rfl, rfl⟩)
    refine (units_any t w3 (by have := HZS.out; omega) (HT.out.below HW3.out)).mono ?_
    rintro e w4 ⟨hu2, hw4⟩
    obtain ⟨v2, us2, rfl, ho2, hl2, hbd2, he2⟩ := unitsOut_row hu2
    have hus : us2 = us1 := by rw [he2, HQ.out, HUS.out]; exact HF.out
    subst hus
    rw [HCQ.out]
    have HW4 := Lib.hid (HW3.out.call hw4)
    have HO1'' := Lib.hid (own_below HO1'.out hw4)
    have HO2 := Lib.hid ho2
    clear hu2 hw4 ho2 he2 hbd2 hl2
    go_wp2_with fail
    refine (quote_any t b w4 (by have := HZS.out; omega) (HT.out.below HW4.out)).mono ?_
    rintro e w5 ⟨rfl, hw5⟩
    rw [HI.out, HCQ.out]
    have HW5 := Lib.hid (HW4.out.call hw5)
    have HO15 := Lib.hid (own_below HO1''.out hw5)
    have HO25 := Lib.hid (own_below HO2.out hw5)
    clear hw5
    obtain ⟨m, hm⟩ : ∃ m, m = t.size - 1 := ⟨_, rfl⟩
    have hz3 := HZS.out
    have k1 : wrap64 ((t.size : Int) - 1) = (m : Int) := by rw [IntWalk.wrap64_in _ ⟨by omega, by omega⟩]; omega
    have k7 : m < t.size := by omega
    have k8 : (m : Int) < (t.size : Int) := by omega
    have k2 : (((t[0]'(by omega)).toNat : Int) == ((t[m]'(by omega)).toNat : Int)) = true := by subst hm; rw [HEE.out]; simp
    clear hm hz3
    have k4 : (2 : Int) ≤ (t.size : Int) := by omega
    have k5 : 0 < t.size := by omega
    have k6 : (0 : Int) < (t.size : Int) := by omega
    have HSI := Lib.hid (fun (wq : World) (hq : Below w5.heap.size w5 wq) => quiet_in (sameInts_any us2 us2 v1 v2 wq (by have := HL1.out; omega) (by have := HL1.out; omega) (.of_own (own_below HO15.out hq)) (.of_own (own_below HO25.out hq))) (Nat.le_refl _) hq)
    have HBB : Hid ((us2 == us2) = true) := Lib.hid (by simp)
    rw [HBB.out] at HSI
    go_wp2_with fail
    refine wp_region_below w5.heap.size (by kernel_rfl) (by kernel_rfl) ?_
    repeat (first | go_big_quiet_skip | (go_big_quiet_want; go_big_quiet_op; (first | go_big_quiet_on | (refine Exists.intro _ ⟨fun _ _ => rfl, ?_⟩; go_big_quiet_on) | (apply Exists.intro; refine ⟨fun wq hq => ?_, ?_⟩; (first | (go_at_call 12; refine (num_any _ _).mono ?_; rintro e w9 ⟨rfl, rfl⟩; exact ⟨rfl, hq⟩) | (go_at_call 16; exact HSI.out wq hq)); go_big_quiet_on))))
    refine wpQuiet_nil ?_
    intro wq hq
    have HWQ := Lib.hid (HW5.out.call hq)
    clear hq
    go_wp2_with fail
    go_ret
    exact ⟨rfl, HWQ.out⟩
  · rw [quoteS_bad b h0, h0]
    clear h0
    go_wp2_with (go_at_call 12; refine (num_any _ _).mono ?_; rintro e w9 ⟨rfl, rfl⟩)
    go_ret
    exact ⟨rfl, HW3.out⟩

/-- What the walk gives, for every argument. -/
theorem strStays_contract (H : Type) (enc : TypeId × Value → H) (W : World) (base : Nat) (args : Array Value) (ds gs : List (DataW H)) (before : List MemPlace)
    (hval : ∀ (j : Nat) t v, Tryd.f6.params[j]? = some t → args[j]? = some v → Value.okWide Tryd.prog W .any base t v)
    (hW : DataW.Whole enc Tryd.prog Tryd.f6.params.toList Rows.strStaysSpec.vars false W args.toList ds gs before)
    (hsz : (DataW.weightsEach Tryd.prog (Tryd.f6.params.toList ++ Rows.strStaysSpec.plain.varTypes Tryd.prog) (ds ++ gs)).all (· ≤ reachBytes) = true) (hT : Tabs W) (hc : Rows.uptoSmall H (ds ++ gs) = true) :
    Calls Tryd.prog 6 args W fun e W' => ∃ v, e = .returned v ∧ Rows.strStaysSpec.post enc Tryd.prog Tryd.f6 false true false false W args v W' := by
  have hW' := hW
  obtain ⟨p, q, hA0, hV, rfl, hfz, hnd⟩ := hW
  have hA : DataW.TrodAll enc Tryd.prog W 0 (fun _ => true) true Tryd.f6.params.toList args.toList ds p := hA0
  rw [Tryd.params6] at hA hval hsz
  obtain ⟨v0, vs0, d0, ds0, p0, q0, hargs, rfl, rfl, h0, r0⟩ := trodAll_cons hA
  obtain ⟨v1, vs1, d1, ds1, p1, q1, rfl, rfl, rfl, h1, r1⟩ := trodAll_cons r0
  obtain ⟨rfl, rfl, rfl⟩ := trodAll_nil r1
  obtain rfl : args = #[v0, v1] := by cases args; simp_all
  obtain ⟨rfl, rfl⟩ := trodVars_none hV
  obtain ⟨a0, rfl, rfl, rfl, s0⟩ := open_string Tryd.underlying9 (hval 0 9 v0 rfl rfl) h0
  obtain ⟨a1, rfl, rfl, rfl⟩ := open_bool Tryd.underlying4 (hval 1 4 v1 rfl rfl) h1
  clear hA0 hval
  simp [Rows.uptoSmall, Rows.uptoBulkAll, Rows.uptoBulk] at hc
  have z0 : a0.size ≤ 1048576 := by
    have e := size_list a0
    first | (simp at e; omega) | (rw [← ByteArray.toList_eq] at e; omega)
  refine (strStays_call a0 a1 W (by omega) hT).mono fun e W' ⟨he, hb⟩ => ?_
  subst he
  exact ⟨_, rfl, law_post (pa := []) (pv := []) Tryd.underlying4 (by kernel_rfl) hW' rfl (fun sp _ => (trodAll_cons_mk (shut_string Tryd.underlying9 s0) (trodAll_cons_mk (shut_bool Tryd.underlying4 _) trodAll_mk0))) (fun _ _ => rfl) hb⟩

theorem strStays_reads (os : Os) {H : Type} (enc : TypeId × Value → H) : ∃ places, DataW.whole enc Tryd.prog ((laidWorld os).forCall (fun _ _ => 0) ⟨#[], #[.string ⟨#[]⟩, .bool false], []⟩).memory Tryd.f6.params.toList Rows.strStaysSpec.vars false (#[.string ⟨#[]⟩, .bool false] : Array Value).toList 8 = some ([.lit (.string []), .lit (.bool false)], [], places) :=
  ⟨[], by kernel_rfl⟩
theorem strStays_lifted (os : Os) (started : os.Started) (H : Type) (enc : TypeId × Value → H) (F : Stop.Interp) :
    ReturnsInHanded {} Tryd.checked os 6 .any ((Rows.OpenSpec.upto Rows.strStaysSpec).preRow enc Tryd.prog Tryd.f6 Rows.strStaysUptoRow.domain false Rows.strStaysUptoRow.laid) (((Rows.OpenSpec.upto Rows.strStaysSpec).at F).post enc Tryd.prog Tryd.f6 false true false false) := by
  obtain ⟨places, hx⟩ := strStays_reads os enc
  refine returnsInHanded_of_row (C := Tryd.checked) (s := (Rows.OpenSpec.upto Rows.strStaysSpec)) ownKnob_none started (by kernel_rfl) Tryd.func6
    (witness_row_at (enc := enc) (C := Tryd.checked) false (laidWorld os) #[.string ⟨#[]⟩, .bool false] rfl (by kernel_rfl) (by kernel_rfl) (by kernel_rfl)
      (OpenSpec.preRow_of_cond 8 hx (by kernel_rfl) (fun k hk => by cases hk; kernel_rfl) (by kernel_rfl) (laid_met os _))) ?_
  intro W base args ds gs before hval hW _ hc0 hsz hL _ _
  exact strStays_contract H enc W base args ds gs before hval hW hsz (tabs_of_laid hL) (hc0 _ rfl)
theorem strStays_said : Rows.StrStaysUptoSaid :=
  OpenClaim.holds_of_cond 6 Tryd.f6 rfl rfl rfl rfl rfl rfl rfl ⟨rfl, rfl, rfl, rfl, rfl⟩ rfl rfl rfl rfl rfl (by kernel_rfl) Tryd.func6 (by kernel_rfl)
    (of_decide_eq_true (by kernel_rfl)) (by unfold Func.isWrapper; first | (rw [if_pos (by decide +kernel)]; kernel_rfl) | (rw [if_neg (by decide +kernel)]; exact ⟨rfl, rfl⟩))
    (fun os started H enc _ F => by rw [OpenClaim.pre_eq_preRow]; exact strStays_lifted os started H enc F)
theorem strStays_plain (f : FuncId) (fn : Func) (hf : Tryd.pinned.checked.prog.funcNamed Rows.strStaysRow.func = some f) (hfn : Tryd.pinned.checked.prog.funcs[f]? = some fn) :
    false = Tryd.pinned.checked.prog.looks [] ∧ ∀ (j : Nat) t, fn.params[j]? = some t → Tryd.pinned.checked.prog.wantsStandIn t = false := by
  obtain rfl : f = 6 := Option.some.inj ((show Tryd.prog.funcNamed Rows.strStaysRow.func = some 6 by kernel_rfl).symm.trans hf) |>.symm
  obtain rfl : fn = Tryd.f6 := (Option.some.inj (Tryd.func6.symm.trans hfn)).symm
  refine ⟨by kernel_rfl, fun j t ht => ?_⟩
  rw [Tryd.params6] at ht
  have hm := Array.mem_of_getElem? ht
  have hall : ∀ t ∈ (#[9, 4] : Array TypeId), Tryd.prog.wantsStandIn t = false := by
    intro t ht
    simp only [List.mem_toArray, List.mem_cons, List.mem_nil_iff, or_false] at ht
    rcases ht with rfl | rfl
    all_goals kernel_rfl
  exact hall t hm

/-- THE CARD. -/
theorem strStays_card : Rows.StrStaysUptoCardSaid :=
  Claim7.holds_tied_plain_at .later [] _ _ _ _ strStays_said (fun _ h => by cases h) (by kernel_rfl) (fun _ h => by cases h) strStaysUpto_row_tie rfl ⟨rfl, rfl⟩ (by kernel_rfl) rfl strStays_plain (by kernel_rfl)
#print axioms strStays_card
end Go.Proofs.YtcjnlbelgmcpeaaDoor
