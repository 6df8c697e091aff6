/- The law RegexNames (platenlaw4) holds of the program. Conditions: the library's tables unicode/utf8.first and acceptRanges read as their initialisers lay them. -/
import Derived.Test.YtnbadnmmolagfaaDoorRegLaw
import Derived.Test.YtnbadnmmolagfaaDoorRegNamesP
namespace Go.Proofs.YtnbadnmmolagfaaDoor
open Go.RowKit Go.WideShapes Go.ChangeShapes Go.ChangeAt
set_option maxRecDepth 100000
set_option linter.unusedVariables false
set_option linter.unusedSimpArgs false

theorem nm_dec {x : Nat} (h : x ≤ 3) : decB (x : Int) = [UInt8.ofNat (48 + x)] := by
  have : x = 0 ∨ x = 1 ∨ x = 2 ∨ x = 3 := by omega
  rcases this with rfl | rfl | rfl | rfl <;> decide +kernel
theorem nm_ne_all : (List.range 4).all (fun x => (List.range 4).all fun y => (nm x == nm y) == decide (x = y)) = true := by decide +kernel
theorem nm_ne {x y : Nat} (hx : x ≤ 3) (hy : y ≤ 3) : (nm x == nm y) = decide (x = y) := by
  have h1 := List.all_eq_true.1 (List.all_eq_true.1 nm_ne_all x (List.mem_range.2 (by omega))) y (List.mem_range.2 (by omega))
  exact eq_of_beq h1

set_option maxHeartbeats 4000000 in
theorem regexNames_core (a b c : Int) (x y z : Nat) (w : World) (X Y Z dx dy dz H : ByteArray) (l : Ln) (hax : bits .and .i64 a 3 = (x : Int)) (hay : bits .and .i64 b 3 = (y : Int)) (haz : bits .and .i64 c 3 = (z : Int)) (HT : Hid (Env w))
    (HDX : Hid (∀ w, Calls Tryd.prog 13 #[.int .i64 (x : Int)] w fun e w' => e = .returned (.string dx) ∧ Below w.heap.size w w'))
    (HDY : Hid (∀ w, Calls Tryd.prog 13 #[.int .i64 (y : Int)] w fun e w' => e = .returned (.string dy) ∧ Below w.heap.size w w'))
    (HDZ : Hid (∀ w, Calls Tryd.prog 13 #[.int .i64 (z : Int)] w fun e w' => e = .returned (.string dz) ∧ Below w.heap.size w w'))
    (EX : Hid ((⟨#[103]⟩ : ByteArray) ++ dx = X)) (EY : Hid ((⟨#[103]⟩ : ByteArray) ++ dy = Y)) (EZ : Hid ((⟨#[103]⟩ : ByteArray) ++ dz = Z))
    (EH : Hid ((⟨#[92, 107, 60]⟩ : ByteArray) ++ Z ++ ⟨#[62, 40, 63, 60]⟩ ++ X ++ ⟨#[62, 97, 41]⟩ = H)) (EL : Hid (H ++ ⟨#[40, 63, 60]⟩ ++ Y ++ ⟨#[62, 98, 41]⟩ = strOf l))
    (s1 : dx.size = 1) (s2 : dy.size = 1) (s3 : dz.size = 1) (sx : X.size = 2) (sy : Y.size = 2) (sz : Z.size = 2) (sh : H.size = 14) (HLL : Hid (l.length ≤ 140737488355328))
    (qxy : (X.toList == Y.toList) = decide (x = y)) (qzx : (Z.toList == X.toList) = decide (z = x)) (qzy : (Z.toList == Y.toList) = decide (z = y)) (HCK : Hid (checkN l [] = namesR x y z)) :
    Calls Tryd.prog 6 #[.int .i64 a, .int .i64 b, .int .i64 c] w fun e w' => e = .returned (.bool true) ∧ Below w.heap.size w w' := by
  go_enter Tryd.func6, Tryd.ntmps6
  go_wp2_with (go_at_call 9; refine (awake_any _ HT.out).mono ?_; rintro e w1 ⟨rfl, hb1⟩)
  have HB1 := Lib.hid hb1
  clear hb1
  refine (HDX.out _).mono ?_
  rintro e w2 ⟨rfl, hb2⟩
  have HB2 := Lib.hid (HB1.out.call hb2)
  clear hb2
  go_wp2_with fail
  rw [EX.out]
  refine (HDY.out _).mono ?_
  rintro e w3 ⟨rfl, hb3⟩
  have HB3 := Lib.hid (HB2.out.call hb3)
  clear hb3
  go_wp2_with fail
  rw [EY.out]
  refine (HDZ.out _).mono ?_
  rintro e w4 ⟨rfl, hb4⟩
  have HB4 := Lib.hid (HB3.out.call hb4)
  clear hb4
  go_wp2_with fail
  rw [EZ.out, EH.out, EL.out]
  have hs14 : ((14 : Int) + 3) = 17 := rfl
  have HQ : Hid (∃ (at' : Int) (c : Nat), checkN l [] = (at', c) ∧ ((x = y ∧ at' = 17 ∧ c = 404) ∨ (x ≠ y ∧ z ≠ x ∧ z ≠ y ∧ at' = 0 ∧ c = 404) ∨ (x ≠ y ∧ (z = x ∨ z = y) ∧ at' = 0 ∧ c = 0))) := Lib.hid (by
    rw [HCK.out]
    unfold namesR
    by_cases h1 : x = y
    · rw [if_pos h1]; exact ⟨_, _, rfl, .inl ⟨h1, rfl, rfl⟩⟩
    · rw [if_neg h1]
      by_cases h2 : z ≠ x ∧ z ≠ y
      · rw [if_pos h2]; exact ⟨_, _, rfl, .inr (.inl ⟨h1, h2.1, h2.2, rfl, rfl⟩)⟩
      · rw [if_neg h2]; exact ⟨_, _, rfl, .inr (.inr ⟨h1, by omega, rfl, rfl⟩)⟩)
  obtain ⟨at', c, hck, hq⟩ := HQ.out
  have HCK2 := Lib.hid hck
  clear hck HQ HCK
  refine (check_is (l := l) (fl := []) _ (HT.out.below HB4.out) HLL.out (by decide) HCK2.out).mono ?_
  rintro e w5 ⟨rfl, hb5⟩
  have HB5 := Lib.hid (HB4.out.call hb5)
  clear hb5
  rcases hq with ⟨h1, rfl, rfl⟩ | ⟨h1, h2, h3, rfl, rfl⟩ | ⟨h1, h2, rfl, rfl⟩
  · rw [decide_eq_true h1] at qxy
    clear qzx qzy h1
    go_wp2_with (go_at_call 12; refine (num_any _ _).mono ?_; rintro e w9 ⟨rfl, rfl⟩)
    go_ret
    exact ⟨rfl, HB5.out⟩
  · rw [decide_eq_false h1] at qxy
    rw [decide_eq_false h2] at qzx
    rw [decide_eq_false h3] at qzy
    clear h1 h2 h3
    go_wp2_with (go_at_call 12; refine (num_any _ _).mono ?_; rintro e w9 ⟨rfl, rfl⟩)
    go_ret
    exact ⟨rfl, HB5.out⟩
  · rw [decide_eq_false h1] at qxy
    rcases h2 with h2 | h2
    · rw [decide_eq_true h2] at qzx
      clear h1 h2 qzy
      go_wp2_with (go_at_call 12; refine (num_any _ _).mono ?_; rintro e w9 ⟨rfl, rfl⟩)
      go_ret
      exact ⟨rfl, HB5.out⟩
    · rw [decide_eq_true h2] at qzy
      clear h1 h2
      cases hzx : decide (z = x)
      all_goals
        rw [hzx] at qzx
        clear hzx
        go_wp2_with (go_at_call 12; refine (num_any _ _).mono ?_; rintro e w9 ⟨rfl, rfl⟩)
        go_ret
        exact ⟨rfl, HB5.out⟩

theorem regexNames_call (a b c : Int) (w : World) (wa : (Lit.int .i64 a).wf = true) (wb : (Lit.int .i64 b).wf = true) (wc : (Lit.int .i64 c).wf = true) (hT : Env w) :
    Calls Tryd.prog 6 #[.int .i64 a, .int .i64 b, .int .i64 c] w fun e w' => e = .returned (.bool true) ∧ Below w.heap.size w w' := by
  obtain ⟨x, hx, hax⟩ := and_low a 3 (by decide)
  obtain ⟨y, hy, hay⟩ := and_low b 3 (by decide)
  obtain ⟨z, hz, haz⟩ := and_low c 3 (by decide)
  have dx := fun w => dec_small x (by omega) w
  have dy := fun w => dec_small y (by omega) w
  have dz := fun w => dec_small z (by omega) w
  rw [nm_dec hx] at dx
  rw [nm_dec hy] at dy
  rw [nm_dec hz] at dz
  refine regexNames_core a b c x y z w (strOf (nm x)) (strOf (nm y)) (strOf (nm z)) (strOf [UInt8.ofNat (48 + x)]) (strOf [UInt8.ofNat (48 + y)]) (strOf [UInt8.ofNat (48 + z)]) (strOf (namesHead x z)) (namesL x y z) hax hay haz (Lib.hid hT) (Lib.hid dx) (Lib.hid dy) (Lib.hid dz)
    (Lib.hid (strOf_append [103] _)) (Lib.hid (strOf_append [103] _)) (Lib.hid (strOf_append [103] _)) (Lib.hid ?_) (Lib.hid ?_) (strOf_size _) (strOf_size _) (strOf_size _) (strOf_size _) (strOf_size _) (strOf_size _) (strOf_size _) (Lib.hid (by simp [namesL, namesHead, nm])) ?_ ?_ ?_ (Lib.hid (names_is hx hy hz))
  · have h1 : strOf [92, 107, 60] ++ strOf (nm z) ++ strOf [62, 40, 63, 60] ++ strOf (nm x) ++ strOf [62, 97, 41] = strOf (namesHead x z) := by simp only [strOf_append]; rfl
    exact h1
  · have h1 : strOf (namesHead x z) ++ strOf [40, 63, 60] ++ strOf (nm y) ++ strOf [62, 98, 41] = strOf (namesL x y z) := by simp only [strOf_append]; rfl
    exact h1
  · rw [str_list, str_list]; exact nm_ne hx hy
  · rw [str_list, str_list]; exact nm_ne hz hx
  · rw [str_list, str_list]; exact nm_ne hz hy

/-- What the walk gives, for every argument. -/
theorem regexNames_contract (H : Type) (enc : TypeId × Value → H) (W : World) (base : Nat) (args : Array Value) (ds gs : List (DataW H)) (before : List MemPlace)
    (hval : ∀ (j : Nat) t v, Tryd.f6.params[j]? = some t → args[j]? = some v → Value.okWide Tryd.prog W .any base t v)
    (hW : DataW.Whole enc Tryd.prog Tryd.f6.params.toList Rows.regexNamesSpec.vars false W args.toList ds gs before)
    (hsz : (DataW.weightsEach Tryd.prog (Tryd.f6.params.toList ++ Rows.regexNamesSpec.plain.varTypes Tryd.prog) (ds ++ gs)).all (· ≤ reachBytes) = true) (hT : Env W) :
    Calls Tryd.prog 6 args W fun e W' => ∃ v, e = .returned v ∧ Rows.regexNamesSpec.post enc Tryd.prog Tryd.f6 false true false false W args v W' := by
  have hW' := hW
  obtain ⟨p, q, hA0, hV, rfl, hfz, hnd⟩ := hW
  have hA : DataW.TrodAll enc Tryd.prog W 0 (fun _ => true) true Tryd.f6.params.toList args.toList ds p := hA0
  rw [Tryd.params6] at hA hval hsz
  obtain ⟨v0, vs0, d0, ds0, p0, q0, hargs, rfl, rfl, h0, r0⟩ := trodAll_cons hA
  obtain ⟨v1, vs1, d1, ds1, p1, q1, rfl, rfl, rfl, h1, r1⟩ := trodAll_cons r0
  obtain ⟨v2, vs2, d2, ds2, p2, q2, rfl, rfl, rfl, h2, r2⟩ := trodAll_cons r1
  obtain ⟨rfl, rfl, rfl⟩ := trodAll_nil r2
  obtain rfl : args = #[v0, v1, v2] := by cases args; simp_all
  obtain ⟨rfl, rfl⟩ := trodVars_none hV
  obtain ⟨a0, rfl, rfl, rfl, w0⟩ := open_int Tryd.underlying3 (hval 0 3 v0 rfl rfl) h0
  obtain ⟨a1, rfl, rfl, rfl, w1⟩ := open_int Tryd.underlying3 (hval 1 3 v1 rfl rfl) h1
  obtain ⟨a2, rfl, rfl, rfl, w2⟩ := open_int Tryd.underlying3 (hval 2 3 v2 rfl rfl) h2
  clear hA0 hval
  refine (regexNames_call a0 a1 a2 W w0 w1 w2 hT).mono fun e W' ⟨he, hb⟩ => ?_
  subst he
  exact ⟨_, rfl, law_post (pa := []) (pv := []) Tryd.underlying4 (by kernel_rfl) hW' rfl (fun sp _ => (trodAll_cons_mk (shut_int Tryd.underlying3 w0) (trodAll_cons_mk (shut_int Tryd.underlying3 w1) (trodAll_cons_mk (shut_int Tryd.underlying3 w2) trodAll_mk0)))) (fun _ _ => rfl) hb⟩

theorem regexNames_reads (os : Os) {H : Type} (enc : TypeId × Value → H) : ∃ places, DataW.whole enc Tryd.prog ((laidWorld os).forCall (fun _ _ => 0) ⟨#[], #[.int .i64 0, .int .i64 0, .int .i64 0], []⟩).memory Tryd.f6.params.toList Rows.regexNamesSpec.vars false (#[.int .i64 0, .int .i64 0, .int .i64 0] : Array Value).toList 8 = some ([.lit (.int .i64 0), .lit (.int .i64 0), .lit (.int .i64 0)], [], places) :=
  ⟨[], by kernel_rfl⟩
theorem regexNames_lifted (os : Os) (started : os.Started) (H : Type) (enc : TypeId × Value → H) (F : Stop.Interp) :
    ReturnsInHanded {} Tryd.checked os 6 .any ((OpenSpec.ofChange Rows.regexNamesSpec).preRow enc Tryd.prog Tryd.f6 Rows.regexNamesRow.domain false Rows.regexNamesRow.laid) (((OpenSpec.ofChange Rows.regexNamesSpec).at F).post enc Tryd.prog Tryd.f6 false true false false) := by
  obtain ⟨places, hx⟩ := regexNames_reads os enc
  refine returnsInHanded_of_row (C := Tryd.checked) (s := (OpenSpec.ofChange Rows.regexNamesSpec)) ownKnob_none started (by kernel_rfl) Tryd.func6
    (witness_row_at (enc := enc) (C := Tryd.checked) false (laidWorld os) #[.int .i64 0, .int .i64 0, .int .i64 0] rfl (by kernel_rfl) (by kernel_rfl) (by kernel_rfl)
      (OpenSpec.preRow_of_cond 8 hx (by kernel_rfl) (fun k hk => by cases hk) (by kernel_rfl) (laid_met os _))) ?_
  intro W base args ds gs before hval hW _ _ hsz hL hSh _
  exact regexNames_contract H enc W base args ds gs before hval hW hsz (env_of_laid hL hSh)
theorem regexNames_said : Rows.RegexNamesSaid :=
  OpenClaim.holds_of_cond 6 Tryd.f6 rfl rfl rfl rfl rfl rfl rfl ⟨rfl, rfl, rfl, rfl, rfl⟩ rfl rfl rfl rfl rfl (by kernel_rfl) Tryd.func6 (by kernel_rfl)
    (of_decide_eq_true (by kernel_rfl)) (by unfold Func.isWrapper; first | (rw [if_pos (by decide +kernel)]; kernel_rfl) | (rw [if_neg (by decide +kernel)]; exact ⟨rfl, rfl⟩))
    (fun os started H enc _ F => by rw [OpenClaim.pre_eq_preRow]; exact regexNames_lifted os started H enc F)
theorem regexNames_plain (f : FuncId) (fn : Func) (hf : Tryd.pinned.checked.prog.funcNamed Rows.regexNamesRow.func = some f) (hfn : Tryd.pinned.checked.prog.funcs[f]? = some fn) :
    true = Tryd.pinned.checked.prog.looks [] ∧ ∀ (j : Nat) t, fn.params[j]? = some t → Tryd.pinned.checked.prog.wantsStandIn t = false := by
  obtain rfl : f = 6 := Option.some.inj ((show Tryd.prog.funcNamed Rows.regexNamesRow.func = some 6 by kernel_rfl).symm.trans hf) |>.symm
  obtain rfl : fn = Tryd.f6 := (Option.some.inj (Tryd.func6.symm.trans hfn)).symm
  refine ⟨by kernel_rfl, fun j t ht => ?_⟩
  rw [Tryd.params6] at ht
  have hm := Array.mem_of_getElem? ht
  have hall : ∀ t ∈ (#[3, 3, 3] : Array TypeId), Tryd.prog.wantsStandIn t = false := by
    intro t ht
    simp only [List.mem_toArray, List.mem_cons, List.mem_nil_iff, or_false] at ht
    rcases ht with rfl | rfl | rfl
    all_goals kernel_rfl
  exact hall t hm

/-- THE CARD. -/
theorem regexNames_card : Rows.RegexNamesCardSaid :=
  Claim7.holds_tied_plain_at .later [] _ _ _ _ regexNames_said (fun _ h => by cases h) (by kernel_rfl) (fun _ h => by cases h) regexNames_row_tie rfl ⟨rfl, rfl⟩ (by kernel_rfl) rfl regexNames_plain (by kernel_rfl)
#print axioms regexNames_card
end Go.Proofs.YtnbadnmmolagfaaDoor
