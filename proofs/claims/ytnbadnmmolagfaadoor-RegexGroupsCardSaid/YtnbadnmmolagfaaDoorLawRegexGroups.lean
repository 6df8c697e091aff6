/- The law RegexGroups (platenlaw4) holds of the program. Conditions: the library's tables unicode/utf8.first and acceptRanges read as their initialisers lay them. -/
import Derived.Test.YtnbadnmmolagfaaDoorRegLaw
import Derived.Test.YtnbadnmmolagfaaDoorRegGroupsP
namespace Go.Proofs.YtnbadnmmolagfaaDoor
open Go.RowKit Go.WideShapes Go.ChangeShapes Go.ChangeAt
set_option maxRecDepth 100000
set_option linter.unusedVariables false
set_option linter.unusedSimpArgs false

set_option maxHeartbeats 4000000 in
theorem regexGroups_core (a b : Int) (k m : Nat) (w : World) (dx : ByteArray) (G : Nat → ByteArray) (l : Ln) (hak : bits .and .i64 a 31 = (k : Int)) (n : Nat) (hbn : bits .and .i64 b 31 = (n : Int)) (hwm : wrap64 (1 + (n : Int)) = (m : Int)) (hk : k ≤ 31) (hm : m ≤ 32) (HT : Hid (Env w))
    (HDX : Hid (∀ w, Calls Tryd.prog 13 #[.int .i64 (m : Int)] w fun e w' => e = .returned (.string dx) ∧ Below w.heap.size w w'))
    (E0 : Hid ((⟨#[92]⟩ : ByteArray) ++ dx = G 0)) (E1 : Hid (∀ i, G i ++ ⟨#[40, 97, 41]⟩ = G (i + 1))) (EL : Hid (G k = strOf l))
    (s1 : dx.size ≤ 20) (HGZ : Hid (∀ i, i ≤ 31 → (G i).size ≤ 200))
    (HLL : Hid (l.length ≤ 140737488355328))
    (HCK : Hid (checkN l [] = if m ≤ k then (0, 0) else (0, 402))) :
    Calls Tryd.prog 4 #[.int .i64 a, .int .i64 b] w fun e w' => e = .returned (.bool true) ∧ Below w.heap.size w w' := by
  go_enter Tryd.func4, Tryd.ntmps4
  go_wp2_with (go_at_call 9; refine (awake_any _ HT.out).mono ?_; rintro e w1 ⟨rfl, hb1⟩)
  have HB1 := Lib.hid hb1
  clear hb1
  refine (HDX.out _).mono ?_
  rintro e w2 ⟨rfl, hb2⟩
  have HB2 := Lib.hid (HB1.out.call hb2)
  clear hb2
  have hb2' := HB2.out
  go_wp2_with fail
  rw [E0.out]
  go_loopw [7, 8] (fun s i wr => ∃ j : Nat, j ≤ k ∧ s = .string (G j) ∧ i = .int .i64 (j : Int) ∧ Below w.heap.size w wr) (fun _ i _ => k - (intOf i).toNat)
  case atStart => exact ⟨0, Nat.zero_le _, rfl, rfl, hb2'⟩
  case round =>
    obtain ⟨j, hj, rfl, rfl, hbw⟩ := hrel
    have HBW := Lib.hid hbw
    clear hbw hb2'
    have hgs := HGZ.out j (by omega)
    by_cases hlt : j < k
    · have hlt' : (j : Int) < (k : Int) := by omega
      go_wp2_with fail
      rw [E1.out j]
      go_roundw
      case rel => exact ⟨j + 1, by omega, rfl, by go_num, HBW.out⟩
      case measure => simp [intOf]; omega
    · obtain rfl : j = k := by omega
      clear hlt hj
      have HQ : Hid (∃ (c : Nat), checkN l [] = (0, c) ∧ ((m ≤ j ∧ c = 0) ∨ (¬ m ≤ j ∧ c = 402))) := Lib.hid (by
        rw [HCK.out]
        by_cases h1 : m ≤ j
        · rw [if_pos h1]; exact ⟨_, rfl, .inl ⟨h1, rfl⟩⟩
        · rw [if_neg h1]; exact ⟨_, rfl, .inr ⟨h1, rfl⟩⟩)
      obtain ⟨c, hck, hq⟩ := HQ.out
      have HCK2 := Lib.hid hck
      clear hck HQ HCK
      go_wp2_with fail
      rw [EL.out]
      refine (check_is (l := l) (fl := []) _ (HT.out.below HBW.out) HLL.out (by decide) HCK2.out).mono ?_
      rintro e w4 ⟨rfl, hb4⟩
      have HB4 := Lib.hid (HBW.out.call hb4)
      clear hb4
      rcases hq with ⟨h1, rfl⟩ | ⟨h1, rfl⟩
      · have h1' : (m : Int) ≤ (j : Int) := by omega
        clear h1
        go_wp2_with (go_at_call 12; refine (num_any _ _).mono ?_; rintro e w9 ⟨rfl, rfl⟩)
        go_ret
        exact ⟨rfl, HB4.out⟩
      · have h1' : ¬ (m : Int) ≤ (j : Int) := by omega
        clear h1
        go_wp2_with (go_at_call 12; refine (num_any _ _).mono ?_; rintro e w9 ⟨rfl, rfl⟩)
        go_ret
        exact ⟨rfl, HB4.out⟩

theorem decLoop_len : ∀ (f n : Nat) (acc : Ln), (decLoop f n acc).length ≤ f + acc.length
  | 0, _, acc => by show acc.length ≤ _; omega
  | f + 1, n, acc => by
    by_cases hc : 0 < n ∨ acc = []
    · rw [decLoop_step f n acc hc]
      have := decLoop_len f (n / 10) (UInt8.ofNat (48 + n % 10) :: acc)
      simp only [List.length_cons] at this
      omega
    · show (if _ then _ else _ : Ln).length ≤ _
      rw [if_neg hc]
      omega
theorem decB_len20 (n : Nat) : (decB (n : Int)).length ≤ 20 := by
  unfold decB
  rw [if_neg (by omega)]
  have := decLoop_len 20 (n : Int).natAbs []
  simpa [digs] using this
theorem rep_len (i : Nat) : ((List.replicate i ([40, 97, 41] : Ln)).flatten).length = 3 * i := by
  induction i with
  | zero => rfl
  | succ i ih => rw [List.replicate_succ, List.flatten_cons, List.length_append, ih]; simp; omega
theorem rep_more (i : Nat) : (List.replicate (i + 1) ([40, 97, 41] : Ln)).flatten = (List.replicate i ([40, 97, 41] : Ln)).flatten ++ [40, 97, 41] := by
  rw [List.replicate_succ', List.flatten_append]
  simp
theorem regexGroups_call (a b : Int) (w : World) (wa : (Lit.int .i64 a).wf = true) (wb : (Lit.int .i64 b).wf = true) (hT : Env w) :
    Calls Tryd.prog 4 #[.int .i64 a, .int .i64 b] w fun e w' => e = .returned (.bool true) ∧ Below w.heap.size w w' := by
  obtain ⟨k, hk, hak⟩ := and_low a 31 (by decide)
  obtain ⟨n, hn, hbn⟩ := and_low b 31 (by decide)
  have l1 := decB_len20 (1 + n)
  refine regexGroups_core a b k (1 + n) w (strOf (decB ((1 + n : Nat) : Int))) (fun i => strOf (92 :: (decB ((1 + n : Nat) : Int) ++ (List.replicate i ([40, 97, 41] : Ln)).flatten))) (groupL k n) hak n hbn (by unfold wrap64; omega) hk (by omega) (Lib.hid hT) (Lib.hid (dec_small (1 + n) (by omega)))
    (Lib.hid ?_) (Lib.hid fun i => ?_) (Lib.hid rfl) (by rw [strOf_size]; exact l1) (Lib.hid fun i hi => ?_) (Lib.hid ?_) (Lib.hid (groups_is hk hn))
  · have h1 : strOf [92] ++ strOf (decB ((1 + n : Nat) : Int)) = strOf (92 :: (decB ((1 + n : Nat) : Int) ++ (List.replicate 0 ([40, 97, 41] : Ln)).flatten)) := by simp only [strOf_append]; simp
    exact h1
  · have h1 : strOf (92 :: (decB ((1 + n : Nat) : Int) ++ (List.replicate i ([40, 97, 41] : Ln)).flatten)) ++ strOf [40, 97, 41] = strOf (92 :: (decB ((1 + n : Nat) : Int) ++ (List.replicate (i + 1) ([40, 97, 41] : Ln)).flatten)) := by rw [rep_more, strOf_append]; simp
    exact h1
  · show (strOf _).size ≤ 200
    rw [strOf_size, List.length_cons, List.length_append, rep_len]
    omega
  · unfold groupL
    rw [List.length_cons, List.length_append, rep_len]
    omega

/-- What the walk gives, for every argument. -/
theorem regexGroups_contract (H : Type) (enc : TypeId × Value → H) (W : World) (base : Nat) (args : Array Value) (ds gs : List (DataW H)) (before : List MemPlace)
    (hval : ∀ (j : Nat) t v, Tryd.f4.params[j]? = some t → args[j]? = some v → Value.okWide Tryd.prog W .any base t v)
    (hW : DataW.Whole enc Tryd.prog Tryd.f4.params.toList Rows.regexGroupsSpec.vars false W args.toList ds gs before)
    (hsz : (DataW.weightsEach Tryd.prog (Tryd.f4.params.toList ++ Rows.regexGroupsSpec.plain.varTypes Tryd.prog) (ds ++ gs)).all (· ≤ reachBytes) = true) (hT : Env W) :
    Calls Tryd.prog 4 args W fun e W' => ∃ v, e = .returned v ∧ Rows.regexGroupsSpec.post enc Tryd.prog Tryd.f4 false true false false W args v W' := by
  have hW' := hW
  obtain ⟨p, q, hA0, hV, rfl, hfz, hnd⟩ := hW
  have hA : DataW.TrodAll enc Tryd.prog W 0 (fun _ => true) true Tryd.f4.params.toList args.toList ds p := hA0
  rw [Tryd.params4] at hA hval hsz
  obtain ⟨v0, vs0, d0, ds0, p0, q0, hargs, rfl, rfl, h0, r0⟩ := trodAll_cons hA
  obtain ⟨v1, vs1, d1, ds1, p1, q1, rfl, rfl, rfl, h1, r1⟩ := trodAll_cons r0
  obtain ⟨rfl, rfl, rfl⟩ := trodAll_nil r1
  obtain rfl : args = #[v0, v1] := by cases args; simp_all
  obtain ⟨rfl, rfl⟩ := trodVars_none hV
  obtain ⟨a0, rfl, rfl, rfl, w0⟩ := open_int Tryd.underlying3 (hval 0 3 v0 rfl rfl) h0
  obtain ⟨a1, rfl, rfl, rfl, w1⟩ := open_int Tryd.underlying3 (hval 1 3 v1 rfl rfl) h1
  clear hA0 hval
  refine (regexGroups_call a0 a1 W w0 w1 hT).mono fun e W' ⟨he, hb⟩ => ?_
  subst he
  exact ⟨_, rfl, law_post (pa := []) (pv := []) Tryd.underlying4 (by kernel_rfl) hW' rfl (fun sp _ => (trodAll_cons_mk (shut_int Tryd.underlying3 w0) (trodAll_cons_mk (shut_int Tryd.underlying3 w1) trodAll_mk0))) (fun _ _ => rfl) hb⟩

theorem regexGroups_reads (os : Os) {H : Type} (enc : TypeId × Value → H) : ∃ places, DataW.whole enc Tryd.prog ((laidWorld os).forCall (fun _ _ => 0) ⟨#[], #[.int .i64 0, .int .i64 0], []⟩).memory Tryd.f4.params.toList Rows.regexGroupsSpec.vars false (#[.int .i64 0, .int .i64 0] : Array Value).toList 8 = some ([.lit (.int .i64 0), .lit (.int .i64 0)], [], places) :=
  ⟨[], by kernel_rfl⟩
theorem regexGroups_lifted (os : Os) (started : os.Started) (H : Type) (enc : TypeId × Value → H) (F : Stop.Interp) :
    ReturnsInHanded {} Tryd.checked os 4 .any ((OpenSpec.ofChange Rows.regexGroupsSpec).preRow enc Tryd.prog Tryd.f4 Rows.regexGroupsRow.domain false Rows.regexGroupsRow.laid) (((OpenSpec.ofChange Rows.regexGroupsSpec).at F).post enc Tryd.prog Tryd.f4 false true false false) := by
  obtain ⟨places, hx⟩ := regexGroups_reads os enc
  refine returnsInHanded_of_row (C := Tryd.checked) (s := (OpenSpec.ofChange Rows.regexGroupsSpec)) ownKnob_none started (by kernel_rfl) Tryd.func4
    (witness_row_at (enc := enc) (C := Tryd.checked) false (laidWorld os) #[.int .i64 0, .int .i64 0] rfl (by kernel_rfl) (by kernel_rfl) (by kernel_rfl)
      (OpenSpec.preRow_of_cond 8 hx (by kernel_rfl) (fun k hk => by cases hk) (by kernel_rfl) (laid_met os _))) ?_
  intro W base args ds gs before hval hW _ _ hsz hL hSh _
  exact regexGroups_contract H enc W base args ds gs before hval hW hsz (env_of_laid hL hSh)
theorem regexGroups_said : Rows.RegexGroupsSaid :=
  OpenClaim.holds_of_cond 4 Tryd.f4 rfl rfl rfl rfl rfl rfl rfl ⟨rfl, rfl, rfl, rfl, rfl⟩ rfl rfl rfl rfl rfl (by kernel_rfl) Tryd.func4 (by kernel_rfl)
    (of_decide_eq_true (by kernel_rfl)) (by unfold Func.isWrapper; first | (rw [if_pos (by decide +kernel)]; kernel_rfl) | (rw [if_neg (by decide +kernel)]; exact ⟨rfl, rfl⟩))
    (fun os started H enc _ F => by rw [OpenClaim.pre_eq_preRow]; exact regexGroups_lifted os started H enc F)
theorem regexGroups_plain (f : FuncId) (fn : Func) (hf : Tryd.pinned.checked.prog.funcNamed Rows.regexGroupsRow.func = some f) (hfn : Tryd.pinned.checked.prog.funcs[f]? = some fn) :
    true = Tryd.pinned.checked.prog.looks [] ∧ ∀ (j : Nat) t, fn.params[j]? = some t → Tryd.pinned.checked.prog.wantsStandIn t = false := by
  obtain rfl : f = 4 := Option.some.inj ((show Tryd.prog.funcNamed Rows.regexGroupsRow.func = some 4 by kernel_rfl).symm.trans hf) |>.symm
  obtain rfl : fn = Tryd.f4 := (Option.some.inj (Tryd.func4.symm.trans hfn)).symm
  refine ⟨by kernel_rfl, fun j t ht => ?_⟩
  rw [Tryd.params4] at ht
  have hm := Array.mem_of_getElem? ht
  have hall : ∀ t ∈ (#[3, 3] : Array TypeId), Tryd.prog.wantsStandIn t = false := by
    intro t ht
    simp only [List.mem_toArray, List.mem_cons, List.mem_nil_iff, or_false] at ht
    rcases ht with rfl | rfl
    all_goals kernel_rfl
  exact hall t hm

/-- THE CARD. -/
theorem regexGroups_card : Rows.RegexGroupsCardSaid :=
  Claim7.holds_tied_plain_at .later [] _ _ _ _ regexGroups_said (fun _ h => by cases h) (by kernel_rfl) (fun _ h => by cases h) regexGroups_row_tie rfl ⟨rfl, rfl⟩ (by kernel_rfl) rfl regexGroups_plain (by kernel_rfl)
#print axioms regexGroups_card
end Go.Proofs.YtnbadnmmolagfaaDoor
