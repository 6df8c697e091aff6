/- The law RegexRanges (platenlaw4) holds of the program. Conditions: the library's tables unicode/utf8.first and acceptRanges read as their initialisers lay them. -/
import Derived.Test.YtnbadnmmolagfaaDoorRegCard
import Derived.Laws.Cover4
namespace Go.Proofs.YtnbadnmmolagfaaDoor
open Go.RowKit Go.WideShapes Go.ChangeShapes Go.ChangeAt
set_option maxRecDepth 100000
set_option linter.unusedVariables false
set_option linter.unusedSimpArgs false

theorem and_small (x : Int) (m : Nat) (hm : m ≤ 15) : ∃ n : Nat, n ≤ m ∧ bits .and .i64 x (m : Int) = (n : Int) := by
  have hle : (BitVec.ofInt 64 x).toNat &&& m ≤ m := Nat.and_le_right
  refine ⟨(BitVec.ofInt 64 x).toNat &&& m, hle, ?_⟩
  have hmm : m % 2 ^ 64 = m := Nat.mod_eq_of_lt (by omega)
  have e : (BitVec.ofInt 64 x &&& BitVec.ofNat 64 m).toNat = (BitVec.ofInt 64 x).toNat &&& m := by rw [BitVec.toNat_and, BitVec.toNat_ofNat, hmm]
  have h0 : bits .and .i64 x (m : Int) = IntKind.i64.wrap (((BitVec.ofInt 64 x) &&& (BitVec.ofInt 64 (m : Int))).toNat : Int) := rfl
  rw [h0, BitVec.ofInt_natCast, e, IntKind.wrap_i64]
  omega
def rangeL (i j : Nat) : Ln := [120, 91, UInt8.ofNat (97 + i), 45, UInt8.ofNat (97 + j), 93]
theorem ranges_all : (List.range 16).all (fun i => (List.range 16).all fun j => checkN (rangeL i j) [] == if i ≤ j then (0, 0) else (2, 403)) = true := by decide +kernel
theorem ranges_is {i j : Nat} (hi : i ≤ 15) (hj : j ≤ 15) : checkN (rangeL i j) [] = if i ≤ j then (0, 0) else (2, 403) := by
  have h1 := List.all_eq_true.1 ranges_all i (List.mem_range.2 (by omega))
  have h2 := List.all_eq_true.1 h1 j (List.mem_range.2 (by omega))
  simpa using h2

theorem ranges_bytes_all : (List.range 16).all (fun i => (List.range 16).all fun j => (runesBytes [97 + (i : Int), 45, 97 + (j : Int)]).data.toList == [UInt8.ofNat (97 + i), 45, UInt8.ofNat (97 + j)]) = true := by decide +kernel
theorem ranges_bytes {i j : Nat} (hi : i ≤ 15) (hj : j ≤ 15) : runesBytes (([97 + (i : Int), 45, 97 + (j : Int)] : List Int).take 3) = strOf [UInt8.ofNat (97 + i), 45, UInt8.ofNat (97 + j)] := by
  have h1 := List.all_eq_true.1 ranges_bytes_all i (List.mem_range.2 (by omega))
  have h2 := List.all_eq_true.1 h1 j (List.mem_range.2 (by omega))
  have h3 := eq_of_beq h2
  show runesBytes [97 + (i : Int), 45, 97 + (j : Int)] = _
  have h4 : (strOf [UInt8.ofNat (97 + i), 45, UInt8.ofNat (97 + j)]).data.toList = (runesBytes [97 + (i : Int), 45, 97 + (j : Int)]).data.toList := by rw [strOf_list, h3]
  have h5 := Array.toList_inj.1 h4
  revert h5
  generalize strOf [UInt8.ofNat (97 + i), 45, UInt8.ofNat (97 + j)] = A
  generalize runesBytes [97 + (i : Int), 45, 97 + (j : Int)] = B
  intro h5
  cases A; cases B; simp_all

theorem cells3 (w : World) (T : TypeId) (a b c : Int) (k : Nat) (hk : k < 3) : (w.alloc (.cells #[.int .i32 a, .int .i32 b, .int .i32 c] T)).cell? ((⟨w.heap.size, 0, none⟩ : Addr).add k) = some (.int .i32 ([a, b, c].getD k 0)) := by
  match k, hk with
  | 0, _ => exact World.cell?_alloc_new w _ T 0
  | 1, _ => exact World.cell?_alloc_new w _ T 1
  | 2, _ => exact World.cell?_alloc_new w _ T 2

set_option maxHeartbeats 8000000 in
theorem regexRanges_call (a b : Int) (w : World) (wa : (Lit.int .i64 a).wf = true) (wb : (Lit.int .i64 b).wf = true) (hT : Env w) :
    Calls Tryd.prog 5 #[.int .i64 a, .int .i64 b] w fun e w' => e = .returned (.bool true) ∧ Below w.heap.size w w' := by
  obtain ⟨i, hi, hai⟩ := and_small a 15 (Nat.le_refl _)
  obtain ⟨j, hj, hbj⟩ := and_small b 15 (Nat.le_refl _)
  have HT := Lib.hid hT
  clear hT wa wb
  rw [show ((15 : Nat) : Int) = 15 from rfl] at hai hbj
  have HCK := Lib.hid (ranges_is hi hj)
  have hw1 : IntKind.i32.wrap (i : Int) = (i : Int) := by rw [IntKind.wrap_i32]; omega
  have hw2 : IntKind.i32.wrap (j : Int) = (j : Int) := by rw [IntKind.wrap_i32]; omega
  have hw3 : wrap32 (97 + (i : Int)) = 97 + (i : Int) := by unfold wrap32; omega
  have hw4 : wrap32 (97 + (j : Int)) = 97 + (j : Int) := by unfold wrap32; omega
  have HA1 : RowKit.Hid ((⟨#[120, 91]⟩ : ByteArray) ++ strOf [UInt8.ofNat (97 + i), 45, UInt8.ofNat (97 + j)] ++ ⟨#[93]⟩ = strOf (rangeL i j)) := Lib.hid (by
    have h1 : strOf [120, 91] ++ strOf [UInt8.ofNat (97 + i), 45, UInt8.ofNat (97 + j)] = strOf [120, 91, UInt8.ofNat (97 + i), 45, UInt8.ofNat (97 + j)] := strOf_append _ _
    have h2 : strOf [120, 91, UInt8.ofNat (97 + i), 45, UInt8.ofNat (97 + j)] ++ strOf [93] = strOf (rangeL i j) := strOf_append _ _
    rw [← h2, ← h1]; rfl)
  have HL : RowKit.Hid ((rangeL i j).length ≤ 140737488355328) := Lib.hid (by simp [rangeL])
  have HCV : RowKit.Hid (runesBytes (([97 + (i : Int), 45, 97 + (j : Int)] : List Int).take 3) = strOf [UInt8.ofNat (97 + i), 45, UInt8.ofNat (97 + j)]) := Lib.hid (ranges_bytes hi hj)
  have hs1 : (strOf [UInt8.ofNat (97 + i), 45, UInt8.ofNat (97 + j)]).size = 3 := strOf_size _
  have hs2 : ((⟨#[120, 91]⟩ : ByteArray) ++ strOf [UInt8.ofNat (97 + i), 45, UInt8.ofNat (97 + j)]).size = 5 := by
    have h1 : (⟨#[120, 91]⟩ : ByteArray) ++ strOf [UInt8.ofNat (97 + i), 45, UInt8.ofNat (97 + j)] = strOf [120, 91, UInt8.ofNat (97 + i), 45, UInt8.ofNat (97 + j)] := strOf_append [120, 91] _
    rw [h1]; exact strOf_size _
  revert HCK HA1 HL HCV hs1 hs2
  generalize rangeL i j = l
  generalize strOf [UInt8.ofNat (97 + i), 45, UInt8.ofNat (97 + j)] = m
  intro HCK HA1 HL HCV hs1 hs2
  rcases Nat.lt_or_ge j i with hij | hij
  all_goals have HIJ := Lib.hid hij
  all_goals clear hij
  all_goals (first | rw [if_neg (Nat.not_le.2 HIJ.out)] at HCK | rw [if_pos HIJ.out] at HCK)
  all_goals go_enter Tryd.func5, Tryd.ntmps5
  all_goals go_wp2_with (go_at_call 9; refine (awake_any _ HT.out).mono ?_; rintro e w1 ⟨rfl, hb1⟩)
  all_goals have HB0 := Lib.hid hb1
  all_goals clear hb1
  all_goals have hcv := run_convert_runes (P := Tryd.prog) (w1.alloc (.cells #[.int .i32 (97 + (i : Int)), .int .i32 45, .int .i32 (97 + (j : Int))] 21)) 31 9 21 ⟨w1.heap.size, 0, none⟩ 3 3 [97 + (i : Int), 45, 97 + (j : Int)] (by simp) Tryd.underlying31 Tryd.underlying21 Tryd.underlying9 (fun k hk => cells3 w1 _ _ _ _ k (by simpa using hk))
  all_goals rw [HCV.out] at hcv
  all_goals have HB1 := Lib.hid (Below.alloc HB0.out HB0.out.size (.cells #[.int .i32 (97 + (i : Int)), .int .i32 45, .int .i32 (97 + (j : Int))] 21))
  all_goals have HE1 := Lib.hid (HT.out.below HB1.out)
  all_goals rw [hcv]
  all_goals clear hcv
  all_goals go_wp2_with fail
  all_goals rw [HA1.out]
  all_goals refine (check_is (l := l) (fl := []) _ HE1.out HL.out (by decide) HCK.out).mono ?_
  all_goals rintro e w2 ⟨rfl, hb2⟩
  all_goals have HB2 := Lib.hid (HB1.out.call hb2)
  all_goals clear hb2
  · have hij := HIJ.out
    go_wp2_with (go_at_call 12; refine (num_any _ _).mono ?_; rintro e w9 ⟨rfl, rfl⟩)
    go_ret
    exact ⟨rfl, HB2.out⟩
  · have hij := HIJ.out
    go_wp2_with (go_at_call 12; refine (num_any _ _).mono ?_; rintro e w9 ⟨rfl, rfl⟩)
    go_ret
    exact ⟨rfl, HB2.out⟩

/-- What the walk gives, for every argument. -/
theorem regexRanges_contract (H : Type) (enc : TypeId × Value → H) (W : World) (base : Nat) (args : Array Value) (ds gs : List (DataW H)) (before : List MemPlace)
    (hval : ∀ (j : Nat) t v, Tryd.f5.params[j]? = some t → args[j]? = some v → Value.okWide Tryd.prog W .any base t v)
    (hW : DataW.Whole enc Tryd.prog Tryd.f5.params.toList Rows.regexRangesSpec.vars false W args.toList ds gs before)
    (hsz : (DataW.weightsEach Tryd.prog (Tryd.f5.params.toList ++ Rows.regexRangesSpec.plain.varTypes Tryd.prog) (ds ++ gs)).all (· ≤ reachBytes) = true) (hT : Env W) :
    Calls Tryd.prog 5 args W fun e W' => ∃ v, e = .returned v ∧ Rows.regexRangesSpec.post enc Tryd.prog Tryd.f5 false true false false W args v W' := by
  have hW' := hW
  obtain ⟨p, q, hA0, hV, rfl, hfz, hnd⟩ := hW
  have hA : DataW.TrodAll enc Tryd.prog W 0 (fun _ => true) true Tryd.f5.params.toList args.toList ds p := hA0
  rw [Tryd.params5] at hA hval hsz
  obtain ⟨v0, vs0, d0, ds0, p0, q0, hargs, rfl, rfl, h0, r0⟩ := trodAll_cons hA
  obtain ⟨v1, vs1, d1, ds1, p1, q1, rfl, rfl, rfl, h1, r1⟩ := trodAll_cons r0
  obtain ⟨rfl, rfl, rfl⟩ := trodAll_nil r1
  obtain rfl : args = #[v0, v1] := by cases args; simp_all
  obtain ⟨rfl, rfl⟩ := trodVars_none hV
  obtain ⟨a0, rfl, rfl, rfl, w0⟩ := open_int Tryd.underlying3 (hval 0 3 v0 rfl rfl) h0
  obtain ⟨a1, rfl, rfl, rfl, w1⟩ := open_int Tryd.underlying3 (hval 1 3 v1 rfl rfl) h1
  clear hA0 hval
  refine (regexRanges_call a0 a1 W w0 w1 hT).mono fun e W' ⟨he, hb⟩ => ?_
  subst he
  exact ⟨_, rfl, law_post (pa := []) (pv := []) Tryd.underlying4 (by kernel_rfl) hW' rfl (fun sp _ => (trodAll_cons_mk (shut_int Tryd.underlying3 w0) (trodAll_cons_mk (shut_int Tryd.underlying3 w1) trodAll_mk0))) (fun _ _ => rfl) hb⟩

theorem regexRanges_reads (os : Os) {H : Type} (enc : TypeId × Value → H) : ∃ places, DataW.whole enc Tryd.prog ((laidWorld os).forCall (fun _ _ => 0) ⟨#[], #[.int .i64 0, .int .i64 0], []⟩).memory Tryd.f5.params.toList Rows.regexRangesSpec.vars false (#[.int .i64 0, .int .i64 0] : Array Value).toList 8 = some ([.lit (.int .i64 0), .lit (.int .i64 0)], [], places) :=
  ⟨[], by kernel_rfl⟩
theorem regexRanges_lifted (os : Os) (started : os.Started) (H : Type) (enc : TypeId × Value → H) (F : Stop.Interp) :
    ReturnsInHanded {} Tryd.checked os 5 .any ((OpenSpec.ofChange Rows.regexRangesSpec).preRow enc Tryd.prog Tryd.f5 Rows.regexRangesRow.domain false Rows.regexRangesRow.laid) (((OpenSpec.ofChange Rows.regexRangesSpec).at F).post enc Tryd.prog Tryd.f5 false true false false) := by
  obtain ⟨places, hx⟩ := regexRanges_reads os enc
  refine returnsInHanded_of_row (C := Tryd.checked) (s := (OpenSpec.ofChange Rows.regexRangesSpec)) ownKnob_none started (by kernel_rfl) Tryd.func5
    (witness_row_at (enc := enc) (C := Tryd.checked) false (laidWorld os) #[.int .i64 0, .int .i64 0] rfl (by kernel_rfl) (by kernel_rfl) (by kernel_rfl)
      (OpenSpec.preRow_of_cond 8 hx (by kernel_rfl) (fun k hk => by cases hk) (by kernel_rfl) (laid_met os _))) ?_
  intro W base args ds gs before hval hW _ _ hsz hL hSh _
  exact regexRanges_contract H enc W base args ds gs before hval hW hsz (env_of_laid hL hSh)
theorem regexRanges_said : Rows.RegexRangesSaid :=
  OpenClaim.holds_of_cond 5 Tryd.f5 rfl rfl rfl rfl rfl rfl rfl ⟨rfl, rfl, rfl, rfl, rfl⟩ rfl rfl rfl rfl rfl (by kernel_rfl) Tryd.func5 (by kernel_rfl)
    (of_decide_eq_true (by kernel_rfl)) (by unfold Func.isWrapper; first | (rw [if_pos (by decide +kernel)]; kernel_rfl) | (rw [if_neg (by decide +kernel)]; exact ⟨rfl, rfl⟩))
    (fun os started H enc _ F => by rw [OpenClaim.pre_eq_preRow]; exact regexRanges_lifted os started H enc F)
theorem regexRanges_plain (f : FuncId) (fn : Func) (hf : Tryd.pinned.checked.prog.funcNamed Rows.regexRangesRow.func = some f) (hfn : Tryd.pinned.checked.prog.funcs[f]? = some fn) :
    true = Tryd.pinned.checked.prog.looks [] ∧ ∀ (j : Nat) t, fn.params[j]? = some t → Tryd.pinned.checked.prog.wantsStandIn t = false := by
  obtain rfl : f = 5 := Option.some.inj ((show Tryd.prog.funcNamed Rows.regexRangesRow.func = some 5 by kernel_rfl).symm.trans hf) |>.symm
  obtain rfl : fn = Tryd.f5 := (Option.some.inj (Tryd.func5.symm.trans hfn)).symm
  refine ⟨by kernel_rfl, fun j t ht => ?_⟩
  rw [Tryd.params5] at ht
  have hm := Array.mem_of_getElem? ht
  have hall : ∀ t ∈ (#[3, 3] : Array TypeId), Tryd.prog.wantsStandIn t = false := by
    intro t ht
    simp only [List.mem_toArray, List.mem_cons, List.mem_nil_iff, or_false] at ht
    rcases ht with rfl | rfl
    all_goals kernel_rfl
  exact hall t hm

/-- THE CARD. -/
theorem regexRanges_card : Rows.RegexRangesCardSaid :=
  Claim7.holds_tied_plain_at .later [] _ _ _ _ regexRanges_said (fun _ h => by cases h) (by kernel_rfl) (fun _ h => by cases h) regexRanges_row_tie rfl ⟨rfl, rfl⟩ (by kernel_rfl) rfl regexRanges_plain (by kernel_rfl)
#print axioms regexRanges_card
end Go.Proofs.YtnbadnmmolagfaaDoor
