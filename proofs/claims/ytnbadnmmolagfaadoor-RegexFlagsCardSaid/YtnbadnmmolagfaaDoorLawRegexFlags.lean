/- The law RegexFlags (platenlaw4) holds of the program. Conditions: the library's tables unicode/utf8.first and acceptRanges read as their initialisers lay them. -/
import Derived.Test.YtnbadnmmolagfaaDoorRegLaw
import Derived.Test.YtnbadnmmolagfaaDoorRegFlagsP
import Derived.Test.YtnbadnmmolagfaaDoorArgs
namespace Go.Proofs.YtnbadnmmolagfaaDoor
open Go.RowKit Go.WideShapes Go.ChangeShapes Go.ChangeAt
set_option maxRecDepth 100000
set_option linter.unusedVariables false
set_option linter.unusedSimpArgs false

theorem int_ne (y x : UInt8) : ((y.toNat : Int) != (x.toNat : Int)) = (y != x) := by
  rw [Bool.eq_iff_iff]
  simp [← UInt8.toNat_inj]
  omega
theorem letters_len : lettersL.length = 8 := rfl
/-- The letter that a number picks. -/
theorem pick_letter (u : Nat) : ∃ c : UInt8, c ∈ lettersL ∧ ∀ W : World, (Instr.index 9 (.string ⟨#[100, 103, 105, 109, 115, 117, 121, 118]⟩) (.int .u64 ((u : Int) % 8))).run Tryd.prog W = .ok (.int .u8 (c.toNat : Int)) W := by
  have hr : (u : Int) % 8 = 0 ∨ (u : Int) % 8 = 1 ∨ (u : Int) % 8 = 2 ∨ (u : Int) % 8 = 3 ∨ (u : Int) % 8 = 4 ∨ (u : Int) % 8 = 5 ∨ (u : Int) % 8 = 6 ∨ (u : Int) % 8 = 7 := by omega
  rcases hr with h | h | h | h | h | h | h | h
  all_goals rw [h]
  · exact ⟨100, by decide, fun W => rfl⟩
  · exact ⟨103, by decide, fun W => rfl⟩
  · exact ⟨105, by decide, fun W => rfl⟩
  · exact ⟨109, by decide, fun W => rfl⟩
  · exact ⟨115, by decide, fun W => rfl⟩
  · exact ⟨117, by decide, fun W => rfl⟩
  · exact ⟨121, by decide, fun W => rfl⟩
  · exact ⟨118, by decide, fun W => rfl⟩

set_option maxHeartbeats 4000000 in
theorem regexFlags_call (v : Value) (zs : List Int) (w : World) (hv : IntsIn w w.heap.size v zs) (hwf : ∀ n ∈ zs, (Lit.int .i64 n).wf = true) (hm : zs.length ≤ maxLen) (hT : Env w) :
    Calls Tryd.prog 8 #[v] w fun e w' => e = .returned (.bool true) ∧ Below w.heap.size w w' := by
  have hm9 : zs.length ≤ 9223372036854775807 := by unfold maxLen at hm; omega
  clear hm
  obtain ⟨A, c, rfl⟩ := hv.len
  have HT := Lib.hid hT
  have HV := Lib.hid hv
  clear hT hv hwf
  go_enter Tryd.func8, Tryd.ntmps8
  go_wp2_with (go_at_call 9; refine (awake_any _ HT.out).mono ?_; rintro e w1 ⟨rfl, hb1⟩)
  go_loopw [3, 4, 5] (fun s f i wr => ∃ (j : Nat) (S : Ln) (fine : Bool), j ≤ zs.length ∧ j ≤ 9 ∧ i = .int .i64 (j : Int) ∧ s = .string (strOf S) ∧ f = .bool fine ∧ S.length = j ∧ FineAt S fine ∧ Below w.heap.size w wr) (fun _ _ i _ => 9 - (intOf i).toNat)
  case atStart => exact ⟨0, [], true, Nat.zero_le _, by omega, rfl, rfl, rfl, rfl, fine_start, hb1⟩
  case round =>
    obtain ⟨j, S, fine, hj, hj9, rfl, rfl, rfl, hS, hfine, hbw⟩ := hrel
    have HBW := Lib.hid hbw
    have HF := Lib.hid hfine
    have HZ := strOf_size S
    rw [hS] at HZ
    clear hfine
    by_cases hlt : j < zs.length ∧ j < 9
    · obtain ⟨hlt1, hlt2⟩ := hlt
      rcases HV.out.below hbw (Nat.le_refl _) with ⟨A', c', e, hz⟩ | ⟨b, off, c', e, hltb, hpos, hc⟩
      · rw [hz] at hlt1; simp at hlt1
      injection e with e1 _ e3
      subst e1
      subst e3
      have c0 := hc j hlt1
      generalize hz0e : zs.getD j 0 = z at c0
      obtain ⟨u, hu⟩ := u64_nat z
      obtain ⟨x, hx, hix⟩ := pick_letter u
      have HX := Lib.hid hx
      clear hc hz0e hm9 hx hbw
      have hk1 : (j : Int) < (zs.length : Int) := by omega
      have hk2 : (j : Int) < 9 := by omega
      cases fine
      · go_wp2_with fail
        go_loopw [4, 7] (fun f k wq => ∃ (n : Nat) (g : Bool), n ≤ j ∧ k = .int .i64 (n : Int) ∧ f = .bool g ∧ RowKit.Hid (g = (false && (S.take n).all (· != x))) ∧ wq = wr) (fun _ k _ => j - (intOf k).toNat)
        case atStart => exact ⟨0, _, Nat.zero_le _, rfl, rfl, Lib.hid (by simp), rfl⟩
        case round =>
          obtain ⟨n, g, hn, rfl, rfl, HG, rfl⟩ := hrel
          by_cases hnj : n < j
          · have hnj' : (n : Int) < (j : Int) := by omega
            have hsz : n < (strOf S).size := by rw [strOf_size]; omega
            have hby := byte_at hsz (show n < S.length by omega)
            obtain ⟨y, hy⟩ : ∃ y, y = S[n]'(show n < S.length by omega) := ⟨_, rfl⟩
            rw [← hy] at hby
            have HNX : Hid (S.take (n + 1) = S.take n ++ [y]) := Lib.hid (by rw [hy]; exact List.take_succ_eq_append_getElem (show n < S.length by omega))
            clear hy
            have HXY : Hid ((((y.toNat : Int)) != (x.toNat : Int)) = (y != x)) := Lib.hid (int_ne y x)
            cases g
            · go_wp2_with fail
              go_roundw
              case rel => exact ⟨n + 1, _, by omega, by go_num, rfl, Lib.hid (by rw [HNX.out, List.all_append, ← Bool.and_assoc, ← HG.out]; simp), by trivial⟩
              case measure => simp [intOf]; omega
            · go_wp2_with fail
              go_roundw
              case rel => exact ⟨n + 1, _, by omega, by go_num, rfl, Lib.hid (by rw [HXY.out, HNX.out, List.all_append, ← Bool.and_assoc, ← HG.out]; simp), by trivial⟩
              case measure => simp [intOf]; omega
          · obtain rfl : n = j := by omega
            have HFS : Hid (g = fineStep S false x) := Lib.hid (by rw [HG.out, List.take_of_length_le (by omega)]; rfl)
            have HB3 := Lib.hid (HBW.out.alloc HBW.out.size (.cells #[.int .u8 (x.toNat : Int)] 5))
            have hcv := run_convert_bytes_back (P := Tryd.prog) (wr.alloc (.cells #[.int .u8 (x.toNat : Int)] 5)) 35 9 5 ⟨wr.heap.size, 0, none⟩ 1 [x] Tryd.underlying35 Tryd.underlying5 Tryd.underlying9 (fun q hq => by
              obtain rfl : q = 0 := by simpa using hq
              exact World.cell?_alloc_new wr _ 5 0)
            rw [show [x].length = 1 from rfl] at hcv
            have hone : (⟨[x].toArray⟩ : ByteArray).size = 1 := rfl
            have HAP : Hid (strOf S ++ ⟨[x].toArray⟩ = strOf (S ++ [x])) := Lib.hid (strOf_append S [x])
            generalize (⟨[x].toArray⟩ : ByteArray) = xs at hcv hone HAP
            have HCV := Lib.hid hcv
            clear hcv
            go_wp2_with fail
            rw [HCV.out]
            go_wp2_with fail
            rw [HAP.out]
            go_roundw
            case rel => exact ⟨n + 1, S ++ [x], g, by omega, by omega, by go_num, rfl, rfl, by simp [hS], by rw [HFS.out]; exact fine_next HF.out HX.out, HB3.out⟩
            case measure => simp [intOf]; omega
      · go_wp2_with fail
        go_loopw [4, 7] (fun f k wq => ∃ (n : Nat) (g : Bool), n ≤ j ∧ k = .int .i64 (n : Int) ∧ f = .bool g ∧ RowKit.Hid (g = (((x.toNat : Int) != 118) && (S.take n).all (· != x))) ∧ wq = wr) (fun _ k _ => j - (intOf k).toNat)
        case atStart => exact ⟨0, _, Nat.zero_le _, rfl, rfl, Lib.hid (by simp), rfl⟩
        case round =>
          obtain ⟨n, g, hn, rfl, rfl, HG, rfl⟩ := hrel
          by_cases hnj : n < j
          · have hnj' : (n : Int) < (j : Int) := by omega
            have hsz : n < (strOf S).size := by rw [strOf_size]; omega
            have hby := byte_at hsz (show n < S.length by omega)
            obtain ⟨y, hy⟩ : ∃ y, y = S[n]'(show n < S.length by omega) := ⟨_, rfl⟩
            rw [← hy] at hby
            have HNX : Hid (S.take (n + 1) = S.take n ++ [y]) := Lib.hid (by rw [hy]; exact List.take_succ_eq_append_getElem (show n < S.length by omega))
            clear hy
            have HXY : Hid ((((y.toNat : Int)) != (x.toNat : Int)) = (y != x)) := Lib.hid (int_ne y x)
            cases g
            · go_wp2_with fail
              go_roundw
              case rel => exact ⟨n + 1, _, by omega, by go_num, rfl, Lib.hid (by rw [HNX.out, List.all_append, ← Bool.and_assoc, ← HG.out]; simp), by trivial⟩
              case measure => simp [intOf]; omega
            · go_wp2_with fail
              go_roundw
              case rel => exact ⟨n + 1, _, by omega, by go_num, rfl, Lib.hid (by rw [HXY.out, HNX.out, List.all_append, ← Bool.and_assoc, ← HG.out]; simp), by trivial⟩
              case measure => simp [intOf]; omega
          · obtain rfl : n = j := by omega
            have HFS : Hid (g = fineStep S true x) := Lib.hid (by rw [HG.out, List.take_of_length_le (by omega), show ((x.toNat : Int) != 118) = (x != 118) from int_ne x 118]; simp [fineStep])
            have HB3 := Lib.hid (HBW.out.alloc HBW.out.size (.cells #[.int .u8 (x.toNat : Int)] 5))
            have hcv := run_convert_bytes_back (P := Tryd.prog) (wr.alloc (.cells #[.int .u8 (x.toNat : Int)] 5)) 35 9 5 ⟨wr.heap.size, 0, none⟩ 1 [x] Tryd.underlying35 Tryd.underlying5 Tryd.underlying9 (fun q hq => by
              obtain rfl : q = 0 := by simpa using hq
              exact World.cell?_alloc_new wr _ 5 0)
            rw [show [x].length = 1 from rfl] at hcv
            have hone : (⟨[x].toArray⟩ : ByteArray).size = 1 := rfl
            have HAP : Hid (strOf S ++ ⟨[x].toArray⟩ = strOf (S ++ [x])) := Lib.hid (strOf_append S [x])
            generalize (⟨[x].toArray⟩ : ByteArray) = xs at hcv hone HAP
            have HCV := Lib.hid hcv
            clear hcv
            go_wp2_with fail
            rw [HCV.out]
            go_wp2_with fail
            rw [HAP.out]
            go_roundw
            case rel => exact ⟨n + 1, S ++ [x], g, by omega, by omega, by go_num, rfl, rfl, by simp [hS], by rw [HFS.out]; exact fine_next HF.out HX.out, HB3.out⟩
            case measure => simp [intOf]; omega
    · have hex : ¬ j < zs.length ∨ (j < zs.length ∧ ¬ j < 9) := by
        by_cases h : j < zs.length
        · exact Or.inr ⟨h, fun h2 => hlt ⟨h, h2⟩⟩
        · exact Or.inl h
      have HCK := Lib.hid (fine_check HF.out)
      have HSL : Hid (S.length ≤ 140737488355328) := Lib.hid (by omega)
      clear hlt hbw
      rcases hex with hex | ⟨hx1, hx2⟩
      all_goals
        cases fine
        all_goals
          go_wp2_with fail
          refine (check_is (l := [97]) (fl := S) _ (HT.out.below HBW.out) (by decide) HSL.out HCK.out).mono ?_
          rintro e w4 ⟨rfl, hb4⟩
          have HB4 := Lib.hid (HBW.out.call hb4)
          clear hb4
          go_wp2_with (go_at_call 12; refine (num_any _ _).mono ?_; rintro e w9 ⟨rfl, rfl⟩)
          go_ret
          exact ⟨rfl, HB4.out⟩

/-- What the walk gives, for every argument. -/
theorem regexFlags_contract (H : Type) (enc : TypeId × Value → H) (W : World) (base : Nat) (args : Array Value) (ds gs : List (DataW H)) (before : List MemPlace)
    (hval : ∀ (j : Nat) t v, Tryd.f8.params[j]? = some t → args[j]? = some v → Value.okWide Tryd.prog W .any base t v)
    (hW : DataW.Whole enc Tryd.prog Tryd.f8.params.toList Rows.regexFlagsSpec.vars false W args.toList ds gs before)
    (hsz : (DataW.weightsEach Tryd.prog (Tryd.f8.params.toList ++ Rows.regexFlagsSpec.plain.varTypes Tryd.prog) (ds ++ gs)).all (· ≤ reachBytes) = true) (hT : Env W) :
    Calls Tryd.prog 8 args W fun e W' => ∃ v, e = .returned v ∧ Rows.regexFlagsSpec.post enc Tryd.prog Tryd.f8 false true false false W args v W' := by
  have hW' := hW
  obtain ⟨p, q, hA0, hV, rfl, hfz, hnd⟩ := hW
  have hA : DataW.TrodAll enc Tryd.prog W 0 (fun _ => true) true Tryd.f8.params.toList args.toList ds p := hA0
  rw [Tryd.params8] at hA hval hsz
  obtain ⟨v0, vs0, d0, ds0, p0, q0, hargs, rfl, rfl, h0, r0⟩ := trodAll_cons hA
  obtain ⟨rfl, rfl, rfl⟩ := trodAll_nil r0
  obtain rfl : args = #[v0] := by cases args; simp_all
  obtain ⟨rfl, rfl⟩ := trodVars_none hV
  have hlt := fun x hx => hW'.lt x hx
  obtain ⟨z0, i0, w0, m0⟩ := ints_open Tryd.underlying33 Tryd.underlying3 (by kernel_rfl) (hval 0 33 v0 rfl rfl) h0
  clear hA0 hval
  refine (regexFlags_call v0 z0 W i0 w0 m0 hT).mono fun e W' ⟨he, hb⟩ => ?_
  subst he
  exact ⟨_, rfl, law_post_any (pv := []) Tryd.underlying4 (by kernel_rfl) hW' rfl (trodAll_cons_mk (Below.trod laidOut (by kernel_rfl) (of_decide_eq_true (by kernel_rfl)) h0 hb (fun x hx => hlt x (by simp [hx]))) trodAll_mk0) rfl hb⟩

theorem regexFlags_reads (os : Os) {H : Type} (enc : TypeId × Value → H) : ∃ places, DataW.whole enc Tryd.prog ((laidWorld os).forCall (fun _ _ => 0) ⟨#[], #[.slice none 0 0], []⟩).memory Tryd.f8.params.toList Rows.regexFlagsSpec.vars false (#[.slice none 0 0] : Array Value).toList 8 = some ([.nil], [], places) :=
  ⟨[], by kernel_rfl⟩
theorem regexFlags_lifted (os : Os) (started : os.Started) (H : Type) (enc : TypeId × Value → H) (F : Stop.Interp) :
    ReturnsInHanded {} Tryd.checked os 8 .any ((OpenSpec.ofChange Rows.regexFlagsSpec).preRow enc Tryd.prog Tryd.f8 Rows.regexFlagsRow.domain false Rows.regexFlagsRow.laid) (((OpenSpec.ofChange Rows.regexFlagsSpec).at F).post enc Tryd.prog Tryd.f8 false true false false) := by
  obtain ⟨places, hx⟩ := regexFlags_reads os enc
  refine returnsInHanded_of_row (C := Tryd.checked) (s := (OpenSpec.ofChange Rows.regexFlagsSpec)) ownKnob_none started (by kernel_rfl) Tryd.func8
    (witness_row_at (enc := enc) (C := Tryd.checked) false (laidWorld os) #[.slice none 0 0] rfl (by kernel_rfl) (by kernel_rfl) (by kernel_rfl)
      (OpenSpec.preRow_of_cond 8 hx (by kernel_rfl) (fun k hk => by cases hk) (by kernel_rfl) (laid_met os _))) ?_
  intro W base args ds gs before hval hW _ _ hsz hL hSh _
  exact regexFlags_contract H enc W base args ds gs before hval hW hsz (env_of_laid hL hSh)
theorem regexFlags_said : Rows.RegexFlagsSaid :=
  OpenClaim.holds_of_cond 8 Tryd.f8 rfl rfl rfl rfl rfl rfl rfl ⟨rfl, rfl, rfl, rfl, rfl⟩ rfl rfl rfl rfl rfl (by kernel_rfl) Tryd.func8 (by kernel_rfl)
    (of_decide_eq_true (by kernel_rfl)) (by unfold Func.isWrapper; first | (rw [if_pos (by decide +kernel)]; kernel_rfl) | (rw [if_neg (by decide +kernel)]; exact ⟨rfl, rfl⟩))
    (fun os started H enc _ F => by rw [OpenClaim.pre_eq_preRow]; exact regexFlags_lifted os started H enc F)
theorem regexFlags_plain (f : FuncId) (fn : Func) (hf : Tryd.pinned.checked.prog.funcNamed Rows.regexFlagsRow.func = some f) (hfn : Tryd.pinned.checked.prog.funcs[f]? = some fn) :
    true = Tryd.pinned.checked.prog.looks [] ∧ ∀ (j : Nat) t, fn.params[j]? = some t → Tryd.pinned.checked.prog.wantsStandIn t = false := by
  obtain rfl : f = 8 := Option.some.inj ((show Tryd.prog.funcNamed Rows.regexFlagsRow.func = some 8 by kernel_rfl).symm.trans hf) |>.symm
  obtain rfl : fn = Tryd.f8 := (Option.some.inj (Tryd.func8.symm.trans hfn)).symm
  refine ⟨by kernel_rfl, fun j t ht => ?_⟩
  rw [Tryd.params8] at ht
  have hm := Array.mem_of_getElem? ht
  have hall : ∀ t ∈ (#[33] : Array TypeId), Tryd.prog.wantsStandIn t = false := by
    intro t ht
    simp only [List.mem_toArray, List.mem_cons, List.mem_nil_iff, or_false] at ht
    rcases ht with rfl
    all_goals kernel_rfl
  exact hall t hm

/-- THE CARD. -/
theorem regexFlags_card : Rows.RegexFlagsCardSaid :=
  Claim7.holds_tied_plain_at .later [] _ _ _ _ regexFlags_said (fun _ h => by cases h) (by kernel_rfl) (fun _ h => by cases h) regexFlags_row_tie rfl ⟨rfl, rfl⟩ (by kernel_rfl) rfl regexFlags_plain (by kernel_rfl)
#print axioms regexFlags_card
end Go.Proofs.YtnbadnmmolagfaaDoor
