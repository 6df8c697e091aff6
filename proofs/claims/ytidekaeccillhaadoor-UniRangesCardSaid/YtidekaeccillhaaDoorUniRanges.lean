/- WHAT IS PROVED: UniRanges holds for every two numbers: within a block of letters all are letters, and what stands beside it is not. Condition: the listed tables of the library's decoder read as its text lays them (the card ties them). -/
import Derived.Test.YtidekaeccillhaaDoorCard
import Derived.Test.YtidekaeccillhaaDoorUniLawPlain
namespace Go.Proofs.YtidekaeccillhaaDoor
open Go.RowKit Go.ChangeShapes Go.WideShapes Go.ChangeAt
open Go.ChangeMaps (open_string shut_string)
set_option maxRecDepth 100000
set_option linter.unusedVariables false

def blocks : List Int := [65, 90, 97, 122, 0xc0, 0xd6, 0x5d0, 0x5ea, 0x3041, 0x3096, 0x30a1, 0x30fa, 0xac00, 0xd7a3, 0x20000, 0x2a6df]
theorem block_start : ∀ k, k < 8 → ∀ r : Int, blocks.getD (2 * k) 0 ≤ r → r ≤ blocks.getD (2 * k + 1) 0 → startB r = true
  | 0, _, r, h1, h2 => by
    simp [blocks] at h1 h2
    unfold startB
    rw [if_pos (by omega)]
    simp [inB, h1, h2]
  | 1, _, r, h1, h2 => by
    simp [blocks] at h1 h2
    unfold startB
    rw [if_pos (by omega)]
    simp [inB, h1, h2]
  | 2, _, r, h1, h2 => by
    simp [blocks] at h1 h2
    unfold startB startRows
    rw [if_neg (by omega)]
    simp [inB, h1, h2]
  | 3, _, r, h1, h2 => by
    simp [blocks] at h1 h2
    unfold startB startRows
    rw [if_neg (by omega)]
    simp [inB, h1, h2]
  | 4, _, r, h1, h2 => by
    simp [blocks] at h1 h2
    unfold startB startRows
    rw [if_neg (by omega)]
    simp [inB, h1, h2]
  | 5, _, r, h1, h2 => by
    simp [blocks] at h1 h2
    unfold startB startRows
    rw [if_neg (by omega)]
    simp [inB, h1, h2]
  | 6, _, r, h1, h2 => by
    simp [blocks] at h1 h2
    unfold startB startRows
    rw [if_neg (by omega)]
    simp [inB, h1, h2]
  | 7, _, r, h1, h2 => by
    simp [blocks] at h1 h2
    unfold startB startRows
    rw [if_neg (by omega)]
    simp [inB, h1, h2]
  | k + 8, h, _, _, _ => by omega
theorem block_said : ∀ k, k < 8 → (0 < blocks.getD (2 * k) 0 ∧ blocks.getD (2 * k) 0 ≤ blocks.getD (2 * k + 1) 0 ∧ blocks.getD (2 * k + 1) 0 ≤ 200000) ∧ startB (blocks.getD (2 * k) 0 - 1) = false ∧ startB (blocks.getD (2 * k + 1) 0 + 1) = false := by decide
theorem start_kind {r : Int} (h : startB r = true) : partB r = true ∧ endsB r = false ∧ blankB r = false := by
  refine ⟨startB_part r h, ?_, ?_⟩
  · cases he : endsB r
    · rfl
    · rw [(ends_kind he).2.2.1] at h; cases h
  · cases he : blankB r
    · rfl
    · rw [(blank_kind he).2.2.1] at h; cases h

theorem wp_world {P : Program} {c : Code} {Q : Exit → Act → World → Prop} {a : Act} {w : World} (S : World → Prop) (hS : S w) (h : ∀ W, S W → c.wp P Q a W) : c.wp P Q a w := h w hS

set_option maxHeartbeats 4000000 in
theorem uniRanges_core (a b : Int) (ua ub : Nat) (hua : IntKind.u64.wrap a = (ua : Int)) (hub : IntKind.u64.wrap b = (ub : Int)) (w : World) (hT : Tabs w) :
    Calls Tryd.prog 8 #[.int .i64 a, .int .i64 b] w fun e w' => e = .returned (.bool true) ∧ Below w.heap.size w w' := by
  have HT := Lib.hid hT
  clear hT
  have hA : ua % 8 < 8 := Nat.mod_lt _ (by decide)
  obtain ⟨⟨f0, ft, t9⟩, hsf, hst⟩ := block_said _ hA
  have HB := Lib.hid (block_start _ hA)
  have HSF := Lib.hid hsf
  have HST := Lib.hid hst
  clear hsf hst
  go_enter Tryd.func8, Tryd.ntmps8
  go_wp2_with (go_at_call 14; refine (awake1_any _ HT.out).mono ?_; rintro e w1 ⟨rfl, hb1⟩)
  refine wp_world (fun W => (∀ j, j < 16 → W.cell? ⟨w1.heap.size, j, none⟩ = some (.int .i64 (blocks.getD j 0))) ∧ Below w.heap.size w W) ⟨by exact cells_new w1 _ blocks, hb1.alloc hb1.size _⟩ ?_
  rintro W ⟨hc, hbW⟩
  have c0 := hc (2 * (ua % 8)) (by omega)
  have c1 := hc (2 * (ua % 8) + 1) (by omega)
  clear hc
  generalize blocks.getD (2 * (ua % 8)) 0 = f at *
  generalize blocks.getD (2 * (ua % 8) + 1) 0 = t at *
  have hr0 : 0 ≤ (ub : Int) % (t - f + 1) := Int.emod_nonneg _ (by omega)
  have hr1 : (ub : Int) % (t - f + 1) < t - f + 1 := Int.emod_lt_of_pos _ (by omega)
  have HR := Lib.hid (HB.out (f + (ub : Int) % (t - f + 1)) (by omega) (by omega))
  have HK := Lib.hid (start_kind HR.out)
  go_quiet (fail)
  have hbN := below_drewN hbW nq
  clear c0 c1 hbW
  go_wp2_with fail
  refine (start_is _ _ HR.out).mono ?_
  rintro e w2 ⟨rfl, hw2⟩
  go_wp2_with fail
  refine (part_is _ _ HK.out.1).mono ?_
  rintro e w3 ⟨rfl, hw3⟩
  go_wp2_with fail
  refine (ends_is _ _ HK.out.2.1).mono ?_
  rintro e w4 ⟨rfl, hw4⟩
  go_wp2_with fail
  refine (blank_is _ _ HK.out.2.2).mono ?_
  rintro e w5 ⟨rfl, hw5⟩
  go_wp2_with fail
  refine (start_is _ _ HSF.out).mono ?_
  rintro e w6 ⟨rfl, hw6⟩
  go_wp2_with fail
  refine (start_is _ _ HST.out).mono ?_
  rintro e w7 ⟨rfl, hw7⟩
  go_wp2_with fail
  go_ret
  exact ⟨rfl, (((((hbN.call hw2).call hw3).call hw4).call hw5).call hw6).call hw7⟩

theorem u64_nat (a : Int) : ∃ u : Nat, IntKind.u64.wrap a = (u : Int) := by
  refine ⟨(IntKind.u64.wrap a).toNat, ?_⟩
  rw [IntKind.wrap_u64]
  omega
theorem uniRanges_call (a b : Int) (w : World) (wa : (Lit.int .i64 a).wf = true) (wb : (Lit.int .i64 b).wf = true) (hT : Tabs w) :
    Calls Tryd.prog 8 #[.int .i64 a, .int .i64 b] w fun e w' => e = .returned (.bool true) ∧ Below w.heap.size w w' := by
  obtain ⟨ua, hua⟩ := u64_nat a
  obtain ⟨ub, hub⟩ := u64_nat b
  exact uniRanges_core a b ua ub hua hub w hT

/-- What the walk gives, for every argument. -/
theorem uniRanges_contract (H : Type) (enc : TypeId × Value → H) (W : World) (base : Nat) (args : Array Value) (ds gs : List (DataW H)) (before : List MemPlace)
    (hval : ∀ (j : Nat) t v, Tryd.f8.params[j]? = some t → args[j]? = some v → Value.okWide Tryd.prog W .any base t v)
    (hW : DataW.Whole enc Tryd.prog Tryd.f8.params.toList Rows.uniRangesSpec.vars false W args.toList ds gs before)
    (hsz : (DataW.weightsEach Tryd.prog (Tryd.f8.params.toList ++ Rows.uniRangesSpec.plain.varTypes Tryd.prog) (ds ++ gs)).all (· ≤ reachBytes) = true) (hT : Tabs W) :
    Calls Tryd.prog 8 args W fun e W' => ∃ v, e = .returned v ∧ Rows.uniRangesSpec.post enc Tryd.prog Tryd.f8 false true false false W args v W' := by
  have hW' := hW
  obtain ⟨p, q, hA0, hV, rfl, hfz, hnd⟩ := hW
  have hA : DataW.TrodAll enc Tryd.prog W 0 (fun _ => true) true Tryd.f8.params.toList args.toList ds p := hA0
  rw [Tryd.params8] at hA hval hsz
  obtain ⟨v0, vs0, d0, ds0, p0, q0, hargs, rfl, rfl, h0, r0⟩ := trodAll_cons hA
  obtain ⟨v1, vs1, d1, ds1, p1, q1, rfl, rfl, rfl, h1, r1⟩ := trodAll_cons r0
  obtain ⟨rfl, rfl, rfl⟩ := trodAll_nil r1
  obtain rfl : args = #[v0, v1] := by cases args; simp_all
  obtain ⟨rfl, rfl⟩ := trodVars_none hV
  obtain ⟨a0, rfl, rfl, rfl, w0⟩ := open_int Tryd.underlying3 (hval 0 3 v0 rfl rfl) h0
  obtain ⟨a1, rfl, rfl, rfl, w1⟩ := open_int Tryd.underlying3 (hval 1 3 v1 rfl rfl) h1
  clear hA0 hval
  refine (uniRanges_call a0 a1 W w0 w1 hT).mono fun e W' ⟨he, hb⟩ => ?_
  subst he
  exact ⟨_, rfl, law_post (pa := []) (pv := []) Tryd.underlying4 (by kernel_rfl) hW' rfl (fun sp _ => (trodAll_cons_mk (shut_int Tryd.underlying3 w0) (trodAll_cons_mk (shut_int Tryd.underlying3 w1) trodAll_mk0))) (fun _ _ => rfl) hb⟩

theorem uniRanges_reads (os : Os) {H : Type} (enc : TypeId × Value → H) : ∃ places, DataW.whole enc Tryd.prog ((laidWorld os).forCall (fun _ _ => 0) ⟨#[], #[.int .i64 0, .int .i64 0], []⟩).memory Tryd.f8.params.toList Rows.uniRangesSpec.vars false (#[.int .i64 0, .int .i64 0] : Array Value).toList 8 = some ([.lit (.int .i64 0), .lit (.int .i64 0)], [], places) :=
  ⟨[], by kernel_rfl⟩
theorem uniRanges_lifted (os : Os) (started : os.Started) (H : Type) (enc : TypeId × Value → H) (F : Stop.Interp) :
    ReturnsInHanded {} Tryd.checked os 8 .any ((OpenSpec.ofChange Rows.uniRangesSpec).preRow enc Tryd.prog Tryd.f8 Rows.uniRangesRow.domain false Rows.uniRangesRow.laid) (((OpenSpec.ofChange Rows.uniRangesSpec).at F).post enc Tryd.prog Tryd.f8 false true false false) := by
  obtain ⟨places, hx⟩ := uniRanges_reads os enc
  refine returnsInHanded_of_row (C := Tryd.checked) (s := (OpenSpec.ofChange Rows.uniRangesSpec)) ownKnob_none started (by kernel_rfl) Tryd.func8
    (witness_row_at (enc := enc) (C := Tryd.checked) false (laidWorld os) #[.int .i64 0, .int .i64 0] rfl (by kernel_rfl) (by kernel_rfl) (by kernel_rfl)
      (OpenSpec.preRow_of_cond 8 hx (by kernel_rfl) (fun k hk => by cases hk) (by kernel_rfl) (laid_met os _))) ?_
  intro W base args ds gs before hval hW _ _ hsz hL _ _
  exact uniRanges_contract H enc W base args ds gs before hval hW hsz (tabs_of_laid hL)
theorem uniRanges_said : Rows.UniRangesSaid :=
  OpenClaim.holds_of_cond 8 Tryd.f8 rfl rfl rfl rfl rfl rfl rfl ⟨rfl, rfl, rfl, rfl, rfl⟩ rfl rfl rfl rfl rfl (by kernel_rfl) Tryd.func8 (by kernel_rfl)
    (of_decide_eq_true (by kernel_rfl)) (by unfold Func.isWrapper; first | (rw [if_pos (by decide +kernel)]; kernel_rfl) | (rw [if_neg (by decide +kernel)]; exact ⟨rfl, rfl⟩))
    (fun os started H enc _ F => by rw [OpenClaim.pre_eq_preRow]; exact uniRanges_lifted os started H enc F)
theorem uniRanges_plain (f : FuncId) (fn : Func) (hf : Tryd.pinned.checked.prog.funcNamed Rows.uniRangesRow.func = some f) (hfn : Tryd.pinned.checked.prog.funcs[f]? = some fn) :
    false = Tryd.pinned.checked.prog.looks [] ∧ ∀ (j : Nat) t, fn.params[j]? = some t → Tryd.pinned.checked.prog.wantsStandIn t = false := by
  obtain rfl : f = 8 := Option.some.inj ((show Tryd.prog.funcNamed Rows.uniRangesRow.func = some 8 by kernel_rfl).symm.trans hf) |>.symm
  obtain rfl : fn = Tryd.f8 := (Option.some.inj (Tryd.func8.symm.trans hfn)).symm
  refine ⟨by kernel_rfl, fun j t ht => ?_⟩
  rw [Tryd.params8] at ht
  have hm := Array.mem_of_getElem? ht
  have hall : ∀ t ∈ (#[3, 3] : Array TypeId), Tryd.prog.wantsStandIn t = false := by
    intro t ht
    simp only [List.mem_toArray, List.mem_cons, List.mem_nil_iff, or_false] at ht
    rcases ht with rfl | rfl
    all_goals kernel_rfl
  exact hall t hm

/-- THE CARD. -/
theorem uniRanges_card : Rows.UniRangesCardSaid :=
  Claim7.holds_tied_plain_at .later [] _ _ _ _ uniRanges_said (fun _ h => by cases h) (by kernel_rfl) (fun _ h => by cases h) uniRanges_row_tie rfl ⟨rfl, rfl⟩ (by kernel_rfl) rfl uniRanges_plain (by kernel_rfl)
#print axioms uniRanges_card
end Go.Proofs.YtidekaeccillhaaDoor
