/- The law LayoutLiterals (platenlaw17) holds of the program. Conditions: the library's tables unicode/utf8.first and acceptRanges read as their initialisers lay them. -/
import Derived.Test.YthljgiimdcbfpaaDoorMLaw
namespace Go.Proofs.YthljgiimdcbfpaaDoor
open Go.RowKit Go.WideShapes Go.ChangeShapes Go.ChangeAt
set_option maxRecDepth 100000
set_option linter.unusedVariables false
set_option linter.unusedSimpArgs false

def litBase : Doc := eDoc 2 [tD [97, 32, 32], eDoc 6 [], tD [98, 32, 9], eDoc 5 [], tD [99]]
def wrapD : Nat → Doc
  | 0 => litBase
  | i + 1 => eDoc 11 [wrapD i]
def litNl (cr : Bool) : Ln := if cr then [13, 10] else [10]
def litWant (k : Nat) (cr : Bool) : Ln := [97, 32, 32] ++ litNl cr ++ [98] ++ litNl cr ++ List.replicate k 32 ++ [99]
theorem lits_all : (List.range 16).all (fun k => [false, true].all fun cr => laidB (wrapD k) ⟨40, 1, false, cr⟩ (litWant k cr) && decide ((wrapD k).bulk ≤ 4194304)) = true := by decide +kernel
theorem lits_is {k : Nat} (hk : k ≤ 15) (cr : Bool) : laidB (wrapD k) ⟨40, 1, false, cr⟩ (litWant k cr) = true ∧ (wrapD k).bulk ≤ 4194304 := by
  have h1 := List.all_eq_true.1 lits_all k (List.mem_range.2 (by omega))
  have h2 := List.all_eq_true.1 h1 cr (by cases cr <;> simp)
  rw [Bool.and_eq_true] at h2
  exact ⟨h2.1, by simpa using h2.2⟩
def litOv (cr : Bool) : OptV := ⟨⟨40, 1, false, cr⟩, false, false, false, false, false⟩
theorem lit_laid {k : Nat} (hk : k ≤ 15) (cr : Bool) (kv : Value) (S : ByteArray) (hS : S = strOf (litWant k cr)) (W : World) (hi : InW W (wrapD k) kv) (hT : Tabs W) :
    Calls Tryd.prog 25 #[docV (wrapD k) kv, .agg (litOv cr).cells.toArray, .string S] W fun e w' => e = .returned (.bool true) ∧ Below W.heap.size W w' := by
  have h := laid_any (wrapD k) kv (litOv cr) (litWant k cr) W hi (lits_is hk cr).2 hT
  rw [show laidB (wrapD k) (litOv cr).o (litWant k cr) = true from (lits_is hk cr).1, ← hS] at h
  exact h

set_option maxHeartbeats 16000000 in
theorem layoutLiterals_call (a : Int) (cr : Bool) (w : World) (wa : (Lit.int .i64 a).wf = true) (hT : Tabs w) :
    Calls Tryd.prog 10 #[.int .i64 a, .bool cr] w fun e w' => e = .returned (.bool true) ∧ Below w.heap.size w w' := by
  obtain ⟨k, hk, hak⟩ := and_small a 15 (by decide)
  have HT := Lib.hid hT
  rw [show ((15 : Nat) : Int) = 15 from rfl] at hak
  clear hT wa
  go_enter Tryd.func10, Tryd.ntmps10
  go_wp2_with fail
  refine (awake17_any w HT.out).mono ?_
  rintro e w1 ⟨rfl, hb1⟩
  have HB := Lib.hid hb1
  clear hb1
  go_wp2_with (first | (go_at_call 21; refine (text17_any _ _).mono ?_; rintro e wt ⟨rfl, hbt⟩; have HBX := Lib.hid (HB.out.call hbt); clear HB hbt; have HB := HBX; clear HBX; unfold docV; simp only [dtext, Doc.kind, Doc.text, Doc.brk, Doc.id, Doc.width]) | (go_at_call 24; refine (leaf_any _ _).mono ?_; rintro e wt ⟨rfl, hbt⟩; have HBX := Lib.hid (HB.out.call hbt); clear HB hbt; have HB := HBX; clear HBX; unfold docV; simp only [eDoc, Doc.kind, Doc.text, Doc.brk, Doc.id, Doc.width]))
  refine (cat_any [tD [97, 32, 32], eDoc 6 [], tD [98, 32, 9], eDoc 5 [], tD [99]] _ _ _ _).mono ?_
  rintro e w3 ⟨rfl, hb3⟩
  obtain ⟨g0, hg0⟩ : ∃ g0, g0 = wt.heap.size := ⟨_, rfl⟩
  have hg3 : wt.heap.size < w3.heap.size := by have := hb3.size; simp at this; omega
  have hB3 : Blk w3 wt.heap.size (docsCells [(tD [97, 32, 32], .slice none 0 0), (eDoc 6 [], .slice none 0 0), (tD [98, 32, 9], .slice none 0 0), (eDoc 5 [], .slice none 0 0), (tD [99], .slice none 0 0)]) 24 := (Blk.new' (W := wt) _ _ rfl).below hb3
  have hk3 : InF (fun b => b ≠ w3.heap.size) w3 litBase (.slice (some ⟨wt.heap.size, 0, none⟩) 5 5) :=
    InF.made (cap := 5) [(tD [97, 32, 32], .slice none 0 0), (eDoc 6 [], .slice none 0 0), (tD [98, 32, 9], .slice none 0 0), (eDoc 5 [], .slice none 0 0), (tD [99], .slice none 0 0)] hB3 (by omega) (by intro p hp; simp at hp; rcases hp with rfl | rfl | rfl | rfl | rfl <;> exact InF.nil rfl) rfl (by simp)
  have HB3 := Lib.hid ((HB.out.alloc HB.out.size _).call hb3)
  clear HB hb3 hB3
  unfold docV
  simp only [eDoc, Doc.kind, Doc.text, Doc.brk, Doc.id, Doc.width]
  obtain ⟨G, hG⟩ : ∃ G, G = w3.heap.size := ⟨_, rfl⟩
  have HGE := Lib.hid hG
  obtain ⟨V, hV⟩ : ∃ V, V = w3.alloc (.cells (docCells litBase (.slice (some ⟨wt.heap.size, 0, none⟩) 5 5)).toArray 24) := ⟨_, rfl⟩
  have HV0 : Hid (Blk V G (docCells litBase (.slice (some ⟨wt.heap.size, 0, none⟩) 5 5)) 24 ∧ InF (fun b => b ≠ G) V litBase (.slice (some ⟨wt.heap.size, 0, none⟩) 5 5) ∧ Below w.heap.size w V ∧ G < V.heap.size) := Lib.hid (by
    rw [hV, hG]
    exact ⟨Blk.new' _ _ rfl, hk3.next ((Below.refl _ _).alloc (Nat.le_refl _) _), HB3.out.alloc HB3.out.size _, by simp⟩)
  have HVV := Lib.hid hV
  clear hk3 hV
  go_upto_region 5 with fail
  rw [← hG]
  refine Code.wp_world HVV.out ?_
  have hGw : w.heap.size ≤ G := by rw [hG]; exact HB3.out.size
  clear hG HVV
  obtain ⟨kv0, hkv0⟩ : ∃ kv0, kv0 = Value.slice (some ⟨wt.heap.size, 0, none⟩) 5 5 := ⟨_, rfl⟩
  rw [← hkv0] at HV0
  clear hkv0
  go_wp2_with fail
  go_loopw [7] (fun i wr => ∃ (j : Nat) (kv : Value), j ≤ k ∧ i = .int .i64 (j : Int) ∧ Blk wr G (docCells (wrapD j) kv) 24 ∧ InF (fun b => b ≠ G) wr (wrapD j) kv ∧ Below w.heap.size w wr) (fun i _ => k - (intOf i).toNat)
  case atStart => exact ⟨0, kv0, Nat.zero_le _, rfl, HV0.out.1, HV0.out.2.1, HV0.out.2.2.1⟩
  case round =>
    obtain ⟨j, kv, hj, rfl, hk, hin, hbw⟩ := hrel
    have HK := Lib.hid hk
    have HIN := Lib.hid hin
    have HBW := Lib.hid hbw
    obtain ⟨A, cp, rfl⟩ := hin.slice
    generalize hnk : (wrapD j).kids.length = nk at *
    have c0 := hk.cell 0
    have c1 := hk.cell 1
    have c2 := hk.cell 2
    have c3 := hk.cell 3
    have c4 := hk.cell 4
    have c5 := hk.cell 5
    have f0 := hk.frozen 0
    have f1 := hk.frozen 1
    have f2 := hk.frozen 2
    have f3 := hk.frozen 3
    have f4 := hk.frozen 4
    have f5 := hk.frozen 5
    unfold docCells at c0 c1 c2 c3 c4 c5
    simp only [List.getElem?_cons_zero, List.getElem?_cons_succ] at c0 c1 c2 c3 c4 c5
    have hGl := hk.lt
    clear hk hin hbw HV0
    by_cases h : j < k
    · have h' : (j : Int) < (k : Int) := by omega
      go_wp2_with fail
      refine (of_any 11 (wrapD j) (.slice A nk cp) wr ⟨A, cp, by rw [hnk]⟩).mono ?_
      rintro e w4 ⟨gn, rfl, hb4, hge, hbk⟩
      have hin4 : InF (fun b => b ≠ G) w4 (wrapD (j + 1)) (.slice (some ⟨gn, 0, none⟩) 1 1) := InF.made (cap := 1) [(wrapD j, .slice A nk cp)] hbk (by omega) (by intro p hp; rw [List.mem_singleton] at hp; subst hp; exact HIN.out.next hb4) rfl (by simp)
      have hk4 := HK.out.below hb4
      have HIN4 := Lib.hid hin4
      have HB4 := Lib.hid (HBW.out.call hb4)
      have HK4 := Lib.hid hk4
      have hz4 := hb4.size
      have g0 := hk4.frozen 0
      have g1 := hk4.frozen 1
      have g2 := hk4.frozen 2
      have g3 := hk4.frozen 3
      have g4 := hk4.frozen 4
      have g5 := hk4.frozen 5
      have e0 := hk4.cell 0
      have e1 := hk4.cell 1
      have e2 := hk4.cell 2
      have e3 := hk4.cell 3
      have e4 := hk4.cell 4
      have e5 := hk4.cell 5
      unfold docCells at e0 e1 e2 e3 e4 e5
      simp only [List.getElem?_cons_zero, List.getElem?_cons_succ] at e0 e1 e2 e3 e4 e5
      clear hin4 hk4 hb4 hbk c0 c1 c2 c3 c4 c5 f0 f1 f2 f3 f4 f5
      unfold docV
      go_wp2_with fail
      exact ⟨⟨j + 1, .slice (some ⟨gn, 0, none⟩) 1 1, by omega, by simp, set6_blk HK4.out rfl (wrapD (j + 1)) _, HIN4.out.of (fun b hF hb => set6_heap _ _ _ _ _ _ _ _ _ hF) (by simp [World.setCell]), set6_below HB4.out G _ _ _ _ _ _ hGw⟩, by simp only [intOf]; omega⟩
    · obtain rfl : j = k := by omega
      clear f0 f1 f2 f3 f4 f5
      have HSB := Lib.hid hnk
      cases cr
      all_goals
        go_upto_region 12 with fail
        refine wp_region_seq (fun w' => w'.heap[G]? = wr.heap[G]?) 9 5 (by kernel_rfl) rfl (by kernel_rfl) (by intro _ _ d _ _ h; cases d <;> exact h) rfl ?_
        simp only [List.take_succ_cons, List.take_zero, List.drop_succ_cons, List.drop_zero, List.cons_append, List.nil_append]
        repeat (refine wpHeld_step rfl ?_; apply Exists.intro; refine ⟨fun wq hq => ?_, ?_⟩; (have q0 := (World.cell?_of_block (a := ⟨G, 0, none⟩) hq).trans c0; have q1 := (World.cell?_of_block (a := ⟨G, 1, none⟩) hq).trans c1; have q2 := (World.cell?_of_block (a := ⟨G, 2, none⟩) hq).trans c2; have q3 := (World.cell?_of_block (a := ⟨G, 3, none⟩) hq).trans c3; have q4 := (World.cell?_of_block (a := ⟨G, 4, none⟩) hq).trans c4; have q5 := (World.cell?_of_block (a := ⟨G, 5, none⟩) hq).trans c5; go_simp; first | done | rfl); simp only [Act.put, List.setIfInBounds_toArray, List.set_cons_zero, List.set_cons_succ])
        change wpSeq _ _ _ _ _ _ _
        have hbs : (strOf (List.replicate j 32)).size = j := by rw [strOf_size, List.length_replicate]
        refine wpSeq_step rfl (fun K hK => ?_)
        go_simp
        refine (blanks17_any j _ (by omega)).mono ?_
        rintro e wb ⟨rfl, rfl⟩
        refine hK _ _ rfl ?_
        clear hK K
        try simp only [Act.put, List.setIfInBounds_toArray, List.set_cons_zero, List.set_cons_succ]
        refine wpSeq_step rfl (fun K hK => ?_)
        go_simp
        rw [if_neg (by omega)]
        go_simp
        refine hK _ _ rfl ?_
        clear hK K
        try simp only [Act.put, List.setIfInBounds_toArray, List.set_cons_zero, List.set_cons_succ]
        refine wpSeq_step rfl (fun K hK => ?_)
        go_simp
        rw [if_neg (by omega)]
        go_simp
        refine hK _ _ rfl ?_
        clear hK K
        try simp only [Act.put, List.setIfInBounds_toArray, List.set_cons_zero, List.set_cons_succ]
        refine wpSeq_step rfl (fun K hK => ?_)
        go_simp
        have hin := HIN.out.inW
        refine (lit_laid hk _ (.slice A nk cp) _ (by
          unfold litWant litNl
          rw [← strOf_append, ← strOf_append, ← strOf_append, ← strOf_append, ← strOf_append]
          rfl) wr.drew (hin.next (Below.refl _ wr).drew) (HT.out.below HBW.out.drew)).mono ?_
        rintro e w9 ⟨rfl, hb9⟩
        have HB9 := Lib.hid (HBW.out.drew.call hb9)
        have HS9 := Lib.hid (hb9.block G hGl)
        refine hK _ _ HS9.out ?_
        clear hK K hb9
        try simp only [Act.put, List.setIfInBounds_toArray, List.set_cons_zero, List.set_cons_succ]
        refine wpSeq_step rfl (fun K hK => ?_)
        go_simp
        refine hK _ _ HS9.out ?_
        clear hK K
        try simp only [Act.put, List.setIfInBounds_toArray, List.set_cons_zero, List.set_cons_succ]
        first
          | change Exit.then _ _ Exit.normal _ _
          | change Exit.inBlock _ _ Exit.normal _ _
        go_wp2_with fail
        go_ret
        exact ⟨rfl, HB9.out⟩

/-- What the walk gives, for every argument. -/
theorem layoutLiterals_contract (H : Type) (enc : TypeId × Value → H) (W : World) (base : Nat) (args : Array Value) (ds gs : List (DataW H)) (before : List MemPlace)
    (hval : ∀ (j : Nat) t v, Tryd.f10.params[j]? = some t → args[j]? = some v → Value.okWide Tryd.prog W .any base t v)
    (hW : DataW.Whole enc Tryd.prog Tryd.f10.params.toList Rows.layoutLiteralsSpec.vars false W args.toList ds gs before)
    (hsz : (DataW.weightsEach Tryd.prog (Tryd.f10.params.toList ++ Rows.layoutLiteralsSpec.plain.varTypes Tryd.prog) (ds ++ gs)).all (· ≤ reachBytes) = true) (hT : Tabs W) :
    Calls Tryd.prog 10 args W fun e W' => ∃ v, e = .returned v ∧ Rows.layoutLiteralsSpec.post enc Tryd.prog Tryd.f10 false true false false W args v W' := by
  have hW' := hW
  obtain ⟨p, q, hA0, hV, rfl, hfz, hnd⟩ := hW
  have hA : DataW.TrodAll enc Tryd.prog W 0 (fun _ => true) true Tryd.f10.params.toList args.toList ds p := hA0
  rw [Tryd.params10] at hA hval hsz
  obtain ⟨v0, vs0, d0, ds0, p0, q0, hargs, rfl, rfl, h0, r0⟩ := trodAll_cons hA
  obtain ⟨v1, vs1, d1, ds1, p1, q1, rfl, rfl, rfl, h1, r1⟩ := trodAll_cons r0
  obtain ⟨rfl, rfl, rfl⟩ := trodAll_nil r1
  obtain rfl : args = #[v0, v1] := by cases args; simp_all
  obtain ⟨rfl, rfl⟩ := trodVars_none hV
  obtain ⟨a0, rfl, rfl, rfl, w0⟩ := open_int Tryd.underlying3 (hval 0 3 v0 rfl rfl) h0
  obtain ⟨a1, rfl, rfl, rfl⟩ := open_bool Tryd.underlying4 (hval 1 4 v1 rfl rfl) h1
  clear hA0 hval
  refine (layoutLiterals_call a0 a1 W w0 hT).mono fun e W' ⟨he, hb⟩ => ?_
  subst he
  exact ⟨_, rfl, law_post (pa := []) (pv := []) Tryd.underlying4 (by kernel_rfl) hW' rfl (fun sp _ => (trodAll_cons_mk (shut_int Tryd.underlying3 w0) (trodAll_cons_mk (shut_bool Tryd.underlying4 _) trodAll_mk0))) (fun _ _ => rfl) hb⟩

theorem layoutLiterals_reads (os : Os) {H : Type} (enc : TypeId × Value → H) : ∃ places, DataW.whole enc Tryd.prog ((laidWorld os).forCall (fun _ _ => 0) ⟨#[], #[.int .i64 0, .bool false], []⟩).memory Tryd.f10.params.toList Rows.layoutLiteralsSpec.vars false (#[.int .i64 0, .bool false] : Array Value).toList 8 = some ([.lit (.int .i64 0), .lit (.bool false)], [], places) :=
  ⟨[], by kernel_rfl⟩
theorem layoutLiterals_lifted (os : Os) (started : os.Started) (H : Type) (enc : TypeId × Value → H) (F : Stop.Interp) :
    ReturnsInHanded {} Tryd.checked os 10 .any ((OpenSpec.ofChange Rows.layoutLiteralsSpec).preRow enc Tryd.prog Tryd.f10 Rows.layoutLiteralsRow.domain false Rows.layoutLiteralsRow.laid) (((OpenSpec.ofChange Rows.layoutLiteralsSpec).at F).post enc Tryd.prog Tryd.f10 false true false false) := by
  obtain ⟨places, hx⟩ := layoutLiterals_reads os enc
  refine returnsInHanded_of_row (C := Tryd.checked) (s := (OpenSpec.ofChange Rows.layoutLiteralsSpec)) ownKnob_none started (by kernel_rfl) Tryd.func10
    (witness_row_at (enc := enc) (C := Tryd.checked) false (laidWorld os) #[.int .i64 0, .bool false] rfl (by kernel_rfl) (by kernel_rfl) (by kernel_rfl)
      (OpenSpec.preRow_of_cond 8 hx (by kernel_rfl) (fun k hk => by cases hk) (by kernel_rfl) (laid_met os _))) ?_
  intro W base args ds gs before hval hW _ _ hsz hL _ _
  exact layoutLiterals_contract H enc W base args ds gs before hval hW hsz (tabs_of_laid hL)
theorem layoutLiterals_said : Rows.LayoutLiteralsSaid :=
  OpenClaim.holds_of_cond 10 Tryd.f10 rfl rfl rfl rfl rfl rfl rfl ⟨rfl, rfl, rfl, rfl, rfl⟩ rfl rfl rfl rfl rfl (by kernel_rfl) Tryd.func10 (by kernel_rfl)
    (of_decide_eq_true (by kernel_rfl)) (by unfold Func.isWrapper; first | (rw [if_pos (by decide +kernel)]; kernel_rfl) | (rw [if_neg (by decide +kernel)]; exact ⟨rfl, rfl⟩))
    (fun os started H enc _ F => by rw [OpenClaim.pre_eq_preRow]; exact layoutLiterals_lifted os started H enc F)
theorem layoutLiterals_plain (f : FuncId) (fn : Func) (hf : Tryd.pinned.checked.prog.funcNamed Rows.layoutLiteralsRow.func = some f) (hfn : Tryd.pinned.checked.prog.funcs[f]? = some fn) :
    true = Tryd.pinned.checked.prog.looks [] ∧ ∀ (j : Nat) t, fn.params[j]? = some t → Tryd.pinned.checked.prog.wantsStandIn t = false := by
  obtain rfl : f = 10 := Option.some.inj ((show Tryd.prog.funcNamed Rows.layoutLiteralsRow.func = some 10 by kernel_rfl).symm.trans hf) |>.symm
  obtain rfl : fn = Tryd.f10 := (Option.some.inj (Tryd.func10.symm.trans hfn)).symm
  refine ⟨by kernel_rfl, fun j t ht => ?_⟩
  rw [Tryd.params10] at ht
  have hm := Array.mem_of_getElem? ht
  have hall : ∀ t ∈ (#[3, 4] : Array TypeId), Tryd.prog.wantsStandIn t = false := by
    intro t ht
    simp only [List.mem_toArray, List.mem_cons, List.mem_nil_iff, or_false] at ht
    rcases ht with rfl | rfl
    all_goals kernel_rfl
  exact hall t hm

/-- THE CARD. -/
theorem layoutLiterals_card : Rows.LayoutLiteralsCardSaid :=
  Claim7.holds_tied_plain_at .later [] _ _ _ _ layoutLiterals_said (fun _ h => by cases h) (by kernel_rfl) (fun _ h => by cases h) layoutLiterals_row_tie rfl ⟨rfl, rfl⟩ (by kernel_rfl) rfl layoutLiterals_plain (by kernel_rfl)
#print axioms layoutLiterals_card
end Go.Proofs.YthljgiimdcbfpaaDoor
