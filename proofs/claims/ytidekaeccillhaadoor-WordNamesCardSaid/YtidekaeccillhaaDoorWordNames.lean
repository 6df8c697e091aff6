/- WHAT IS PROVED: WordNames holds for every text: a name begins as names begin and goes on as they go on; what is reserved is one. Condition: the listed tables of the library's decoder read as its text lays them (the card ties them); the form's own reach. -/
import Derived.Test.YtidekaeccillhaaDoorCard
import Derived.Test.YtidekaeccillhaaDoorUniLawPlain
import Derived.Test.YtidekaeccillhaaDoorWordAwake
namespace Go.Proofs.YtidekaeccillhaaDoor
open Go.RowKit Go.ChangeShapes Go.WideShapes Go.ChangeAt
open Go.ChangeMaps (open_string shut_string)
set_option maxRecDepth 100000
set_option linter.unusedVariables false

theorem words_names : (words.all nameB) = true := by kernel_rfl
theorem await_name : nameB awaitB = true := by kernel_rfl
theorem reserved_name {s : ByteArray} {m : Bool} (h : resB s m = true) : nameB s = true := by
  unfold resB at h
  rw [Bool.or_eq_true] at h
  rcases h with h | h
  · rw [Bool.and_eq_true] at h
    rw [eq_of_data (eq_of_beq h.2)]
    exact await_name
  · exact List.all_eq_true.1 words_names s (hasB_mem h)
theorem reserved_more {s : ByteArray} (h : resB s true = false) : resB s false = false := by
  unfold resB at h ⊢
  simp at h ⊢
  exact h.2
theorem bad_name (s : ByteArray) : ∀ (f i p : Nat), badFrom s f i = some p → nameFrom s f i = false
  | 0, _, _, h => by cases h
  | f + 1, i, p, h => by
    simp only [badFrom] at h
    simp only [nameFrom]
    by_cases hi : i < s.size
    · rw [if_pos hi] at h ⊢
      by_cases hb : lenB s i = 0
      · have : okAt s i = false := by
          unfold okAt
          rw [decode_bad s i hb]
          show (partB 65533 && _) = false
          rw [partB_err]; rfl
        rw [this]; rfl
      · rw [if_neg hb] at h
        rw [bad_name s f _ p h, Bool.and_false]
    · rw [if_neg hi] at h; cases h
theorem bad_nameB {s : ByteArray} {p : Nat} (h : badRest s 0 = some p) : nameB s = false := by
  rw [nameB_rest]
  unfold nameRest
  rw [bad_name s _ _ p h]; rfl
/-- A name's first character, and each other one. -/
theorem okAt_first (s : ByteArray) : okAt s 0 = startB (Utf8.decode s 0).1 := by
  unfold okAt
  cases h : startB (Utf8.decode s 0).1
  · simp
  · rw [startB_part _ h]; rfl
theorem okAt_next (s : ByteArray) (pos : Nat) (h : pos ≠ 0) : okAt s pos = partB (Utf8.decode s pos).1 := by
  unfold okAt
  simp [h]

theorem reserved_is (s : ByteArray) (m : Bool) {b : Bool} (w : World) (h : resB s m = b) : Calls Tryd.prog 26 #[.string s, .bool m] w fun e w' => e = .returned (.bool b) ∧ w = w' := by
  subst h
  exact reserved_any s m w

/-- What the law's own loop reckons: the name again. -/
def IsRel (s : ByteArray) (b : Bool) (pos : Nat) : Prop := (b && nameRest s pos) = nameB s
theorem isRel_step {s : ByteArray} {b x : Bool} {pos : Nat} (hp : pos < s.size) (h : IsRel s b pos) (hx : okAt s pos = x) : IsRel s (b && x) (pos + (Utf8.decode s pos).2) := by
  unfold IsRel at h ⊢
  rw [← h, nameRest_step s pos hp, hx, Bool.and_assoc]

/-- The part behind the loop: the law's last tests, the name's Bool in hand. -/
theorem rel_done {s : ByteArray} {b : Bool} {pos : Nat} (hp : ¬ pos < s.size) (h : IsRel s b pos) : b = nameB s := by
  unfold IsRel at h
  rw [nameRest_end s pos hp, Bool.and_true] at h
  exact h

set_option maxHeartbeats 8000000 in
theorem wordNames_call (s : ByteArray) (w : World) (hs : s.size ≤ 2305843009213693952) (hT : Tabs w) :
    Calls Tryd.prog 10 #[.string s] w fun e w' => e = .returned (.bool true) ∧ Below w.heap.size w w' := by
  have HT := Lib.hid hT
  clear hT
  have HS : Hid ((!s.toList.isEmpty) = decide (0 < s.size)) := Lib.hid (empty_size s)
  go_enter Tryd.func10, Tryd.ntmps10
  go_wp2_with (go_at_call 25; refine (awake6_any _).mono ?_; rintro e w1 ⟨rfl, hb1⟩)
  rw [HS.out]
  go_loopw [3, 4] (fun is first wr => ∃ (pos : Nat) (b : Bool), pos ≤ s.size ∧ is = .bool b ∧ first = .bool (decide (pos = 0)) ∧ wr.heap[w1.heap.size]? = some (.stringIter s pos) ∧ Below w.heap.size w wr ∧ IsRel s b pos) (fun _ _ wr => s.size - wr.iterPos w1.heap.size)
  case atStart =>
    refine ⟨0, decide (0 < s.size), Nat.zero_le _, rfl, rfl, World.iter_heap w1 s 0, hb1.alloc hb1.size _, ?_⟩
    unfold IsRel
    rw [nameB_rest, Bool.and_comm]
  case round =>
    obtain ⟨pos, b, hle, rfl, rfl, hit, hbw, hrel⟩ := hrel
    have HR := Lib.hid hrel
    clear hrel
    have hsz : w1.heap.size < wr.heap.size := (Array.getElem?_eq_some_iff.1 hit).1
    have hsz1 := hb1.size
    by_cases hp : pos < s.size
    · have HST := Lib.hid (fun x (hx : okAt s pos = x) => isRel_step hp HR.out hx)
      have hin := decode_in s pos hp
      have hps := decode_pos s pos
      have hnx : ∀ ty, (Instr.next (.pointer (some ⟨w1.heap.size, 0, none⟩)) true ty).run Tryd.prog wr = _ := fun ty => Lib.run_next_any_at wr w1.heap.size s pos ty hit hp
      have hit2 := Lib.iterAt_heap wr w1.heap.size s pos (pos + (Utf8.decode s pos).2) hit
      have hbw2 := Lib.below_iterAt hbw (k := w1.heap.size) hsz1 s (pos + (Utf8.decode s pos).2)
      have hsz2 : (wr.iterAt w1.heap.size s (pos + (Utf8.decode s pos).2)).heap.size = wr.heap.size := Lib.iterAt_size _ _ _ _
      have hd0 := decode_le s pos
      have HF : Hid (pos = 0 → okAt s pos = startB (Utf8.decode s pos).1) := Lib.hid (fun h => by subst h; exact okAt_first s)
      have HG := Lib.hid (okAt_next s pos)
      generalize hd : (Utf8.decode s pos).1 = d at *
      generalize hwd : (Utf8.decode s pos).2 = wd at *
      generalize hW : wr.iterAt w1.heap.size s (pos + wd) = W at *
      have HIT := Lib.hid hit
      clear hd hwd hit hW
      have HZ := Lib.hid hsz2
      clear hsz2
      have HK : Hid (∀ W2 : World, Below W.heap.size W W2 → W2.heap[w1.heap.size]? = some (.stringIter s (pos + wd)) ∧ Below w.heap.size w W2) := Lib.hid fun W2 hb =>
        ⟨(hb.block _ (by rw [HZ.out]; exact hsz)).trans hit2, hbw2.call hb⟩
      have HM : Hid (∀ W2 : World, W2.heap[w1.heap.size]? = some (.stringIter s (pos + wd)) → W2.iterPos w1.heap.size = pos + wd) := Lib.hid fun W2 hb => by simp [World.iterPos, hb]
      have HI2 := Lib.hid hit2
      clear hit2
      have HP1 : Hid (decide (pos + wd = 0) = false) := Lib.hid (by simp; omega)
      by_cases h0 : pos = 0
      · have HX := Lib.hid (HF.out h0)
        have hd0' : decide (pos = 0) = true := by simp [h0]
        rw [hd0']
        cases b
        · go_wp2_with fail
          go_roundw
          case rel => exact ⟨pos + wd, false, hin, rfl, by rw [HP1.out], HI2.out, hbw2, HST.out _ HX.out⟩
          case measure => rw [HM.out _ HI2.out]; simp only [World.iterPos, HIT.out]; omega
        · go_wp2_with (go_at_call 15; refine (start_any d _).mono ?_; rintro e w2 ⟨rfl, hw2⟩)
          go_roundw
          case rel => exact ⟨pos + wd, startB d, hin, rfl, by rw [HP1.out], (HK.out _ hw2).1, (HK.out _ hw2).2, HST.out _ HX.out⟩
          case measure => rw [HM.out _ (HK.out _ hw2).1]; simp only [World.iterPos, HIT.out]; omega
      · have HX := Lib.hid (HG.out h0)
        have hd0' : decide (pos = 0) = false := by simp [h0]
        rw [hd0']
        cases b
        · go_wp2_with fail
          go_roundw
          case rel => exact ⟨pos + wd, false, hin, rfl, by rw [HP1.out], HI2.out, hbw2, HST.out _ HX.out⟩
          case measure => rw [HM.out _ HI2.out]; simp only [World.iterPos, HIT.out]; omega
        · go_wp2_with (go_at_call 17; refine (part_any d _).mono ?_; rintro e w2 ⟨rfl, hw2⟩)
          go_roundw
          case rel => exact ⟨pos + wd, partB d, hin, rfl, by rw [HP1.out], (HK.out _ hw2).1, (HK.out _ hw2).2, HST.out _ HX.out⟩
          case measure => rw [HM.out _ (HK.out _ hw2).1]; simp only [World.iterPos, HIT.out]; omega
    · have HB := Lib.hid (rel_done hp HR.out)
      have hnx : ∀ ty, (Instr.next (.pointer (some ⟨w1.heap.size, 0, none⟩)) true ty).run Tryd.prog wr = _ := fun ty => Lib.run_next_end_at wr w1.heap.size s pos ty hit hp
      have HTR := HT.out.below hbw
      have HTR' := Lib.hid HTR
      clear HTR hit
      cases hn : nameB s
      · -- no name: nothing reserved
        have h1 : resB s true = false := by
          cases h : resB s true
          · rfl
          · rw [reserved_name h] at hn; cases hn
        have HR1 := Lib.hid h1
        have HR0 := Lib.hid (reserved_more h1)
        have HN := Lib.hid hn
        obtain rfl : b = false := by rw [HB.out, hn]
        clear h1 hn
        go_wp2_with fail
        refine (reserved_is s true wr HR1.out).mono ?_
        rintro e w2 ⟨rfl, rfl⟩
        go_wp2_with fail
        refine (reserved_is s false wr HR0.out).mono ?_
        rintro e w2 ⟨rfl, rfl⟩
        go_wp2_with fail
        refine (valid_any s wr (by omega) HTR'.out).mono ?_
        rintro e w2 ⟨rfl, hw2⟩
        generalize validPos s = x1
        generalize validCode s = x2
        cases hx2 : (x2 != 0)
        · go_wp2_with fail
          refine (num_any x2 w2).mono ?_
          rintro e w3 ⟨rfl, rfl⟩
          go_wp2_with fail
          refine (name_is s w2 (by omega) HN.out).mono ?_
          rintro e w3 ⟨rfl, hw3⟩
          go_wp2_with fail
          go_ret
          exact ⟨rfl, (hbw.call hw2).call hw3⟩
        · go_wp2_with fail
          refine (num_any x2 w2).mono ?_
          rintro e w3 ⟨rfl, rfl⟩
          go_wp2_with fail
          refine (name_is s w2 (by omega) HN.out).mono ?_
          rintro e w3 ⟨rfl, hw3⟩
          go_wp2_with fail
          go_ret
          exact ⟨rfl, (hbw.call hw2).call hw3⟩
      · -- a name: valid
        have hv : badRest s 0 = Option.none := by
          cases h : badRest s 0 with
          | none => rfl
          | some p => rw [bad_nameB h] at hn; cases hn
        have HV := Lib.hid (valid_none hv)
        have HN := Lib.hid hn
        obtain rfl : b = true := by rw [HB.out, hn]
        clear hv hn
        cases h1 : resB s true
        · have HR1 := Lib.hid h1
          have HR0 := Lib.hid (reserved_more h1)
          clear h1
          go_wp2_with fail
          refine (reserved_is s true wr HR1.out).mono ?_
          rintro e w2 ⟨rfl, rfl⟩
          go_wp2_with fail
          refine (reserved_is s false wr HR0.out).mono ?_
          rintro e w2 ⟨rfl, rfl⟩
          go_wp2_with fail
          refine (valid_is s wr (by omega) HTR'.out HV.out).mono ?_
          rintro e w2 ⟨rfl, hw2⟩
          go_wp2_with fail
          refine (num_any 0 w2).mono ?_
          rintro e w3 ⟨rfl, rfl⟩
          go_wp2_with fail
          refine (name_is s w2 (by omega) HN.out).mono ?_
          rintro e w3 ⟨rfl, hw3⟩
          go_wp2_with fail
          go_ret
          exact ⟨rfl, (hbw.call hw2).call hw3⟩
        · have HR1 := Lib.hid h1
          clear h1
          cases h0 : resB s false
          all_goals
            have HR0 := Lib.hid h0
            clear h0
            go_wp2_with fail
            refine (reserved_is s true wr HR1.out).mono ?_
            rintro e w2 ⟨rfl, rfl⟩
            go_wp2_with fail
            refine (name_is s wr (by omega) HN.out).mono ?_
            rintro e w2 ⟨rfl, hw2⟩
            go_wp2_with fail
            refine (reserved_is s false w2 HR0.out).mono ?_
            rintro e w3 ⟨rfl, rfl⟩
            go_wp2_with fail
            first
              | (refine (reserved_is s true w2 HR1.out).mono ?_; rintro e w3 ⟨rfl, rfl⟩; go_wp2_with fail; refine (valid_is s w2 (by omega) (HTR'.out.below hw2) HV.out).mono ?_)
              | refine (valid_is s w2 (by omega) (HTR'.out.below hw2) HV.out).mono ?_
            rintro e w4 ⟨rfl, hw4⟩
            go_wp2_with fail
            refine (num_any 0 w4).mono ?_
            rintro e w3 ⟨rfl, rfl⟩
            go_wp2_with fail
            refine (name_is s w4 (by omega) HN.out).mono ?_
            rintro e w5 ⟨rfl, hw5⟩
            go_wp2_with fail
            go_ret
            exact ⟨rfl, ((hbw.call hw2).call hw4).call hw5⟩

/-- What the walk gives, for every argument. -/
theorem wordNames_contract (H : Type) (enc : TypeId × Value → H) (W : World) (base : Nat) (args : Array Value) (ds gs : List (DataW H)) (before : List MemPlace)
    (hval : ∀ (j : Nat) t v, Tryd.f10.params[j]? = some t → args[j]? = some v → Value.okWide Tryd.prog W .any base t v)
    (hW : DataW.Whole enc Tryd.prog Tryd.f10.params.toList Rows.wordNamesSpec.vars false W args.toList ds gs before)
    (hsz : (DataW.weightsEach Tryd.prog (Tryd.f10.params.toList ++ Rows.wordNamesSpec.plain.varTypes Tryd.prog) (ds ++ gs)).all (· ≤ reachBytes) = true) (hT : Tabs W) :
    Calls Tryd.prog 10 args W fun e W' => ∃ v, e = .returned v ∧ Rows.wordNamesSpec.post enc Tryd.prog Tryd.f10 false true false false W args v W' := by
  have hW' := hW
  obtain ⟨p, q, hA0, hV, rfl, hfz, hnd⟩ := hW
  have hA : DataW.TrodAll enc Tryd.prog W 0 (fun _ => true) true Tryd.f10.params.toList args.toList ds p := hA0
  rw [Tryd.params10] at hA hval hsz
  obtain ⟨v0, vs0, d0, ds0, p0, q0, hargs, rfl, rfl, h0, r0⟩ := trodAll_cons hA
  obtain ⟨rfl, rfl, rfl⟩ := trodAll_nil r0
  obtain rfl : args = #[v0] := by cases args; simp_all
  obtain ⟨rfl, rfl⟩ := trodVars_none hV
  obtain ⟨a0, rfl, rfl, rfl, s0⟩ := open_string Tryd.underlying9 (hval 0 9 v0 rfl rfl) h0
  clear hA0 hval
  have z0 : a0.size ≤ 140737488351232 := by
    have := sized_string hsz (j := 0) (t := 9) rfl rfl
    simpa [reachBytes] using this
  refine (wordNames_call a0 W (by omega) hT).mono fun e W' ⟨he, hb⟩ => ?_
  subst he
  exact ⟨_, rfl, law_post (pa := []) (pv := []) Tryd.underlying4 (by kernel_rfl) hW' rfl (fun sp _ => (trodAll_cons_mk (shut_string Tryd.underlying9 s0) trodAll_mk0)) (fun _ _ => rfl) hb⟩

theorem wordNames_reads (os : Os) {H : Type} (enc : TypeId × Value → H) : ∃ places, DataW.whole enc Tryd.prog ((laidWorld os).forCall (fun _ _ => 0) ⟨#[], #[.string ⟨#[]⟩], []⟩).memory Tryd.f10.params.toList Rows.wordNamesSpec.vars false (#[.string ⟨#[]⟩] : Array Value).toList 8 = some ([.lit (.string [])], [], places) :=
  ⟨[], by kernel_rfl⟩
theorem wordNames_lifted (os : Os) (started : os.Started) (H : Type) (enc : TypeId × Value → H) (F : Stop.Interp) :
    ReturnsInHanded {} Tryd.checked os 10 .any ((OpenSpec.ofChange Rows.wordNamesSpec).preRow enc Tryd.prog Tryd.f10 Rows.wordNamesRow.domain false Rows.wordNamesRow.laid) (((OpenSpec.ofChange Rows.wordNamesSpec).at F).post enc Tryd.prog Tryd.f10 false true false false) := by
  obtain ⟨places, hx⟩ := wordNames_reads os enc
  refine returnsInHanded_of_row (C := Tryd.checked) (s := (OpenSpec.ofChange Rows.wordNamesSpec)) ownKnob_none started (by kernel_rfl) Tryd.func10
    (witness_row_at (enc := enc) (C := Tryd.checked) false (laidWorld os) #[.string ⟨#[]⟩] rfl (by kernel_rfl) (by kernel_rfl) (by kernel_rfl)
      (OpenSpec.preRow_of_cond 8 hx (by kernel_rfl) (fun k hk => by cases hk) (by kernel_rfl) (laid_met os _))) ?_
  intro W base args ds gs before hval hW _ _ hsz hL _ _
  exact wordNames_contract H enc W base args ds gs before hval hW hsz (tabs_of_laid hL)
theorem wordNames_said : Rows.WordNamesSaid :=
  OpenClaim.holds_of_cond 10 Tryd.f10 rfl rfl rfl rfl rfl rfl rfl ⟨rfl, rfl, rfl, rfl, rfl⟩ rfl rfl rfl rfl rfl (by kernel_rfl) Tryd.func10 (by kernel_rfl)
    (of_decide_eq_true (by kernel_rfl)) (by unfold Func.isWrapper; first | (rw [if_pos (by decide +kernel)]; kernel_rfl) | (rw [if_neg (by decide +kernel)]; exact ⟨rfl, rfl⟩))
    (fun os started H enc _ F => by rw [OpenClaim.pre_eq_preRow]; exact wordNames_lifted os started H enc F)
theorem wordNames_plain (f : FuncId) (fn : Func) (hf : Tryd.pinned.checked.prog.funcNamed Rows.wordNamesRow.func = some f) (hfn : Tryd.pinned.checked.prog.funcs[f]? = some fn) :
    false = Tryd.pinned.checked.prog.looks [] ∧ ∀ (j : Nat) t, fn.params[j]? = some t → Tryd.pinned.checked.prog.wantsStandIn t = false := by
  obtain rfl : f = 10 := Option.some.inj ((show Tryd.prog.funcNamed Rows.wordNamesRow.func = some 10 by kernel_rfl).symm.trans hf) |>.symm
  obtain rfl : fn = Tryd.f10 := (Option.some.inj (Tryd.func10.symm.trans hfn)).symm
  refine ⟨by kernel_rfl, fun j t ht => ?_⟩
  rw [Tryd.params10] at ht
  have hm := Array.mem_of_getElem? ht
  have hall : ∀ t ∈ (#[9] : Array TypeId), Tryd.prog.wantsStandIn t = false := by
    intro t ht
    simp only [List.mem_toArray, List.mem_cons, List.mem_nil_iff, or_false] at ht
    rcases ht with rfl
    all_goals kernel_rfl
  exact hall t hm

/-- THE CARD. -/
theorem wordNames_card : Rows.WordNamesCardSaid :=
  Claim7.holds_tied_plain_at .later [] _ _ _ _ wordNames_said (fun _ h => by cases h) (by kernel_rfl) (fun _ h => by cases h) wordNames_row_tie rfl ⟨rfl, rfl⟩ (by kernel_rfl) rfl wordNames_plain (by kernel_rfl)
#print axioms wordNames_card
end Go.Proofs.YtidekaeccillhaaDoor
