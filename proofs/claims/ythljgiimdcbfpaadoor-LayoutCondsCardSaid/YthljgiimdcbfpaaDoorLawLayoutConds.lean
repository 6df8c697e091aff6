/- The law LayoutConds (platenlaw17) holds of the program. Conditions: the library's tables unicode/utf8.first and acceptRanges read as their initialisers lay them. -/
import Derived.Test.YthljgiimdcbfpaaDoorMLaw
import Derived.Test.YthljgiimdcbfpaaDoorLPSteps
namespace Go.Proofs.YthljgiimdcbfpaaDoor
open Go.RowKit Go.WideShapes Go.ChangeShapes Go.ChangeAt
set_option maxRecDepth 100000
set_option linter.unusedVariables false
set_option linter.unusedSimpArgs false

/-- Of these sizes the first that fits, else the last. -/
def pickW (w : Nat) : List Nat → Nat
  | [] => 0
  | [k] => k
  | k :: l :: ks => if k ≤ w then k else pickW w (l :: ks)
def condD (ks : List Nat) : Doc := eDoc 8 (ks.map wordD)
def widthOv (w : Nat) : OptV := ⟨⟨(w : Int), 2, false, false⟩, false, false, false, false, false⟩
theorem fits_word (w : Nat) (m : Mach) (fl al : Bool) (k : Nat) (hs : m.stk = []) (hc : m.col = 0) : fitsM (widthOv w).o m fl al [wordD k] = decide (k ≤ w) := by
  have hw : (widthOv w).o.width = (w : Int) := rfl
  unfold wordD
  rw [fits_text (widthOv w).o m fl al (wordL k) (.inr hs) (by rw [hc, hw]; omega), hc, hw, word_width]
  congr 1
  simp
theorem pickW_cons (w k l : Nat) (ks : List Nat) : pickW w (k :: l :: ks) = if k ≤ w then k else pickW w (l :: ks) := rfl
theorem pick_is (w : Nat) (m : Mach) (hs : m.stk = []) (hc : m.col = 0) : ∀ (ks : List Nat), ks ≠ [] → pickD (widthOv w).o m (ks.map wordD) = some (wordD (pickW w ks))
  | [], h => absurd rfl h
  | [k], _ => rfl
  | k :: l :: ks, _ => by
    have ih := pick_is w m hs hc (l :: ks) (by simp)
    show (if fitsM (widthOv w).o m false false [wordD k] = true then some (wordD k) else pickD (widthOv w).o m ((l :: ks).map wordD)) = _
    rw [fits_word w m false false k hs hc, ih, pickW_cons]
    by_cases h : k ≤ w
    · rw [if_pos (by simpa using h), if_pos h]
    · rw [if_neg (by simpa using h), if_neg h]
theorem cond_picks (w : Nat) (m : Mach) (hs : m.stk = []) (hc : m.col = 0) (ks : List Nat) (h : ks ≠ []) : ∃ fl, condM (widthOv w).o m [] false (ks.map wordD) = pushM m [] fl [wordD (pickW w ks)] := by
  cases ks with
  | nil => exact absurd rfl h
  | cons k l =>
    rw [List.map_cons, condM_cons, if_neg (by simp)]
    rw [fits_word w m true false k hs hc]
    by_cases hk : k ≤ w
    · refine ⟨true, ?_⟩
      have hf : (wordD k).flat.isSome = true := rfl
      rw [hf, if_pos (by simpa using hk)]
      have : pickW w (k :: l) = k := by
        cases l with
        | nil => rfl
        | cons a b => rw [pickW_cons, if_pos hk]
      rw [this]
    · refine ⟨false, ?_⟩
      rw [if_neg (by simp [hk])]
      cases l with
      | nil => rfl
      | cons a b =>
        have e : pickW w (k :: a :: b) = pickW w (a :: b) := by rw [pickW_cons, if_neg hk]
        rw [e, if_neg (by simp), pick_is w m hs hc (a :: b) (by simp)]
        rfl
theorem pickW_lt (w : Nat) : ∀ (ks : List Nat), (∀ k ∈ ks, k < 40) → pickW w ks < 40
  | [], _ => Nat.zero_lt_succ _
  | [k], h => h k (by simp)
  | k :: l :: ks, h => by
    rw [pickW_cons]
    split
    · exact h k (by simp)
    · exact pickW_lt w (l :: ks) (fun x hx => h x (List.mem_cons_of_mem _ hx))
theorem cond_shape (ks : List Nat) (h0 : ks ≠ []) (h : ∀ k ∈ ks, k < 40) : (condD ks).shape = true := by
  rw [Doc.shape_eq, Bool.and_eq_true]
  refine ⟨?_, shapeL_of (fun x hx => ?_)⟩
  · have hl : 1 ≤ (ks.map wordD).length := by
      rw [List.length_map]
      exact List.length_pos_iff.2 h0
    show formedF 8 ⟨#[]⟩ (ks.map wordD).length false 0 0 = true
    have hd : decide (1 ≤ (ks.map wordD).length) = true := by simpa using hl
    unfold formedF
    rw [hd]
    rfl
  · obtain ⟨k, hk, rfl⟩ := List.mem_map.1 hx
    exact (word_shape (h k hk)).1
theorem cond_bulk (ks : List Nat) (h : ∀ k ∈ ks, k < 40) : (condD ks).bulk ≤ 50 * ks.length + 1 := by
  rw [Doc.bulk_eq]
  show bulkL (ks.map wordD) + 0 + 1 ≤ _
  have := bulkL_of (ks := ks.map wordD) (n := 50) (fun x hx => by obtain ⟨k, hk, rfl⟩ := List.mem_map.1 hx; exact (word_shape (h k hk)).2)
  rw [List.length_map] at this
  omega
theorem cond_lay (w : Nat) (hw : 1 ≤ w ∧ w ≤ 10000) (ks : List Nat) (h0 : ks ≠ []) (h : ∀ k ∈ ks, k < 40) : laidB (condD ks) (widthOv w).o (wordL (pickW w ks)) = true := by
  refine laid_of (Steps.lay (m := ⟨wordL (pickW w ks), ((pickW w ks : Nat) : Int), [], [], fun _ => false⟩) ?_ ?_ ?_ rfl rfl)
  · unfold optOk widthOv
    simp
    omega
  · refine word_code (cond_shape ks h0 h) ?_
    rw [Doc.depth_eq]
    have := depthL_of (ks := (condD ks).kids) (n := 1) (fun x hx => by obtain ⟨k, hk, rfl⟩ := List.mem_map.1 hx; exact Nat.le_refl _)
    omega
  · obtain ⟨fl, hp⟩ := cond_picks w ⟨[], 0, [], [], fun _ => false⟩ rfl rfl ks h0
    refine .step (c := ⟨[], false, condD ks⟩) (cs := []) (m1 := ⟨[], 0, [⟨[], fl, wordD (pickW w ks)⟩], [], fun _ => false⟩) rfl ?_ ?_
    · rw [doM_eq]
      show (some (if false = true then _ else condM (widthOv w).o ⟨[], 0, [], [], fun _ => false⟩ [] false (ks.map wordD))) = _
      rw [if_neg (by simp), hp]
      rfl
    · refine .one (c := ⟨[], fl, wordD (pickW w ks)⟩) (cs := []) rfl ?_
      have hl := pickW_lt w ks h
      unfold wordD
      rw [doM_text _ _ _ _ _ (by simp [wordL]; omega), word_width]
      simp
/-- The word wanted where j sizes have come. -/
def wantJ (w : Nat) (ks : List Nat) (j : Nat) : Ln := if (ks.take j).any (· ≤ w) || j == ks.length then wordL (pickW w (ks.take j)) else []
theorem pick_none (w : Nat) : ∀ (ks : List Nat) (k : Nat), ks.any (· ≤ w) = false → pickW w (ks ++ [k]) = k
  | [], k, _ => rfl
  | [a], k, h => by
    simp at h
    show (if a ≤ w then a else pickW w [k]) = k
    rw [if_neg (by omega)]
    rfl
  | a :: b :: l, k, h => by
    have ha : ¬ a ≤ w := by simp at h; omega
    have h2 : (b :: l).any (· ≤ w) = false := by simp at h ⊢; exact h.2
    have := pick_none w (b :: l) k h2
    show (if a ≤ w then a else pickW w (b :: (l ++ [k]))) = k
    rw [if_neg ha]
    exact this
theorem pick_some (w : Nat) : ∀ (ks : List Nat) (k : Nat), ks.any (· ≤ w) = true → pickW w (ks ++ [k]) = pickW w ks
  | [], k, h => by simp at h
  | [a], k, h => by
    have ha : a ≤ w := by simpa using h
    show (if a ≤ w then a else pickW w [k]) = a
    rw [if_pos ha]
  | a :: b :: l, k, h => by
    show (if a ≤ w then a else pickW w (b :: (l ++ [k]))) = (if a ≤ w then a else pickW w (b :: l))
    by_cases ha : a ≤ w
    · rw [if_pos ha, if_pos ha]
    · rw [if_neg ha, if_neg ha]
      have h2 : (b :: l).any (· ≤ w) = true := by
        simp only [List.any_cons, Bool.or_eq_true, decide_eq_true_eq] at h ⊢
        rcases h with h | h
        · exact absurd h ha
        · exact h
      exact pick_some w (b :: l) k h2
theorem pick_pos (w : Nat) : ∀ (ks : List Nat), ks ≠ [] → (∀ k ∈ ks, 1 ≤ k) → 1 ≤ pickW w ks
  | [], h, _ => absurd rfl h
  | [k], _, h => h k (by simp)
  | k :: l :: ks, _, h => by
    rw [pickW_cons]
    split
    · exact h k (by simp)
    · exact pick_pos w (l :: ks) (by simp) (fun x hx => h x (List.mem_cons_of_mem _ hx))
theorem want_step (w : Nat) (ks : List Nat) (j : Nat) (hj : j < ks.length) (h1 : ∀ k ∈ ks, 1 ≤ k) : wantJ w ks (j + 1) = if wantJ w ks j = [] then (if ks[j] ≤ w ∨ j + 1 = ks.length then wordL ks[j] else []) else wantJ w ks j := by
  unfold wantJ
  rw [List.take_succ_eq_append_getElem hj]
  have hjn : (j == ks.length) = false := by simp; omega
  rw [hjn, Bool.or_false, List.any_append]
  cases ha : (ks.take j).any (· ≤ w) with
  | true =>
    have hne : ks.take j ≠ [] := by intro e; rw [e] at ha; simp at ha
    have hp := pick_pos w (ks.take j) hne (fun k hk => h1 k (List.mem_of_mem_take hk))
    have hw : wordL (pickW w (ks.take j)) ≠ [] := by
      unfold wordL
      intro e
      have := congrArg List.length e
      simp at this
      omega
    simp only [Bool.true_or, if_true]
    rw [if_neg hw, pick_some w _ _ ha]
  | false =>
    simp only [Bool.false_or, Bool.false_eq_true, if_false, if_true]
    rw [pick_none w _ _ ha]
    by_cases h : ks[j] ≤ w ∨ j + 1 = ks.length
    · rw [if_pos h, if_pos]
      rcases h with h | h
      · simp [h]
      · simp [h]
    · rw [if_neg h, if_neg]
      intro hc
      apply h
      simp at hc
      omega
theorem want_end (w : Nat) (ks : List Nat) : wantJ w ks ks.length = wordL (pickW w ks) := by
  unfold wantJ
  rw [List.take_length]
  simp
def condKs (zs : List Int) : List Nat := (zs.take 8).map fun z => 1 + (IntKind.u64.wrap z).toNat % 30
theorem cond_laid (w : Nat) (hw : 1 ≤ w ∧ w ≤ 10000) (ks : List Nat) (h0 : ks ≠ []) (h : ∀ k ∈ ks, k < 40) (hl : ks.length ≤ 8) (kv : Value) (S : ByteArray) (hS : S = strOf (wordL (pickW w ks))) (W : World) (hi : InW W (condD ks) kv) (hT : Tabs W) :
    Calls Tryd.prog 25 #[docV (condD ks) kv, .agg (widthOv w).cells.toArray, .string S] W fun e w' => e = .returned (.bool true) ∧ Below W.heap.size W w' := by
  have h2 := laid_any (condD ks) kv (widthOv w) (wordL (pickW w ks)) W hi (by have := cond_bulk ks h; omega) hT
  rw [cond_lay w hw ks h0 h, ← hS] at h2
  exact h2
theorem mk_ks (zs : List Int) : (condKs zs).length = min 8 zs.length ∧ (∀ k ∈ condKs zs, 1 ≤ k ∧ k < 40) ∧ ∀ j (hj : j < (condKs zs).length), (condKs zs)[j] = 1 + (IntKind.u64.wrap (zs.getD j 0)).toNat % 30 := by
  refine ⟨by simp [condKs], fun k hk => ?_, fun j hj => ?_⟩
  · unfold condKs at hk
    obtain ⟨z, _, rfl⟩ := List.mem_map.1 hk
    omega
  · have hj' : j < min 8 zs.length := by simpa [condKs] using hj
    have : zs.getD j 0 = zs[j]'(by omega) := by simp [List.getD, show j < zs.length by omega]
    rw [this]
    simp only [condKs, List.getElem_map, List.getElem_take]
theorem str_empty {l : Ln} : (strOf l).toList = l := by rw [ByteArray.toList_eq, strOf_list]
set_option maxHeartbeats 16000000 in
theorem layoutConds_call (v : Value) (zs : List Int) (x : Int) (w : World) (hv : IntsIn w w.heap.size v zs) (hwf : ∀ n ∈ zs, (Lit.int .i64 n).wf = true) (hm : zs.length ≤ maxLen) (hx : (Lit.int .i64 x).wf = true) (hT : Tabs w) :
    Calls Tryd.prog 8 #[v, .int .i64 x] w fun e w' => e = .returned (.bool true) ∧ Below w.heap.size w w' := by
  have hm9 : zs.length ≤ 9223372036854775807 := by unfold maxLen at hm; omega
  clear hm hx
  obtain ⟨A, c, rfl⟩ := hv.len
  have HT := Lib.hid hT
  have HV := Lib.hid hv
  obtain ⟨ux, hux⟩ := u64_natF x
  obtain ⟨r, hr, hr30⟩ : ∃ r : Nat, (ux : Int) % 30 = (r : Int) ∧ r < 30 := ⟨ux % 30, by omega, by omega⟩
  obtain ⟨ks, hks⟩ : ∃ ks, ks = condKs zs := ⟨_, rfl⟩
  obtain ⟨m1, m2, m3⟩ := mk_ks zs
  rw [← hks] at m1 m2 m3
  have M2 := Lib.hid m2
  have M3 := Lib.hid m3
  obtain ⟨n, hn⟩ : ∃ n, n = zs.length := ⟨_, rfl⟩
  have hkl : ks.length = min 8 n := by rw [hn]; exact m1
  have HN := Lib.hid hn
  rw [← hn]
  rw [← hn] at hm9
  clear hT hv hwf hks m1 m2 m3 hn
  go_enter Tryd.func8, Tryd.ntmps8
  go_wp2_with fail
  refine (awake17_any w HT.out).mono ?_
  rintro e w1 ⟨rfl, hb1⟩
  have HB := Lib.hid hb1
  clear hb1
  go_upto_region 4 with fail
  obtain ⟨wn, hwn⟩ : ∃ wn : Nat, 1 + (r : Int) = (wn : Int) := ⟨1 + r, by omega⟩
  rw [hwn]
  have HWN : Hid (1 ≤ wn ∧ wn ≤ 10000) := Lib.hid (by omega)
  clear hwn hr hux hr30
  go_wp2_with fail
  go_loopw [6, 7, 8] (fun ds s i wr => ∃ (j : Nat) (S : Ln), j ≤ ks.length ∧ i = .int .i64 (j : Int) ∧ s = .string (strOf S) ∧ RowKit.Hid (S = wantJ wn ks j) ∧ Row wr w.heap.size ((ks.take j).map fun k => (wordD k, .slice none 0 0)) ds ∧ Below w.heap.size w wr) (fun _ _ i _ => 8 - (intOf i).toNat)
  case atStart => exact ⟨0, [], Nat.zero_le _, rfl, rfl, Lib.hid (by rcases hq : ks with _ | ⟨a, l⟩ <;> rfl), RowD.nil _ _, HB.out⟩
  case round =>
    obtain ⟨j, S, hj, rfl, rfl, HS, hrow, hbw⟩ := hrel
    have HROW := Lib.hid hrow
    have HBW := Lib.hid hbw
    obtain ⟨A1, c1, hds⟩ := hrow.slice
    have hlt : ((ks.take j).map fun k => (wordD k, Value.slice none 0 0)).length = j := by rw [List.length_map, List.length_take]; omega
    rw [hlt] at hds
    subst hds
    have HLT := Lib.hid hlt
    clear hlt hrow
    by_cases hlt : j < ks.length
    · have hjn : j < n := by omega
      have hj8 : j < 8 := by omega
      rcases HV.out.below hbw (Nat.le_refl _) with ⟨A', c', e, hz⟩ | ⟨b, off, c', e, hltb, hpos, hc⟩
      · have := HN.out
        rw [hz] at this
        simp at this
        omega
      injection e with e1 e2 e3
      subst e1
      subst e3
      have c0 := hc j (by rw [← HN.out]; exact hjn)
      have hzq := M3.out j hlt
      generalize hz0e : zs.getD j 0 = z at c0 hzq
      obtain ⟨u, hu⟩ := u64_natF z
      rw [hu] at hzq
      obtain ⟨q, hq, hq30⟩ : ∃ q : Nat, (u : Int) % 30 = (q : Int) ∧ q < 30 := ⟨u % 30, by omega, by omega⟩
      have hkj : ks[j] = 1 + q := by rw [hzq]; omega
      have HKJ := Lib.hid hkj
      clear hc hz0e hbw hzq hkj e2 hpos hltb
      have hk1 : (j : Int) < (n : Int) := by omega
      have hk2 : (j : Int) < 8 := by omega
      go_upto_region 10 with fail
      obtain ⟨k, hk⟩ : ∃ k : Nat, 1 + (q : Int) = (k : Int) := ⟨1 + q, by omega⟩
      rw [hk]
      have hkk : k = 1 + q := by omega
      have HKK : Hid (ks[j] = k) := Lib.hid (by rw [HKJ.out, hkk])
      have hk30 : 1 ≤ k ∧ k ≤ 30 := by omega
      have hsl := fun W => run_slice_word ⟨#[119, 119, 119, 119, 119, 119, 119, 119, 119, 119, 119, 119, 119, 119, 119, 119, 119, 119, 119, 119, 119, 119, 119, 119, 119, 119, 119, 119, 119, 119, 119, 119, 119]⟩ k 33 rfl (by omega) W
      clear hk hkk hq hu c0 hq30
      have HNX : Hid ((ks.take (j + 1)).map (fun k => (wordD k, Value.slice none 0 0)) = (ks.take j).map (fun k => (wordD k, Value.slice none 0 0)) ++ [(wordD k, .slice none 0 0)]) := Lib.hid (by rw [List.take_succ_eq_append_getElem hlt, List.map_append, HKK.out]; rfl)
      have HWS : Hid (wantJ wn ks (j + 1) = if S = [] then (if k ≤ wn ∨ j + 1 = ks.length then wordL k else []) else S) := Lib.hid (by rw [want_step wn ks j hlt (fun x hx => (M2.out x hx).1), ← HS.out, HKK.out])
      go_upto_region 12 with (first | (go_at_call 21; refine (text17_any _ _).mono ?_; rintro e wt ⟨rfl, hbt⟩; have HBT := Lib.hid hbt; clear hbt; unfold docV; simp only [dtext, Doc.kind, Doc.text, Doc.brk, Doc.id, Doc.width]) | (at_builtin; refine wpList_append_doc (w := w) (K := wordD k) (kv := .slice none 0 0) rfl (.tmp 38) (.tmp 41) rfl HROW.out HBT.out HBW.out.size HBW.out (lo := wt.heap.size) (hi := wt.heap.size) HBT.out.size (Nat.le_refl _) (kg_nil rfl) rfl rfl (by rw [HLT.out]; omega) rfl ?_; intro gg cap W' hrow' hbw'; rw [HLT.out, ← HNX.out] at hrow'; rw [HLT.out]; have HR2 := Lib.hid hrow'; have HB2 := Lib.hid hbw'; clear hrow' hbw'))
      have HE := Lib.hid (show (strOf S).toList.isEmpty = S.isEmpty from by rw [str_empty])
      have hje : ks.length = j + 1 ↔ ((j : Int) = (n : Int) - 1 ∨ (j : Int) = 7) := by omega
      clear hsl
      by_cases hS0 : S = []
      · have hse : (strOf S).toList.isEmpty = true := by rw [HE.out, hS0]; rfl
        have HS0 := Lib.hid hS0
        clear hS0
        by_cases hkw : (k : Int) ≤ (wn : Int)
        · have HW : Hid (wantJ wn ks (j + 1) = wordL k) := Lib.hid (by rw [HWS.out, if_pos HS0.out, if_pos (.inl (by omega))])
          clear hje
          go_wp2_with fail
          go_roundw
          case rel => exact ⟨j + 1, wordL k, by omega, by go_num, rfl, Lib.hid HW.out.symm, HR2.out, HB2.out⟩
          case measure => simp only [intOf]; omega
        · by_cases hq1 : (j : Int) = (n : Int) - 1
          · have HW : Hid (wantJ wn ks (j + 1) = wordL k) := Lib.hid (by rw [HWS.out, if_pos HS0.out, if_pos (.inr (by omega))])
            have hq1b : ((j : Int) == (n : Int) - 1) = true := by simpa using hq1
            have hq1d : decide ((j : Int) = (n : Int) - 1) = true := by simpa using hq1
            clear hje
            go_wp2_with fail
            go_roundw
            case rel => exact ⟨j + 1, wordL k, by omega, by go_num, rfl, Lib.hid HW.out.symm, HR2.out, HB2.out⟩
            case measure => simp only [intOf]; omega
          · have hq1b : ((j : Int) == (n : Int) - 1) = false := by simpa using hq1
            have hq1d : decide ((j : Int) = (n : Int) - 1) = false := by simpa using hq1
            by_cases hq2 : (j : Int) = 7
            · have HW : Hid (wantJ wn ks (j + 1) = wordL k) := Lib.hid (by rw [HWS.out, if_pos HS0.out, if_pos (.inr (by omega))])
              have hq2b : ((j : Int) == 7) = true := by simpa using hq2
              have hq2d : decide ((j : Int) = 7) = true := by simpa using hq2
              clear hje
              go_wp2_with fail
              go_roundw
              case rel => exact ⟨j + 1, wordL k, by omega, by go_num, rfl, Lib.hid HW.out.symm, HR2.out, HB2.out⟩
              case measure => simp only [intOf]; omega
            · have HW : Hid (wantJ wn ks (j + 1) = S) := Lib.hid (by rw [HWS.out, if_pos HS0.out, if_neg (by omega), HS0.out])
              have hq2b : ((j : Int) == 7) = false := by simpa using hq2
              have hq2d : decide ((j : Int) = 7) = false := by simpa using hq2
              clear hje
              go_wp2_with fail
              go_roundw
              case rel => exact ⟨j + 1, S, by omega, by go_num, rfl, Lib.hid HW.out.symm, HR2.out, HB2.out⟩
              case measure => simp only [intOf]; omega
      · have hse : (strOf S).toList.isEmpty = false := by
          rw [HE.out]
          cases S with
          | nil => exact absurd rfl hS0
          | cons a l => rfl
        have HW : Hid (wantJ wn ks (j + 1) = S) := Lib.hid (by rw [HWS.out, if_neg hS0])
        clear hS0 hje
        go_wp2_with fail
        go_roundw
        case rel => exact ⟨j + 1, S, by omega, by go_num, rfl, Lib.hid HW.out.symm, HR2.out, HB2.out⟩
        case measure => simp only [intOf]; omega
    · have hjk : j = ks.length := by omega
      have HIN : Hid (InW wr (condD ks) (.slice A1 j c1)) := Lib.hid (HROW.out.inW (by rw [hjk, List.take_length, List.map_map]; rfl))
      have HSS : Hid (strOf S = strOf (wordL (pickW wn ks))) := Lib.hid (by rw [HS.out, hjk, want_end])
      have hex : ¬ (j : Int) < (n : Int) ∨ ((j : Int) < (n : Int) ∧ ¬ (j : Int) < 8) := by omega
      have HL8 : Hid (ks.length ≤ 8) := Lib.hid (by omega)
      generalize strOf S = SS at *
      clear HLT
      by_cases hk0 : ks = []
      · have hkz : (j : Int) = 0 := by rw [hjk, hk0]; rfl
        have hj0 : j = 0 := by omega
        clear hkl hjk hlt hj hk0
        subst hj0
        rcases hex with h1 | ⟨h1, h2⟩
        · go_wp2_with fail
          go_ret
          exact ⟨rfl, HBW.out⟩
        · exact absurd (by decide : ((0 : Nat) : Int) < 8) h2
      · have hkz : ¬ (j : Int) = 0 := by have := List.length_pos_iff.2 hk0; omega
        have hkb : ((j : Int) == 0) = false := by simpa using hkz
        have HLD := Lib.hid (cond_laid wn HWN.out ks hk0 (fun k hk => (M2.out k hk).2) HL8.out (.slice A1 j c1) SS HSS.out wr HIN.out (HT.out.below HBW.out))
        clear hkl hjk hlt hj hk0
        rcases hex with h1 | ⟨h1, h2⟩
        all_goals
          go_wp2_with fail
          refine HLD.out.mono ?_
          rintro e w9 ⟨rfl, hb9⟩
          have HB9 := Lib.hid (HBW.out.call hb9)
          clear hb9
          go_wp2_with fail
          go_ret
          exact ⟨rfl, HB9.out⟩

/-- What the walk gives, for every argument. -/
theorem layoutConds_contract (H : Type) (enc : TypeId × Value → H) (W : World) (base : Nat) (args : Array Value) (ds gs : List (DataW H)) (before : List MemPlace)
    (hval : ∀ (j : Nat) t v, Tryd.f8.params[j]? = some t → args[j]? = some v → Value.okWide Tryd.prog W .any base t v)
    (hW : DataW.Whole enc Tryd.prog Tryd.f8.params.toList Rows.layoutCondsSpec.vars false W args.toList ds gs before)
    (hsz : (DataW.weightsEach Tryd.prog (Tryd.f8.params.toList ++ Rows.layoutCondsSpec.plain.varTypes Tryd.prog) (ds ++ gs)).all (· ≤ reachBytes) = true) (hT : Tabs W) :
    Calls Tryd.prog 8 args W fun e W' => ∃ v, e = .returned v ∧ Rows.layoutCondsSpec.post enc Tryd.prog Tryd.f8 false true false false W args v W' := by
  have hW' := hW
  obtain ⟨p, q, hA0, hV, rfl, hfz, hnd⟩ := hW
  have hA : DataW.TrodAll enc Tryd.prog W 0 (fun _ => true) true Tryd.f8.params.toList args.toList ds p := hA0
  rw [Tryd.params8] at hA hval hsz
  obtain ⟨v0, vs0, d0, ds0, p0, q0, hargs, rfl, rfl, h0, r0⟩ := trodAll_cons hA
  obtain ⟨v1, vs1, d1, ds1, p1, q1, rfl, rfl, rfl, h1, r1⟩ := trodAll_cons r0
  obtain ⟨rfl, rfl, rfl⟩ := trodAll_nil r1
  obtain rfl : args = #[v0, v1] := by cases args; simp_all
  obtain ⟨rfl, rfl⟩ := trodVars_none hV
  have hlt := fun x hx => hW'.lt x hx
  obtain ⟨z0, i0, w0, m0⟩ := ints_open Tryd.underlying37 Tryd.underlying3 (by kernel_rfl) (hval 0 37 v0 rfl rfl) h0
  obtain ⟨a1, rfl, rfl, rfl, w1⟩ := open_int Tryd.underlying3 (hval 1 3 v1 rfl rfl) h1
  clear hA0 hval
  refine (layoutConds_call v0 z0 a1 W i0 w0 m0 w1 hT).mono fun e W' ⟨he, hb⟩ => ?_
  subst he
  exact ⟨_, rfl, law_post_any (pv := []) Tryd.underlying4 (by kernel_rfl) hW' rfl (trodAll_cons_mk (Below.trod laidOut (by kernel_rfl) (of_decide_eq_true (by kernel_rfl)) h0 hb (fun x hx => hlt x (by simp [hx]))) (trodAll_cons_mk (shut_int Tryd.underlying3 w1) trodAll_mk0)) rfl hb⟩

theorem layoutConds_reads (os : Os) {H : Type} (enc : TypeId × Value → H) : ∃ places, DataW.whole enc Tryd.prog ((laidWorld os).forCall (fun _ _ => 0) ⟨#[], #[.slice none 0 0, .int .i64 0], []⟩).memory Tryd.f8.params.toList Rows.layoutCondsSpec.vars false (#[.slice none 0 0, .int .i64 0] : Array Value).toList 8 = some ([.nil, .lit (.int .i64 0)], [], places) :=
  ⟨[], by kernel_rfl⟩
theorem layoutConds_lifted (os : Os) (started : os.Started) (H : Type) (enc : TypeId × Value → H) (F : Stop.Interp) :
    ReturnsInHanded {} Tryd.checked os 8 .any ((OpenSpec.ofChange Rows.layoutCondsSpec).preRow enc Tryd.prog Tryd.f8 Rows.layoutCondsRow.domain false Rows.layoutCondsRow.laid) (((OpenSpec.ofChange Rows.layoutCondsSpec).at F).post enc Tryd.prog Tryd.f8 false true false false) := by
  obtain ⟨places, hx⟩ := layoutConds_reads os enc
  refine returnsInHanded_of_row (C := Tryd.checked) (s := (OpenSpec.ofChange Rows.layoutCondsSpec)) ownKnob_none started (by kernel_rfl) Tryd.func8
    (witness_row_at (enc := enc) (C := Tryd.checked) false (laidWorld os) #[.slice none 0 0, .int .i64 0] rfl (by kernel_rfl) (by kernel_rfl) (by kernel_rfl)
      (OpenSpec.preRow_of_cond 8 hx (by kernel_rfl) (fun k hk => by cases hk) (by kernel_rfl) (laid_met os _))) ?_
  intro W base args ds gs before hval hW _ _ hsz hL _ _
  exact layoutConds_contract H enc W base args ds gs before hval hW hsz (tabs_of_laid hL)
theorem layoutConds_said : Rows.LayoutCondsSaid :=
  OpenClaim.holds_of_cond 8 Tryd.f8 rfl rfl rfl rfl rfl rfl rfl ⟨rfl, rfl, rfl, rfl, rfl⟩ rfl rfl rfl rfl rfl (by kernel_rfl) Tryd.func8 (by kernel_rfl)
    (of_decide_eq_true (by kernel_rfl)) (by unfold Func.isWrapper; first | (rw [if_pos (by decide +kernel)]; kernel_rfl) | (rw [if_neg (by decide +kernel)]; exact ⟨rfl, rfl⟩))
    (fun os started H enc _ F => by rw [OpenClaim.pre_eq_preRow]; exact layoutConds_lifted os started H enc F)
theorem layoutConds_plain (f : FuncId) (fn : Func) (hf : Tryd.pinned.checked.prog.funcNamed Rows.layoutCondsRow.func = some f) (hfn : Tryd.pinned.checked.prog.funcs[f]? = some fn) :
    true = Tryd.pinned.checked.prog.looks [] ∧ ∀ (j : Nat) t, fn.params[j]? = some t → Tryd.pinned.checked.prog.wantsStandIn t = false := by
  obtain rfl : f = 8 := Option.some.inj ((show Tryd.prog.funcNamed Rows.layoutCondsRow.func = some 8 by kernel_rfl).symm.trans hf) |>.symm
  obtain rfl : fn = Tryd.f8 := (Option.some.inj (Tryd.func8.symm.trans hfn)).symm
  refine ⟨by kernel_rfl, fun j t ht => ?_⟩
  rw [Tryd.params8] at ht
  have hm := Array.mem_of_getElem? ht
  have hall : ∀ t ∈ (#[37, 3] : Array TypeId), Tryd.prog.wantsStandIn t = false := by
    intro t ht
    simp only [List.mem_toArray, List.mem_cons, List.mem_nil_iff, or_false] at ht
    rcases ht with rfl | rfl
    all_goals kernel_rfl
  exact hall t hm

/-- THE CARD. -/
theorem layoutConds_card : Rows.LayoutCondsCardSaid :=
  Claim7.holds_tied_plain_at .later [] _ _ _ _ layoutConds_said (fun _ h => by cases h) (by kernel_rfl) (fun _ h => by cases h) layoutConds_row_tie rfl ⟨rfl, rfl⟩ (by kernel_rfl) rfl layoutConds_plain (by kernel_rfl)
#print axioms layoutConds_card
end Go.Proofs.YthljgiimdcbfpaaDoor
