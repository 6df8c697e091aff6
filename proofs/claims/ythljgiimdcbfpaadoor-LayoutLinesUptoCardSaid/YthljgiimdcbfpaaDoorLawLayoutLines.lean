/- The law LayoutLines (platenlaw17) holds of the program. Conditions: the document's bulk is at most 1048576; the library's tables unicode/utf8.first and acceptRanges read as their initialisers lay them. -/
import Derived.Test.YthljgiimdcbfpaaDoorMLaw
import Derived.Test.YthljgiimdcbfpaaDoorMShal
import Derived.Test.YthljgiimdcbfpaaDoorLPLines3
import Derived.Test.YthljgiimdcbfpaaDoorLPOpts
namespace Go.Proofs.YthljgiimdcbfpaaDoor
open Go.RowKit Go.WideShapes Go.ChangeShapes Go.ChangeAt
set_option maxRecDepth 100000
set_option linter.unusedVariables false
set_option linter.unusedSimpArgs false

theorem str_get (S : ByteArray) (i : Nat) (h : i < S.size) : S.data.toList[i]? = some (S[i]'h) := by
  rw [List.getElem?_eq_getElem (by rw [Array.length_toList]; exact h), Array.getElem_toList]
  rfl
theorem blank_no {c : UInt8} (h : blank8 c = false) : c.toNat ≠ 32 ∧ c.toNat ≠ 9 := by
  unfold blank8 at h
  rw [Bool.or_eq_false_iff, beq_eq_false_iff_ne, beq_eq_false_iff_ne] at h
  exact ⟨fun e => h.1 (UInt8.toNat_inj.1 e), fun e => h.2 (UInt8.toNat_inj.1 e)⟩
theorem alloc_cellF (w : World) (o : Obj) (a : Addr) (h : a.block < w.heap.size) : (w.alloc o).cell? a = w.cell? a := World.cell?_of_block (Below.heap_alloc w o _ h)
/-- A document and the options, boxed. -/
structure Two (w : World) (D : Doc) (kd : Value) (ov : OptV) (W : World) : Prop where
  bd : Blk W w.heap.size (docCells D kd) 24
  ob : Blk W (w.heap.size + 1) ov.cells 26
  kd : KV W 0 W.heap.size D kd
  below : Below w.heap.size w W
theorem Two.next {w W W' : World} {D : Doc} {kd : Value} {ov : OptV} (h : Two w D kd ov W) (hb : Below W.heap.size W W') : Two w D kd ov W' :=
  ⟨h.bd.below hb, h.ob.below hb, (h.kd.below hb (Nat.le_refl _)).wide (Nat.le_refl _) hb.size, h.below.trans (hb.mono h.below.size)⟩
theorem two_new {w : World} {D : Doc} {kd : Value} (ov : OptV) (hd : KV w 0 w.heap.size D kd) : Two w D kd ov ((w.alloc (.cells (docCells D kd).toArray 24)).alloc (.cells ov.cells.toArray 26)) := by
  have h1 : Below w.heap.size w ((w.alloc (.cells (docCells D kd).toArray 24)).alloc (.cells ov.cells.toArray 26)) := ((Below.refl _ w).alloc (Nat.le_refl _) _).alloc (by simp) _
  exact ⟨(Blk.new _ _ _).alloc _, Blk.new' _ _ (by simp), (hd.below h1 (Nat.le_refl _)).wide (Nat.le_refl _) h1.size, h1⟩
set_option maxHeartbeats 16000000 in
theorem layoutLines_call (D : Doc) (kd : Value) (ov : OptV) (w : World) (hkd : KV w 0 w.heap.size D kd) (hbd : D.bulk ≤ 1048576) (hT : Tabs w) :
    Calls Tryd.prog 3 #[docV D kd, .agg ov.cells.toArray] w fun e w' => e = .returned (.bool true) ∧ Below w.heap.size w w' := by
  have H0 := Lib.hid (two_new ov hkd)
  have HT := Lib.hid hT
  have HA := Lib.hid (show D.bulk ≤ 4194304 by omega)
  have HB := Lib.hid hbd
  clear hkd hbd hT
  unfold docV
  unfold OptV.cells
  go_enter Tryd.func3, Tryd.ntmps3
  go_wp2_with fail
  refine (awake17_any _ (HT.out.below H0.out.below)).mono ?_
  rintro e w1 ⟨rfl, hb1⟩
  have T1 := Lib.hid (H0.out.next hb1)
  clear hb1
  have a0 := T1.out.bd.cell 0; have a1 := T1.out.bd.cell 1; have a2 := T1.out.bd.cell 2; have a3 := T1.out.bd.cell 3; have a4 := T1.out.bd.cell 4; have a5 := T1.out.bd.cell 5; simp only [docCells, List.getElem?_cons_zero, List.getElem?_cons_succ] at a0 a1 a2 a3 a4 a5
  go_wp2_with fail
  refine (shallow_any D kd _ T1.out.kd HA.out).mono ?_
  rintro e w2 ⟨rfl, hb2⟩
  have T2 := Lib.hid (T1.out.next hb2)
  clear hb2
  clear a0 a1 a2 a3 a4 a5
  by_cases hsa : D.depth ≤ 65536
  case neg =>
    rw [decide_eq_false hsa]
    clear hsa
    go_wp2_with fail
    go_ret
    exact ⟨rfl, T2.out.below⟩
  rw [decide_eq_true hsa]
  clear hsa
  have a0 := T2.out.bd.cell 0; have a1 := T2.out.bd.cell 1; have a2 := T2.out.bd.cell 2; have a3 := T2.out.bd.cell 3; have a4 := T2.out.bd.cell 4; have a5 := T2.out.bd.cell 5; simp only [docCells, List.getElem?_cons_zero, List.getElem?_cons_succ] at a0 a1 a2 a3 a4 a5
  go_wp2_with fail
  refine (literalIn_any D kd _ T2.out.kd HA.out).mono ?_
  rintro e w3 ⟨rfl, hb3⟩
  have T3 := Lib.hid (T2.out.next hb3)
  clear hb3
  clear a0 a1 a2 a3 a4 a5
  cases hlit : D.literal
  case true =>
    clear hlit
    go_wp2_with fail
    go_ret
    exact ⟨rfl, T3.out.below⟩
  have a0 := T3.out.bd.cell 0; have a1 := T3.out.bd.cell 1; have a2 := T3.out.bd.cell 2; have a3 := T3.out.bd.cell 3; have a4 := T3.out.bd.cell 4; have a5 := T3.out.bd.cell 5; simp only [docCells, List.getElem?_cons_zero, List.getElem?_cons_succ] at a0 a1 a2 a3 a4 a5
  have o0 := T3.out.ob.cell 0; have o1 := T3.out.ob.cell 1; have o2 := T3.out.ob.cell 2; have o3 := T3.out.ob.cell 3; have o4 := T3.out.ob.cell 4; have o5 := T3.out.ob.cell 5; have o6 := T3.out.ob.cell 6; have o7 := T3.out.ob.cell 7; have o8 := T3.out.ob.cell 8; simp only [OptV.cells, List.getElem?_cons_zero, List.getElem?_cons_succ] at o0 o1 o2 o3 o4 o5 o6 o7 o8
  have HLIT := Lib.hid hlit
  clear hlit
  have HLY := Lib.hid (layout_any D kd ov w3 T3.out.kd HA.out (HT.out.below T3.out.below))
  obtain ⟨lt, hlt⟩ : ∃ z, z = (layN D ov.o).1 := ⟨_, rfl⟩
  obtain ⟨en, hen⟩ : ∃ z, z = (layN D ov.o).2 := ⟨_, rfl⟩
  rw [← hlt, ← hen] at HLY
  unfold OptV.cells at HLY
  have hll : lt.length ≤ 67108864 := by rw [hlt]; exact lay_len D ov.o
  have hbad : en ≠ 0 → lt = [] := by rw [hlt, hen]; exact lay_bad D ov.o
  obtain ⟨S, hS⟩ : ∃ z, z = strOf lt := ⟨_, rfl⟩
  have HSE := Lib.hid hS
  rw [← hS] at HLY
  have hSz : S.size ≤ 67108864 := by rw [hS, strOf_size]; exact hll
  have HLT := Lib.hid hlt
  have HEN := Lib.hid hen
  have HBAD := Lib.hid hbad
  clear hlt hen hll hbad hS
  go_wp2_with fail
  refine HLY.out.mono ?_
  rintro e w4 ⟨rfl, hb4⟩
  have T4 := Lib.hid (T3.out.next hb4)
  clear hb4 HLY
  clear a0 a1 a2 a3 a4 a5
  clear o0 o1 o2 o3 o4 o5 o6 o7 o8
  by_cases he : en = 0
  case neg =>
    have hne : (en != 0) = true := by simp [he]
    have hs0 : S = ⟨#[]⟩ := by rw [HSE.out, HBAD.out he]; rfl
    subst hs0
    clear he
    go_wp2_with (go_at_call 17; refine (num_any _ _).mono ?_; rintro e wq ⟨rfl, rfl⟩)
    go_ret
    exact ⟨rfl, T4.out.below⟩
  subst he
  go_wp2_with (go_at_call 17; refine (num_any _ _).mono ?_; rintro e wq ⟨rfl, rfl⟩)
  have o7 := T4.out.ob.cell 7; simp only [OptV.cells, List.getElem?_cons_zero, List.getElem?_cons_succ] at o7
  obtain ⟨cr, hcr⟩ : ∃ z, z = ov.o.crlf := ⟨_, rfl⟩
  rw [← hcr] at o7
  have HLN : Hid (LnAt cr S.data.toList) := Lib.hid (by
    have h := lay_at D ov.o HLIT.out
    rw [← hcr, ← HLT.out] at h
    rw [HSE.out]
    exact h)
  clear hcr
  go_loop [7] (fun i => ∃ j : Nat, j ≤ S.size ∧ i = .int .i64 (j : Int)) (fun i => S.size - (intOf i).toNat)
  case atStart => exact ⟨0, Nat.zero_le _, rfl⟩
  case round =>
    obtain ⟨j, hj, rfl⟩ := hrel
    by_cases hlt : j < S.size
    · have hji : (j : Int) < (S.size : Int) := by omega
      have hw1 : IntKind.i64.wrap ((j : Int) + 1) = (j : Int) + 1 := IntWalk.i64_in _ (by omega)
      have hret := HLN.out.ret j
      have hfeed := HLN.out.feed j
      have hboth := HLN.out.both j
      have hg : ∀ (p : j < S.size), S[j]'p = S[j]'hlt := fun p => rfl
      have hl : S.data.toList[j]? = some (S[j]'hlt) := str_get S _ hlt
      generalize S[j]'hlt = c at *
      rw [hl] at hret hfeed hboth
      have hc : c.toNat = 10 ∨ c.toNat = 13 ∨ (c.toNat ≠ 10 ∧ c.toNat ≠ 13) := by omega
      clear hl
      rcases hc with hc | hc | ⟨hc1, hc2⟩
      · obtain rfl : c = 10 := UInt8.toNat_inj.1 hc
        clear hret
        cases cr
        case false =>
          have hf := hfeed rfl rfl
          clear hfeed hboth
          cases j with
          | zero =>
            clear hf
            have hk := (show IntKind.i64.wrap (((0 : Nat) : Int) - 1) = -1 by decide)
            go_wp2_with fail
            go_round
            case rel => exact ⟨0 + 1, by omega, by go_num⟩
            case measure => simp [intOf]; omega
          | succ i =>
            have hlt1 : i < S.size := by omega
            have hk : IntKind.i64.wrap (((i + 1 : Nat) : Int) - 1) = (i : Int) := by rw [show ((i + 1 : Nat) : Int) - 1 = (i : Int) by omega]; exact IntWalk.i64_in _ (by omega)
            have hga : ∀ (p : i < S.size), S[i]'p = S[i]'hlt1 := fun p => rfl
            have hla : S.data.toList[i]? = some (S[i]'hlt1) := str_get S _ hlt1
            generalize S[i]'hlt1 = ca at *
            have hb := blank_no (hf ca (by omega) (by rw [show i + 1 - 1 = i by omega]; exact hla))
            obtain ⟨b1, b2⟩ := hb
            clear hf hla
            have n1 : ((ca.toNat : Int) == 32) = false := by rw [beq_eq_false_iff_ne]; omega
            have n2 : ((ca.toNat : Int) == 9) = false := by rw [beq_eq_false_iff_ne]; omega
            go_wp2_with fail
            go_round
            case rel => exact ⟨i + 1 + 1, by omega, by go_num⟩
            case measure => simp [intOf]; omega
        case true =>
          obtain ⟨g1, g2, g3⟩ := hboth rfl rfl
          clear hfeed hboth
          obtain ⟨i, rfl⟩ : ∃ i, j = i + 1 := ⟨j - 1, by omega⟩
          have hlt1 : i < S.size := by omega
          have hk : IntKind.i64.wrap (((i + 1 : Nat) : Int) - 1) = (i : Int) := by rw [show ((i + 1 : Nat) : Int) - 1 = (i : Int) by omega]; exact IntWalk.i64_in _ (by omega)
          have hgd : ∀ (p : i < S.size), S[i]'p = S[i]'hlt1 := fun p => rfl
          have hld : S.data.toList[i]? = some (S[i]'hlt1) := str_get S _ hlt1
          generalize S[i]'hlt1 = cd at *
          rw [show i + 1 - 1 = i by omega, hld] at g2
          obtain rfl : cd = 13 := by injection g2
          clear g2 hld
          cases i with
          | zero =>
            clear g3
            have hk2 := (show IntKind.i64.wrap (((0 : Nat) : Int) - 1) = -1 by decide)
            go_wp2_with fail
            go_round
            case rel => exact ⟨0 + 1 + 1, by omega, by go_num⟩
            case measure => simp [intOf]; omega
          | succ i =>
            have hlt0 : i < S.size := by omega
            have hk2 : IntKind.i64.wrap (((i + 1 : Nat) : Int) - 1) = (i : Int) := by rw [show ((i + 1 : Nat) : Int) - 1 = (i : Int) by omega]; exact IntWalk.i64_in _ (by omega)
            have hgf : ∀ (p : i < S.size), S[i]'p = S[i]'hlt0 := fun p => rfl
            have hlf : S.data.toList[i]? = some (S[i]'hlt0) := str_get S _ hlt0
            generalize S[i]'hlt0 = cf at *
            have hb := blank_no (g3 cf (by omega) (by rw [show i + 1 + 1 - 2 = i by omega]; exact hlf))
            obtain ⟨b1, b2⟩ := hb
            clear g3 hlf
            have n1 : ((cf.toNat : Int) == 32) = false := by rw [beq_eq_false_iff_ne]; omega
            have n2 : ((cf.toNat : Int) == 9) = false := by rw [beq_eq_false_iff_ne]; omega
            go_wp2_with fail
            go_round
            case rel => exact ⟨i + 1 + 1 + 1, by omega, by go_num⟩
            case measure => simp [intOf]; omega
      · obtain rfl : c = 13 := UInt8.toNat_inj.1 hc
        obtain ⟨rfl, hn⟩ := hret rfl
        clear hfeed hboth hret
        have hlt2 : j + 1 < S.size := by
          have := (List.getElem?_eq_some_iff.1 hn).1
          rw [Array.length_toList] at this
          exact this
        have hgb : ∀ (p : j + 1 < S.size), S[j + 1]'p = S[j + 1]'hlt2 := fun p => rfl
        have hlb : S.data.toList[j + 1]? = some (S[j + 1]'hlt2) := str_get S _ hlt2
        generalize S[j + 1]'hlt2 = cb at *
        rw [hlb] at hn
        obtain rfl : cb = 10 := by injection hn
        clear hn hlb
        have hx : decide ((S.size : Int) ≤ (j : Int) + 1) = false := by simp; omega
        go_wp2_with fail
        go_round
        case rel => exact ⟨j + 1, by omega, by go_num⟩
        case measure => simp [intOf]; omega
      · clear hret hfeed hboth
        have e1 : ((c.toNat : Int) == 13) = false := by rw [beq_eq_false_iff_ne]; omega
        have e2 : ((c.toNat : Int) != 10) = true := by rw [bne_iff_ne]; omega
        go_wp2_with fail
        go_round
        case rel => exact ⟨j + 1, by omega, by go_num⟩
        case measure => simp [intOf]; omega
    · have hji : (S.size : Int) ≤ (j : Int) := by omega
      go_wp2_with fail
      go_ret
      exact ⟨rfl, T4.out.below⟩

/-- What the walk gives, for every argument. -/
theorem layoutLines_contract (H : Type) (enc : TypeId × Value → H) (W : World) (base : Nat) (args : Array Value) (ds gs : List (DataW H)) (before : List MemPlace)
    (hval : ∀ (j : Nat) t v, Tryd.f3.params[j]? = some t → args[j]? = some v → Value.okWide Tryd.prog W .any base t v)
    (hW : DataW.Whole enc Tryd.prog Tryd.f3.params.toList Rows.layoutLinesSpec.vars false W args.toList ds gs before)
    (hsz : (DataW.weightsEach Tryd.prog (Tryd.f3.params.toList ++ Rows.layoutLinesSpec.plain.varTypes Tryd.prog) (ds ++ gs)).all (· ≤ reachBytes) = true) (hT : Tabs W) (hc : Rows.uptoSmall H (ds ++ gs) = true) :
    Calls Tryd.prog 3 args W fun e W' => ∃ v, e = .returned v ∧ Rows.layoutLinesSpec.post enc Tryd.prog Tryd.f3 false true false false W args v W' := by
  have hW' := hW
  obtain ⟨p, q, hA0, hV, rfl, hfz, hnd⟩ := hW
  have hA : DataW.TrodAll enc Tryd.prog W 0 (fun _ => true) true Tryd.f3.params.toList args.toList ds p := hA0
  rw [Tryd.params3] at hA hval hsz
  obtain ⟨v0, vs0, d0, ds0, p0, q0, hargs, rfl, rfl, h0, r0⟩ := trodAll_cons hA
  obtain ⟨v1, vs1, d1, ds1, p1, q1, rfl, rfl, rfl, h1, r1⟩ := trodAll_cons r0
  obtain ⟨rfl, rfl, rfl⟩ := trodAll_nil r1
  obtain rfl : args = #[v0, v1] := by cases args; simp_all
  obtain ⟨rfl, rfl⟩ := trodVars_none hV
  have hlt := fun x hx => hW'.lt x hx
  obtain ⟨a0, y0, rfl, k0, b0⟩ := doc_open (hval 0 24 v0 rfl rfl) h0
  obtain ⟨a1, rfl⟩ := opts_open (hval 1 26 v1 rfl rfl) h1
  clear hA0 hval
  simp [Rows.uptoSmall, Rows.uptoBulkAll, Rows.uptoBulk] at hc
  refine (layoutLines_call a0 y0 a1 W k0 (by omega) hT).mono fun e W' ⟨he, hb⟩ => ?_
  subst he
  exact ⟨_, rfl, law_post_any (pv := []) Tryd.underlying4 (by kernel_rfl) hW' rfl (trodAll_cons_mk (Below.trod laidOut (by kernel_rfl) (of_decide_eq_true (by kernel_rfl)) h0 hb (fun x hx => hlt x (by simp [hx]))) (trodAll_cons_mk (Below.trod laidOut (by kernel_rfl) (of_decide_eq_true (by kernel_rfl)) h1 hb (fun x hx => hlt x (by simp [hx]))) trodAll_mk0)) rfl hb⟩

theorem layoutLines_reads (os : Os) {H : Type} (enc : TypeId × Value → H) : ∃ places, DataW.whole enc Tryd.prog ((laidWorld os).forCall (fun _ _ => 0) ⟨#[], #[.agg #[.int .i64 0, .string ⟨#[]⟩, .slice none 0 0, .bool false, .int .i64 0, .int .i64 0], .agg #[.int .i64 0, .int .i64 0, .bool false, .bool false, .bool false, .bool false, .bool false, .bool false, .bool false]], []⟩).memory Tryd.f3.params.toList Rows.layoutLinesSpec.vars false (#[.agg #[.int .i64 0, .string ⟨#[]⟩, .slice none 0 0, .bool false, .int .i64 0, .int .i64 0], .agg #[.int .i64 0, .int .i64 0, .bool false, .bool false, .bool false, .bool false, .bool false, .bool false, .bool false]] : Array Value).toList 8 = some ([.agg [.lit (.int .i64 0), .lit (.string []), .nil, .lit (.bool false), .lit (.int .i64 0), .lit (.int .i64 0)], .agg [.lit (.int .i64 0), .lit (.int .i64 0), .lit (.bool false), .lit (.bool false), .lit (.bool false), .lit (.bool false), .lit (.bool false), .lit (.bool false), .lit (.bool false)]], [], places) :=
  ⟨[], by kernel_rfl⟩
theorem layoutLines_lifted (os : Os) (started : os.Started) (H : Type) (enc : TypeId × Value → H) (F : Stop.Interp) :
    ReturnsInHanded {} Tryd.checked os 3 .any ((Rows.OpenSpec.upto Rows.layoutLinesSpec).preRow enc Tryd.prog Tryd.f3 Rows.layoutLinesUptoRow.domain false Rows.layoutLinesUptoRow.laid) (((Rows.OpenSpec.upto Rows.layoutLinesSpec).at F).post enc Tryd.prog Tryd.f3 false true false false) := by
  obtain ⟨places, hx⟩ := layoutLines_reads os enc
  refine returnsInHanded_of_row (C := Tryd.checked) (s := (Rows.OpenSpec.upto Rows.layoutLinesSpec)) ownKnob_none started (by kernel_rfl) Tryd.func3
    (witness_row_at (enc := enc) (C := Tryd.checked) false (laidWorld os) #[.agg #[.int .i64 0, .string ⟨#[]⟩, .slice none 0 0, .bool false, .int .i64 0, .int .i64 0], .agg #[.int .i64 0, .int .i64 0, .bool false, .bool false, .bool false, .bool false, .bool false, .bool false, .bool false]] rfl (by kernel_rfl) (by kernel_rfl) (by kernel_rfl)
      (OpenSpec.preRow_of_cond 8 hx (by kernel_rfl) (fun k hk => by cases hk; kernel_rfl) (by kernel_rfl) (laid_met os _))) ?_
  intro W base args ds gs before hval hW _ hc0 hsz hL _ _
  exact layoutLines_contract H enc W base args ds gs before hval hW hsz (tabs_of_laid hL) (hc0 _ rfl)
theorem layoutLines_said : Rows.LayoutLinesUptoSaid :=
  OpenClaim.holds_of_cond 3 Tryd.f3 rfl rfl rfl rfl rfl rfl rfl ⟨rfl, rfl, rfl, rfl, rfl⟩ rfl rfl rfl rfl rfl (by kernel_rfl) Tryd.func3 (by kernel_rfl)
    (of_decide_eq_true (by kernel_rfl)) (by unfold Func.isWrapper; first | (rw [if_pos (by decide +kernel)]; kernel_rfl) | (rw [if_neg (by decide +kernel)]; exact ⟨rfl, rfl⟩))
    (fun os started H enc _ F => by rw [OpenClaim.pre_eq_preRow]; exact layoutLines_lifted os started H enc F)
theorem layoutLines_plain (f : FuncId) (fn : Func) (hf : Tryd.pinned.checked.prog.funcNamed Rows.layoutLinesRow.func = some f) (hfn : Tryd.pinned.checked.prog.funcs[f]? = some fn) :
    true = Tryd.pinned.checked.prog.looks [] ∧ ∀ (j : Nat) t, fn.params[j]? = some t → Tryd.pinned.checked.prog.wantsStandIn t = false := by
  obtain rfl : f = 3 := Option.some.inj ((show Tryd.prog.funcNamed Rows.layoutLinesRow.func = some 3 by kernel_rfl).symm.trans hf) |>.symm
  obtain rfl : fn = Tryd.f3 := (Option.some.inj (Tryd.func3.symm.trans hfn)).symm
  refine ⟨by kernel_rfl, fun j t ht => ?_⟩
  rw [Tryd.params3] at ht
  have hm := Array.mem_of_getElem? ht
  have hall : ∀ t ∈ (#[24, 26] : Array TypeId), Tryd.prog.wantsStandIn t = false := by
    intro t ht
    simp only [List.mem_toArray, List.mem_cons, List.mem_nil_iff, or_false] at ht
    rcases ht with rfl | rfl
    all_goals kernel_rfl
  exact hall t hm

/-- THE CARD. -/
theorem layoutLines_card : Rows.LayoutLinesUptoCardSaid :=
  Claim7.holds_tied_plain_at .later [] _ _ _ _ layoutLines_said (fun _ h => by cases h) (by kernel_rfl) (fun _ h => by cases h) layoutLinesUpto_row_tie rfl ⟨rfl, rfl⟩ (by kernel_rfl) rfl layoutLines_plain (by kernel_rfl)
#print axioms layoutLines_card
end Go.Proofs.YthljgiimdcbfpaaDoor
