/- The law LayoutTexts (platenlaw17) holds of the program. Conditions: the document's bulk is at most 1048576; the library's tables unicode/utf8.first and acceptRanges read as their initialisers lay them. -/
import Derived.Test.YthljgiimdcbfpaaDoorMLaw
import Derived.Test.YthljgiimdcbfpaaDoorMShal
import Derived.Test.YthljgiimdcbfpaaDoorLPTextsW
import Derived.Test.YthljgiimdcbfpaaDoorLPOpts
import Derived.Test.YthljgiimdcbfpaaDoorLPFactsG
namespace Go.Proofs.YthljgiimdcbfpaaDoor
open Go.RowKit Go.WideShapes Go.ChangeShapes Go.ChangeAt
set_option maxRecDepth 100000
set_option linter.unusedVariables false
set_option linter.unusedSimpArgs false

theorem alloc_cellF (w : World) (o : Obj) (a : Addr) (h : a.block < w.heap.size) : (w.alloc o).cell? a = w.cell? a := World.cell?_of_block (Below.heap_alloc w o _ h)
/-- A document and the options, boxed. -/
structure Two (w : World) (D : Doc) (kd : Value) (ov : OptV) (W : World) : Prop where
  bd : Blk W w.heap.size (docCells D kd) 24
  ob : Blk W (w.heap.size + 1) ov.cells 26
  kd : KV W 0 W.heap.size D kd
  below : Below w.heap.size w W
theorem Two.next {w W W' : World} {D : Doc} {kd : Value} {ov : OptV} (h : Two w D kd ov W) (hb : Below W.heap.size W W') : Two w D kd ov W' :=
  ⟨h.bd.below hb, h.ob.below hb, (h.kd.below hb (Nat.le_refl _)).wide (Nat.le_refl _) hb.size, h.below.trans (hb.mono h.below.size)⟩
theorem two_new {w : World} {D : Doc} {kd : Value} (ov : OptV) (hd : KV w 0 w.heap.size D kd) : Two w D kd ov ((w.alloc (.cells (docCells D kd).toArray 24)).alloc (.cells ov.cells.toArray 26)) := by
  have h1 : Below w.heap.size w ((w.alloc (.cells (docCells D kd).toArray 24)).alloc (.cells ov.cells.toArray 26)) := ((Below.refl _ w).alloc (Nat.le_refl _) _).alloc (by simp) _
  exact ⟨(Blk.new _ _ _).alloc _, Blk.new' _ _ (by simp), (hd.below h1 (Nat.le_refl _)).wide (Nat.le_refl _) h1.size, h1⟩
/-- What each operation of the sixth region says. -/
def FT (D : Doc) (kd : Value) (S X Y : ByteArray) : Nat → Value → World → Prop
  | 0, v, _ => v = .int .i64 0
  | 1, v, _ => v = .int .i64 0
  | 2, v, _ => v = .bool false
  | 3, v, _ => v = .bool false
  | 4, v, _ => v = .string S
  | 5, v, _ => v = .string Y
  | 6, v, _ => v = docV D kd
  | 7, v, W => ∃ B n, W.ownsRow B 5 1 v n (Lib.byteCells D.textsL)
  | 8, v, _ => v = .string X
  | 9, v, _ => v = .string Y
  | 10, v, _ => v = .bool true
  | 11, v, _ => v = .bool true
  | 12, v, _ => v = .bool true
  | _, _, _ => True
theorem FT.next (D : Doc) (kd : Value) (S X Y : ByteArray) : ∀ (i : Nat) (v : Value) (W W' : World), FT D kd S X Y i v W → Below W.heap.size W W' → FT D kd S X Y i v W'
  | 0, _, _, _, h, _ => h
  | 1, _, _, _, h, _ => h
  | 2, _, _, _, h, _ => h
  | 3, _, _, _, h, _ => h
  | 4, _, _, _, h, _ => h
  | 5, _, _, _, h, _ => h
  | 6, _, _, _, h, _ => h
  | 7, _, _, _, ⟨B, n, h⟩, hb => ⟨B, n, own_below h hb⟩
  | 8, _, _, _, h, _ => h
  | 9, _, _, _, h, _ => h
  | 10, _, _, _, h, _ => h
  | 11, _, _, _, h, _ => h
  | 12, _, _, _, h, _ => h
  | _ + 13, _, _, _, _, _ => trivial
set_option maxHeartbeats 3000000 in
theorem layoutTexts_call (D : Doc) (kd : Value) (ov : OptV) (w : World) (hkd : KV w 0 w.heap.size D kd) (hbd : D.bulk ≤ 1048576) (hT : Tabs w) :
    Calls Tryd.prog 4 #[docV D kd, .agg ov.cells.toArray] w fun e w' => e = .returned (.bool true) ∧ Below w.heap.size w w' := by
  have H0 := Lib.hid (two_new ov hkd)
  have HT := Lib.hid hT
  have HA := Lib.hid (show D.bulk ≤ 4194304 by omega)
  have HB := Lib.hid hbd
  clear hkd hbd hT
  unfold docV
  unfold OptV.cells
  go_enter Tryd.func4, Tryd.ntmps4
  go_wp2_with fail
  refine (awake17_any _ (HT.out.below H0.out.below)).mono ?_
  rintro e w1 ⟨rfl, hb1⟩
  have T1 := Lib.hid (H0.out.next hb1)
  clear hb1
  have a0 := T1.out.bd.cell 0; have a1 := T1.out.bd.cell 1; have a2 := T1.out.bd.cell 2; have a3 := T1.out.bd.cell 3; have a4 := T1.out.bd.cell 4; have a5 := T1.out.bd.cell 5; simp only [docCells, List.getElem?_cons_zero, List.getElem?_cons_succ] at a0 a1 a2 a3 a4 a5
  go_wp2_with fail
  refine (shallow_any D kd _ T1.out.kd HA.out).mono ?_
  rintro e w2 ⟨rfl, hb2⟩
  have T2 := Lib.hid (T1.out.next hb2)
  clear hb2
  clear a0 a1 a2 a3 a4 a5
  by_cases hsa : D.depth ≤ 65536
  case neg =>
    rw [decide_eq_false hsa]
    clear hsa
    go_wp2_with fail
    go_ret
    exact ⟨rfl, T2.out.below⟩
  rw [decide_eq_true hsa]
  clear hsa
  have a0 := T2.out.bd.cell 0; have a1 := T2.out.bd.cell 1; have a2 := T2.out.bd.cell 2; have a3 := T2.out.bd.cell 3; have a4 := T2.out.bd.cell 4; have a5 := T2.out.bd.cell 5; simp only [docCells, List.getElem?_cons_zero, List.getElem?_cons_succ] at a0 a1 a2 a3 a4 a5
  go_wp2_with fail
  refine (choicesIn_any D kd _ T2.out.kd HA.out).mono ?_
  rintro e w3 ⟨rfl, hb3⟩
  have T3 := Lib.hid (T2.out.next hb3)
  clear hb3
  clear a0 a1 a2 a3 a4 a5
  cases hlit : D.choices
  case true =>
    clear hlit
    go_wp2_with fail
    go_ret
    exact ⟨rfl, T3.out.below⟩
  have a0 := T3.out.bd.cell 0; have a1 := T3.out.bd.cell 1; have a2 := T3.out.bd.cell 2; have a3 := T3.out.bd.cell 3; have a4 := T3.out.bd.cell 4; have a5 := T3.out.bd.cell 5; simp only [docCells, List.getElem?_cons_zero, List.getElem?_cons_succ] at a0 a1 a2 a3 a4 a5
  have o0 := T3.out.ob.cell 0; have o1 := T3.out.ob.cell 1; have o2 := T3.out.ob.cell 2; have o3 := T3.out.ob.cell 3; have o4 := T3.out.ob.cell 4; have o5 := T3.out.ob.cell 5; have o6 := T3.out.ob.cell 6; have o7 := T3.out.ob.cell 7; have o8 := T3.out.ob.cell 8; simp only [OptV.cells, List.getElem?_cons_zero, List.getElem?_cons_succ] at o0 o1 o2 o3 o4 o5 o6 o7 o8
  have HLIT := Lib.hid hlit
  clear hlit
  have HLY := Lib.hid (layout_any D kd ov w3 T3.out.kd HA.out (HT.out.below T3.out.below))
  obtain ⟨lt, hlt⟩ : ∃ z, z = (layN D ov.o).1 := ⟨_, rfl⟩
  obtain ⟨en, hen⟩ : ∃ z, z = (layN D ov.o).2 := ⟨_, rfl⟩
  rw [← hlt, ← hen] at HLY
  unfold OptV.cells at HLY
  have hll : lt.length ≤ 67108864 := by rw [hlt]; exact lay_len D ov.o
  have hbad : en ≠ 0 → lt = [] := by rw [hlt, hen]; exact lay_bad D ov.o
  obtain ⟨S, hS⟩ : ∃ z, z = strOf lt := ⟨_, rfl⟩
  have HSE := Lib.hid hS
  rw [← hS] at HLY
  have hSz : S.size ≤ 67108864 := by rw [hS, strOf_size]; exact hll
  have HLT := Lib.hid hlt
  have HEN := Lib.hid hen
  have HBAD := Lib.hid hbad
  clear hlt hen hll hbad hS
  go_wp2_with fail
  refine HLY.out.mono ?_
  rintro e w4 ⟨rfl, hb4⟩
  have T4 := Lib.hid (T3.out.next hb4)
  clear hb4 HLY
  clear a0 a1 a2 a3 a4 a5
  clear o0 o1 o2 o3 o4 o5 o6 o7 o8
  go_upto_region 6 with fail
  by_cases he : en = 0
  case neg =>
    have hne : (en != 0) = true := by simp [he]
    have hne2 : (en == 0) = false := by simp [he]
    clear he
    refine wp_region_below w4.heap.size (by kernel_rfl) (by kernel_rfl) ?_
    repeat (first | go_big_quiet_skip | (go_big_quiet_want; go_big_quiet_op; (first | go_big_quiet_on | (refine Exists.intro _ ⟨fun _ _ => rfl, ?_⟩; go_big_quiet_on) | (apply Exists.intro; refine ⟨fun wq hq => ?_, ?_⟩; (go_at_call 17; refine (num_any _ _).mono ?_; rintro e wq ⟨rfl, rfl⟩; exact ⟨rfl, hq⟩); go_big_quiet_on))))
    refine wpQuiet_nil ?_
    intro wq hq
    have T9 := Lib.hid (T4.out.next hq)
    clear hq
    go_wp2_with fail
    go_ret
    exact ⟨rfl, T9.out.below⟩
  subst he
  have hXz : (strOf D.textsL).size ≤ 67108864 := by
    have h1 := D.textsL_len
    have h2 := HB.out
    rw [strOf_size]
    omega
  have HEQ := Lib.hid (lay_texts D ov.o HLIT.out HEN.out.symm)
  rw [← HLT.out] at HEQ
  obtain ⟨X, hX⟩ : ∃ z, z = strOf D.textsL := ⟨_, rfl⟩
  rw [← hX] at hXz
  obtain ⟨Y, hY⟩ : ∃ z, z = strOf (bareL S.data.toList) := ⟨_, rfl⟩
  have HB1 : Hid (∀ w : World, Calls Tryd.prog 19 #[.string S] w fun e w' => e = .returned (.string Y) ∧ Below w.heap.size w w') := Lib.hid (fun w => by rw [hY]; exact bare_any S w hSz)
  have HB2 : Hid (∀ w : World, Calls Tryd.prog 19 #[.string X] w fun e w' => e = .returned (.string Y) ∧ Below w.heap.size w w') := Lib.hid (fun w => by
    have e : Y = strOf (bareL X.data.toList) := by rw [hY, hX, HSE.out]; exact congrArg strOf HEQ.out
    rw [e]
    exact bare_any X w hXz)
  have HX := Lib.hid hX
  have HTX : Hid (∀ W : World, Two w D kd ov W → Calls Tryd.prog 20 #[.slice none 0 0, docV D kd] W fun e w' => ∃ v', e = .returned v' ∧ w'.ownsRow W.heap.size 5 1 v' (D.textsL).length (Lib.byteCells D.textsL) ∧ Below W.heap.size W w') := Lib.hid (fun W hW => (textsIn_any D kd W W.heap.size 0 _ [] hW.kd (Nat.le_refl _) HA.out (by have := HB.out; simp; omega) (World.ownsRow_nil _ _ _ _)).mono (by
    rintro e w' ⟨v', rfl, ho, hb, _⟩
    exact ⟨v', rfl, ho, hb⟩))
  clear hX hY HEQ
  refine wp_region_allG (FT D kd S X Y) (fun U => Below w4.heap.size w4 U) 3 false (fun v w h => h) (by kernel_rfl) (by kernel_rfl) (by kernel_rfl) (Below.refl _ w4).drew (FT.next D kd S X Y) ?_ ?_
  · intro i oi hoi a U hg hold hdep
    have hi : i < 13 := by have := (List.getElem?_eq_some_iff.1 hoi).1; simpa using this
    obtain rfl | rfl | rfl | rfl | rfl | rfl | rfl | rfl | rfl | rfl | rfl | rfl | rfl : i = 0 ∨ i = 1 ∨ i = 2 ∨ i = 3 ∨ i = 4 ∨ i = 5 ∨ i = 6 ∨ i = 7 ∨ i = 8 ∨ i = 9 ∨ i = 10 ∨ i = 11 ∨ i = 12 := by omega
    all_goals
      simp only [List.getElem?_cons_zero, List.getElem?_cons_succ, Option.some.injEq] at hoi
      subst hoi
    · have f6 := hold 6 (notDst (by kernel_rfl))
      rw [Array.getD_eq_getD_getElem?] at f6
      change _ = Value.int .i64 0 at f6
      refine op_K (fun K hK => ?_)
      go_simp
      exact hK (.int .i64 0) _ (Below.refl _ _) hg rfl
    · have f22 := hdep ⟨0, .data⟩ (by simp) rfl _ _ rfl rfl
      rw [Array.getD_eq_getD_getElem?] at f22
      change _ = Value.int .i64 0 at f22
      refine op_K (fun K hK => ?_)
      go_simp
      refine (num_any _ _).mono ?_
      rintro e wx ⟨rfl, rfl⟩
      exact hK _ _ (Below.refl _ _) hg rfl
    · have f23 := hdep ⟨1, .data⟩ (by simp) rfl _ _ rfl rfl
      rw [Array.getD_eq_getD_getElem?] at f23
      change _ = Value.int .i64 0 at f23
      refine op_K (fun K hK => ?_)
      go_simp
      exact hK (.bool false) _ (Below.refl _ _) hg rfl
    · have f24 := hdep ⟨2, .data⟩ (by simp) rfl _ _ rfl rfl
      rw [Array.getD_eq_getD_getElem?] at f24
      change _ = Value.bool false at f24
      refine op_K (fun K hK => ?_)
      go_simp
      exact hK (.bool false) _ (Below.refl _ _) hg rfl
    · have f5 := hold 5 (notDst (by kernel_rfl))
      rw [Array.getD_eq_getD_getElem?] at f5
      change _ = Value.string S at f5
      refine op_K (fun K hK => ?_)
      go_simp
      exact hK (.string S) _ (Below.refl _ _) hg rfl
    · have f26 := hdep ⟨4, .data⟩ (by simp) rfl _ _ rfl rfl
      rw [Array.getD_eq_getD_getElem?] at f26
      change _ = Value.string S at f26
      refine op_K (fun K hK => ?_)
      go_simp
      refine (HB1.out _).mono ?_
      rintro e wx ⟨rfl, hbx⟩
      exact hK _ _ hbx (hg.call hbx) rfl
    · have f2 := hold 2 (notDst (by kernel_rfl))
      rw [Array.getD_eq_getD_getElem?] at f2
      change _ = Value.pointer (some ⟨w.heap.size, 0, none⟩) at f2
      have T5 := Lib.hid (T4.out.next hg)
      have a0 := T5.out.bd.cell 0; have a1 := T5.out.bd.cell 1; have a2 := T5.out.bd.cell 2; have a3 := T5.out.bd.cell 3; have a4 := T5.out.bd.cell 4; have a5 := T5.out.bd.cell 5; simp only [docCells, List.getElem?_cons_zero, List.getElem?_cons_succ] at a0 a1 a2 a3 a4 a5
      refine op_K (fun K hK => ?_)
      go_simp
      exact hK (docV D kd) _ (Below.refl _ _) hg rfl
    · have f28 := hdep ⟨6, .data⟩ (by simp) rfl _ _ rfl rfl
      rw [Array.getD_eq_getD_getElem?] at f28
      change _ = docV D kd at f28
      refine op_K (fun K hK => ?_)
      go_simp
      refine (HTX.out _ (T4.out.next hg)).mono ?_
      rintro e wx ⟨v2, rfl, ho, hbx⟩
      exact hK _ _ hbx (hg.call hbx) ⟨_, _, ho⟩
    · have f29 := hdep ⟨7, .data⟩ (by simp) rfl _ _ rfl rfl
      rw [Array.getD_eq_getD_getElem?] at f29
      obtain ⟨B, n, hown⟩ := f29
      obtain ⟨A, c, hv⟩ := own_form hown
      have hcv := own_str hown
      rw [← HX.out, hv] at hcv
      clear hown
      refine op_K (fun K hK => ?_)
      go_simp
      exact hK (.string X) _ (Below.refl _ _) hg rfl
    · have f30 := hdep ⟨8, .data⟩ (by simp) rfl _ _ rfl rfl
      rw [Array.getD_eq_getD_getElem?] at f30
      change _ = Value.string X at f30
      refine op_K (fun K hK => ?_)
      go_simp
      refine (HB2.out _).mono ?_
      rintro e wx ⟨rfl, hbx⟩
      exact hK _ _ hbx (hg.call hbx) rfl
    · have f27 := hdep ⟨5, .data⟩ (by simp) rfl _ _ rfl rfl
      rw [Array.getD_eq_getD_getElem?] at f27
      change _ = Value.string Y at f27
      have f31 := hdep ⟨9, .data⟩ (by simp) rfl _ _ rfl rfl
      rw [Array.getD_eq_getD_getElem?] at f31
      change _ = Value.string Y at f31
      refine op_K (fun K hK => ?_)
      go_simp
      exact hK (.bool true) _ (Below.refl _ _) hg rfl
    · have f25 := hdep ⟨3, .data⟩ (by simp) rfl _ _ rfl rfl
      rw [Array.getD_eq_getD_getElem?] at f25
      change _ = Value.bool false at f25
      have f32 := hdep ⟨10, .data⟩ (by simp) rfl _ _ rfl rfl
      rw [Array.getD_eq_getD_getElem?] at f32
      change _ = Value.bool true at f32
      refine op_K (fun K hK => ?_)
      go_simp
      exact hK (.bool true) _ (Below.refl _ _) hg rfl
    · have f33 := hdep ⟨11, .data⟩ (by simp) rfl _ _ rfl rfl
      rw [Array.getD_eq_getD_getElem?] at f33
      change _ = Value.bool true at f33
      refine op_K (fun K hK => ?_)
      go_simp
      exact hK (.bool true) _ (Below.refl _ _) hg rfl
  · intro f U hg hf
    have e12 := hf 12 (by decide)
    change f 12 = Value.bool true at e12
    clear hf
    refine ⟨_, (by simp only [putAll, Act.put, List.setIfInBounds_toArray, List.set_cons_zero, List.set_cons_succ, Nat.zero_add, Nat.reduceAdd, e12]; rfl), ?_⟩
    clear e12
    generalize f 0 = v0
    generalize f 1 = v1
    generalize f 2 = v2
    generalize f 3 = v3
    generalize f 4 = v4
    generalize f 5 = v5
    generalize f 6 = v6
    generalize f 7 = v7
    generalize f 8 = v8
    generalize f 9 = v9
    generalize f 10 = v10
    generalize f 11 = v11
    clear f
    have T9 := Lib.hid (T4.out.next hg)
    clear hg
    try simp only [Exit.then]
    go_wp2_with fail
    go_ret
    exact ⟨rfl, T9.out.below⟩

/-- What the walk gives, for every argument. -/
theorem layoutTexts_contract (H : Type) (enc : TypeId × Value → H) (W : World) (base : Nat) (args : Array Value) (ds gs : List (DataW H)) (before : List MemPlace)
    (hval : ∀ (j : Nat) t v, Tryd.f4.params[j]? = some t → args[j]? = some v → Value.okWide Tryd.prog W .any base t v)
    (hW : DataW.Whole enc Tryd.prog Tryd.f4.params.toList Rows.layoutTextsSpec.vars false W args.toList ds gs before)
    (hsz : (DataW.weightsEach Tryd.prog (Tryd.f4.params.toList ++ Rows.layoutTextsSpec.plain.varTypes Tryd.prog) (ds ++ gs)).all (· ≤ reachBytes) = true) (hT : Tabs W) (hc : Rows.uptoSmall H (ds ++ gs) = true) :
    Calls Tryd.prog 4 args W fun e W' => ∃ v, e = .returned v ∧ Rows.layoutTextsSpec.post enc Tryd.prog Tryd.f4 false true false false W args v W' := by
  have hW' := hW
  obtain ⟨p, q, hA0, hV, rfl, hfz, hnd⟩ := hW
  have hA : DataW.TrodAll enc Tryd.prog W 0 (fun _ => true) true Tryd.f4.params.toList args.toList ds p := hA0
  rw [Tryd.params4] at hA hval hsz
  obtain ⟨v0, vs0, d0, ds0, p0, q0, hargs, rfl, rfl, h0, r0⟩ := trodAll_cons hA
  obtain ⟨v1, vs1, d1, ds1, p1, q1, rfl, rfl, rfl, h1, r1⟩ := trodAll_cons r0
  obtain ⟨rfl, rfl, rfl⟩ := trodAll_nil r1
  obtain rfl : args = #[v0, v1] := by cases args; simp_all
  obtain ⟨rfl, rfl⟩ := trodVars_none hV
  have hlt := fun x hx => hW'.lt x hx
  obtain ⟨a0, y0, rfl, k0, b0⟩ := doc_open (hval 0 24 v0 rfl rfl) h0
  obtain ⟨a1, rfl⟩ := opts_open (hval 1 26 v1 rfl rfl) h1
  clear hA0 hval
  simp [Rows.uptoSmall, Rows.uptoBulkAll, Rows.uptoBulk] at hc
  refine (layoutTexts_call a0 y0 a1 W k0 (by omega) hT).mono fun e W' ⟨he, hb⟩ => ?_
  subst he
  exact ⟨_, rfl, law_post_any (pv := []) Tryd.underlying4 (by kernel_rfl) hW' rfl (trodAll_cons_mk (Below.trod laidOut (by kernel_rfl) (of_decide_eq_true (by kernel_rfl)) h0 hb (fun x hx => hlt x (by simp [hx]))) (trodAll_cons_mk (Below.trod laidOut (by kernel_rfl) (of_decide_eq_true (by kernel_rfl)) h1 hb (fun x hx => hlt x (by simp [hx]))) trodAll_mk0)) rfl hb⟩

theorem layoutTexts_reads (os : Os) {H : Type} (enc : TypeId × Value → H) : ∃ places, DataW.whole enc Tryd.prog ((laidWorld os).forCall (fun _ _ => 0) ⟨#[], #[.agg #[.int .i64 0, .string ⟨#[]⟩, .slice none 0 0, .bool false, .int .i64 0, .int .i64 0], .agg #[.int .i64 0, .int .i64 0, .bool false, .bool false, .bool false, .bool false, .bool false, .bool false, .bool false]], []⟩).memory Tryd.f4.params.toList Rows.layoutTextsSpec.vars false (#[.agg #[.int .i64 0, .string ⟨#[]⟩, .slice none 0 0, .bool false, .int .i64 0, .int .i64 0], .agg #[.int .i64 0, .int .i64 0, .bool false, .bool false, .bool false, .bool false, .bool false, .bool false, .bool false]] : Array Value).toList 8 = some ([.agg [.lit (.int .i64 0), .lit (.string []), .nil, .lit (.bool false), .lit (.int .i64 0), .lit (.int .i64 0)], .agg [.lit (.int .i64 0), .lit (.int .i64 0), .lit (.bool false), .lit (.bool false), .lit (.bool false), .lit (.bool false), .lit (.bool false), .lit (.bool false), .lit (.bool false)]], [], places) :=
  ⟨[], by kernel_rfl⟩
theorem layoutTexts_lifted (os : Os) (started : os.Started) (H : Type) (enc : TypeId × Value → H) (F : Stop.Interp) :
    ReturnsInHanded {} Tryd.checked os 4 .any ((Rows.OpenSpec.upto Rows.layoutTextsSpec).preRow enc Tryd.prog Tryd.f4 Rows.layoutTextsUptoRow.domain false Rows.layoutTextsUptoRow.laid) (((Rows.OpenSpec.upto Rows.layoutTextsSpec).at F).post enc Tryd.prog Tryd.f4 false true false false) := by
  obtain ⟨places, hx⟩ := layoutTexts_reads os enc
  refine returnsInHanded_of_row (C := Tryd.checked) (s := (Rows.OpenSpec.upto Rows.layoutTextsSpec)) ownKnob_none started (by kernel_rfl) Tryd.func4
    (witness_row_at (enc := enc) (C := Tryd.checked) false (laidWorld os) #[.agg #[.int .i64 0, .string ⟨#[]⟩, .slice none 0 0, .bool false, .int .i64 0, .int .i64 0], .agg #[.int .i64 0, .int .i64 0, .bool false, .bool false, .bool false, .bool false, .bool false, .bool false, .bool false]] rfl (by kernel_rfl) (by kernel_rfl) (by kernel_rfl)
      (OpenSpec.preRow_of_cond 8 hx (by kernel_rfl) (fun k hk => by cases hk; kernel_rfl) (by kernel_rfl) (laid_met os _))) ?_
  intro W base args ds gs before hval hW _ hc0 hsz hL _ _
  exact layoutTexts_contract H enc W base args ds gs before hval hW hsz (tabs_of_laid hL) (hc0 _ rfl)
theorem layoutTexts_said : Rows.LayoutTextsUptoSaid :=
  OpenClaim.holds_of_cond 4 Tryd.f4 rfl rfl rfl rfl rfl rfl rfl ⟨rfl, rfl, rfl, rfl, rfl⟩ rfl rfl rfl rfl rfl (by kernel_rfl) Tryd.func4 (by kernel_rfl)
    (of_decide_eq_true (by kernel_rfl)) (by unfold Func.isWrapper; first | (rw [if_pos (by decide +kernel)]; kernel_rfl) | (rw [if_neg (by decide +kernel)]; exact ⟨rfl, rfl⟩))
    (fun os started H enc _ F => by rw [OpenClaim.pre_eq_preRow]; exact layoutTexts_lifted os started H enc F)
theorem layoutTexts_plain (f : FuncId) (fn : Func) (hf : Tryd.pinned.checked.prog.funcNamed Rows.layoutTextsRow.func = some f) (hfn : Tryd.pinned.checked.prog.funcs[f]? = some fn) :
    true = Tryd.pinned.checked.prog.looks [] ∧ ∀ (j : Nat) t, fn.params[j]? = some t → Tryd.pinned.checked.prog.wantsStandIn t = false := by
  obtain rfl : f = 4 := Option.some.inj ((show Tryd.prog.funcNamed Rows.layoutTextsRow.func = some 4 by kernel_rfl).symm.trans hf) |>.symm
  obtain rfl : fn = Tryd.f4 := (Option.some.inj (Tryd.func4.symm.trans hfn)).symm
  refine ⟨by kernel_rfl, fun j t ht => ?_⟩
  rw [Tryd.params4] at ht
  have hm := Array.mem_of_getElem? ht
  have hall : ∀ t ∈ (#[24, 26] : Array TypeId), Tryd.prog.wantsStandIn t = false := by
    intro t ht
    simp only [List.mem_toArray, List.mem_cons, List.mem_nil_iff, or_false] at ht
    rcases ht with rfl | rfl
    all_goals kernel_rfl
  exact hall t hm

/-- THE CARD. -/
theorem layoutTexts_card : Rows.LayoutTextsUptoCardSaid :=
  Claim7.holds_tied_plain_at .later [] _ _ _ _ layoutTexts_said (fun _ h => by cases h) (by kernel_rfl) (fun _ h => by cases h) layoutTextsUpto_row_tie rfl ⟨rfl, rfl⟩ (by kernel_rfl) rfl layoutTexts_plain (by kernel_rfl)
#print axioms layoutTexts_card
end Go.Proofs.YthljgiimdcbfpaaDoor
