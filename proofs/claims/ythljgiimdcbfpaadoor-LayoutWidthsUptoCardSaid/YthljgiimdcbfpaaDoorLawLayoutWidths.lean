/- The law LayoutWidths (platenlaw17) holds of the program. Conditions: the document's bulk is at most 1048576; the library's tables unicode/utf8.first and acceptRanges read as their initialisers lay them. -/
import Derived.Test.YthljgiimdcbfpaaDoorMLaw
import Derived.Test.YthljgiimdcbfpaaDoorMShal
import Derived.Test.YthljgiimdcbfpaaDoorMSpr
import Derived.Test.YthljgiimdcbfpaaDoorLPWidths
namespace Go.Proofs.YthljgiimdcbfpaaDoor
open Go.RowKit Go.WideShapes Go.ChangeShapes Go.ChangeAt
open Go.ChangeMaps (open_string shut_string)
set_option maxRecDepth 100000
set_option linter.unusedVariables false
set_option linter.unusedSimpArgs false

theorem alloc_cellF (w : World) (o : Obj) (a : Addr) (h : a.block < w.heap.size) : (w.alloc o).cell? a = w.cell? a := World.cell?_of_block (Below.heap_alloc w o _ h)
/-- A document, boxed. -/
structure One (w : World) (D : Doc) (kd : Value) (W : World) : Prop where
  bd : Blk W w.heap.size (docCells D kd) 24
  kd : KV W 0 W.heap.size D kd
  below : Below w.heap.size w W
theorem One.next {w W W' : World} {D : Doc} {kd : Value} (h : One w D kd W) (hb : Below W.heap.size W W') : One w D kd W' :=
  ⟨h.bd.below hb, (h.kd.below hb (Nat.le_refl _)).wide (Nat.le_refl _) hb.size, h.below.trans (hb.mono h.below.size)⟩
theorem one_new {w : World} {D : Doc} {kd : Value} (hd : KV w 0 w.heap.size D kd) : One w D kd (w.alloc (.cells (docCells D kd).toArray 24)) := by
  have h1 : Below w.heap.size w (w.alloc (.cells (docCells D kd).toArray 24)) := (Below.refl _ w).alloc (Nat.le_refl _) _
  exact ⟨Blk.new _ _ _, (hd.below h1 (Nat.le_refl _)).wide (Nat.le_refl _) h1.size, h1⟩
/-- A document and the options, boxed. -/
structure Two (w : World) (D : Doc) (kd : Value) (b : Nat) (ov : OptV) (W : World) : Prop where
  one : One w D kd W
  ob : Blk W b ov.cells 26
theorem Two.next {w W W' : World} {D : Doc} {kd : Value} {b : Nat} {ov : OptV} (h : Two w D kd b ov W) (hb : Below W.heap.size W W') : Two w D kd b ov W' := ⟨h.one.next hb, h.ob.below hb⟩
theorem one_group {w W : World} {D : Doc} {kd : Value} (h : One w D kd W) (k : Int) :
    One w D kd (W.alloc (.cells (docsCells [(D, kd)]).toArray 24)) ∧ KV (W.alloc (.cells (docsCells [(D, kd)]).toArray 24)) 0 (W.alloc (.cells (docsCells [(D, kd)]).toArray 24)).heap.size (eDoc k [D]) (.slice (some ⟨W.heap.size, 0, none⟩) 1 1) := by
  have h2 := h.next ((Below.refl _ W).alloc (Nat.le_refl _) (.cells (docsCells [(D, kd)]).toArray 24))
  refine ⟨h2, kv_made (D := eDoc k [D]) (cap := 1) [(D, kd)] (Blk.new _ _ _) ?_ (Nat.zero_le _) (by simp) rfl (by simp)⟩
  intro p hp
  simp only [List.mem_cons, List.not_mem_nil, or_false] at hp
  subst hp
  exact h2.kd
theorem two_group {w W : World} {D : Doc} {kd : Value} {b : Nat} {ov : OptV} (h : Two w D kd b ov W) :
    Blk ((W.alloc (.cells (docsCells [(D, kd)]).toArray 24)).alloc (.cells (docCells (eDoc 7 [D]) (.slice (some ⟨W.heap.size, 0, none⟩) 1 1)).toArray 24)) (W.heap.size + 1) (docCells (eDoc 7 [D]) (.slice (some ⟨W.heap.size, 0, none⟩) 1 1)) 24 ∧
    KV ((W.alloc (.cells (docsCells [(D, kd)]).toArray 24)).alloc (.cells (docCells (eDoc 7 [D]) (.slice (some ⟨W.heap.size, 0, none⟩) 1 1)).toArray 24)) 0 ((W.alloc (.cells (docsCells [(D, kd)]).toArray 24)).alloc (.cells (docCells (eDoc 7 [D]) (.slice (some ⟨W.heap.size, 0, none⟩) 1 1)).toArray 24)).heap.size (eDoc 7 [D]) (.slice (some ⟨W.heap.size, 0, none⟩) 1 1) ∧
    Two w D kd b ov ((W.alloc (.cells (docsCells [(D, kd)]).toArray 24)).alloc (.cells (docCells (eDoc 7 [D]) (.slice (some ⟨W.heap.size, 0, none⟩) 1 1)).toArray 24)) := by
  obtain ⟨h1, h2⟩ := one_group h.one 7
  have h3 := h.next ((Below.refl _ W).alloc (Nat.le_refl _) (.cells (docsCells [(D, kd)]).toArray 24))
  have hb := (Below.refl (W.alloc (.cells (docsCells [(D, kd)]).toArray 24)).heap.size (W.alloc (.cells (docsCells [(D, kd)]).toArray 24))).alloc (Nat.le_refl _) (.cells (docCells (eDoc 7 [D]) (.slice (some ⟨W.heap.size, 0, none⟩) 1 1)).toArray 24)
  exact ⟨Blk.new' _ _ (by simp), (h2.below hb (Nat.le_refl _)).wide (Nat.le_refl _) hb.size, h3.next hb⟩
theorem one_bulk (k : Int) (D : Doc) : (eDoc k [D]).bulk = D.bulk + 1 := by
  rw [Doc.bulk_eq]
  show bulkL [D] + 0 + 1 = _
  simp only [bulkL]
/-- A document and another, boxed. -/
structure Thr (w : World) (D : Doc) (kd : Value) (b : Nat) (G : Doc) (kv : Value) (W : World) : Prop where
  one : One w D kd W
  gb : Blk W b (docCells G kv) 24
  gk : KV W 0 W.heap.size G kv
theorem Thr.next {w W W' : World} {D G : Doc} {kd kv : Value} {b : Nat} (h : Thr w D kd b G kv W) (hb : Below W.heap.size W W') : Thr w D kd b G kv W' :=
  ⟨h.one.next hb, h.gb.below hb, (h.gk.below hb (Nat.le_refl _)).wide (Nat.le_refl _) hb.size⟩
set_option maxHeartbeats 16000000 in
theorem layoutWidths_call (D : Doc) (kd : Value) (x y : Int) (w : World) (hkd : KV w 0 w.heap.size D kd) (hx : (Lit.int .i64 x).wf = true) (hy : (Lit.int .i64 y).wf = true) (hbd : D.bulk ≤ 1048576) (hT : Tabs w) :
    Calls Tryd.prog 12 #[docV D kd, .int .i64 x, .int .i64 y] w fun e w' => e = .returned (.bool true) ∧ Below w.heap.size w w' := by
  have H0 := Lib.hid (one_new hkd)
  have HT := Lib.hid hT
  have HA := Lib.hid (show D.bulk ≤ 4194304 by omega)
  have HB := Lib.hid hbd
  clear hkd hbd hT
  unfold docV
  go_enter Tryd.func12, Tryd.ntmps12
  go_wp2_with fail
  refine (awake17_any _ (HT.out.below H0.out.below)).mono ?_
  rintro e w1 ⟨rfl, hb1⟩
  have T1 := Lib.hid (H0.out.next hb1)
  clear hb1
  have a0 := T1.out.bd.cell 0; have a1 := T1.out.bd.cell 1; have a2 := T1.out.bd.cell 2; have a3 := T1.out.bd.cell 3; have a4 := T1.out.bd.cell 4; have a5 := T1.out.bd.cell 5; simp only [docCells, List.getElem?_cons_zero, List.getElem?_cons_succ] at a0 a1 a2 a3 a4 a5
  go_wp2_with fail
  refine (shallow_any (eDoc 0 [D]) (.slice (some ⟨w1.heap.size, 0, none⟩) 1 1) _ (one_group T1.out 0).2 (by rw [one_bulk]; have := HB.out; omega)).mono ?_
  rintro e w2 ⟨rfl, hb2⟩
  have T2 := Lib.hid ((one_group T1.out 0).1.next hb2)
  clear hb2
  clear a0 a1 a2 a3 a4 a5
  by_cases hsa : (eDoc 0 [D]).depth ≤ 65536
  case neg =>
    rw [decide_eq_false hsa]
    clear hsa
    go_wp2_with fail
    go_ret
    exact ⟨rfl, T2.out.below⟩
  rw [decide_eq_true hsa]
  clear hsa
  have a0 := T2.out.bd.cell 0; have a1 := T2.out.bd.cell 1; have a2 := T2.out.bd.cell 2; have a3 := T2.out.bd.cell 3; have a4 := T2.out.bd.cell 4; have a5 := T2.out.bd.cell 5; simp only [docCells, List.getElem?_cons_zero, List.getElem?_cons_succ] at a0 a1 a2 a3 a4 a5
  go_wp2_with fail
  clear a0 a1 a2 a3 a4 a5
  refine (spread_any (eDoc 7 [D]) (.slice (some ⟨w2.heap.size, 0, none⟩) 1 1) _ (one_group T2.out 7).2 (by rw [one_bulk]; have := HB.out; omega) (HT.out.below (one_group T2.out 7).1.below)).mono ?_
  rintro e w3 ⟨kv', rfl, hkw, hb3⟩
  have T3 := Lib.hid ((one_group T2.out 7).1.next hb3)
  have hgk3 : KV w3 0 w3.heap.size ((eDoc 7 [D]).sprD (decide ((eDoc 7 [D]).code = 0))) kv' := (KG.kv hkw).wide (Nat.zero_le _) (Nat.le_refl _)
  clear hkw
  obtain ⟨G, hG⟩ : ∃ G, G = (eDoc 7 [D]).sprD (decide ((eDoc 7 [D]).code = 0)) := ⟨_, rfl⟩
  rw [← hG] at hgk3
  rw [← hG]
  obtain ⟨ga, gcap, rfl⟩ := hgk3.slice
  obtain ⟨gn, hgn⟩ : ∃ z, z = G.kids.length := ⟨_, rfl⟩
  rw [← hgn] at hgk3
  rw [← hgn]
  clear hgn
  have HGK3 := Lib.hid hgk3
  have HGB : Hid (G.bulk ≤ 4194304) := Lib.hid (by rw [hG, spr_bulk, one_bulk]; have := HB.out; omega)
  have HGQ : Hid (G.quiet = D.quiet) := Lib.hid (by rw [hG, spr_quiet, Doc.quiet_eq]; show (true && quietL [D]) = _; simp [quietL])
  have HGT : Hid (G.kind = 7) := Lib.hid (by rw [hG, Doc.sprD_eq]; rfl)
  have HSA : Hid (G.flatS.size ≤ 1048577) := Lib.hid (by
    have hbG : G.bulk ≤ 1048577 := by rw [hG, spr_bulk, one_bulk]; have := HB.out; omega
    have key : ∀ l, G.flatV = some l → l.length ≤ G.bulk := by
      intro l h
      unfold Doc.flatV at h
      split at h
      · exact G.flat_len l h
      · cases h
    unfold Doc.flatS
    cases hv : G.flatV with
    | none => exact Nat.zero_le _
    | some l =>
      have := key l hv
      have h2 : (⟨l.toArray⟩ : ByteArray).size = l.length := strOf_size l
      show (⟨l.toArray⟩ : ByteArray).size ≤ _
      omega)
  clear hb3 hgk3 hG
  unfold docV
  go_upto_region 6 with fail
  obtain ⟨gb, hgb⟩ : ∃ gb, gb = w3.heap.size := ⟨_, rfl⟩
  have hP : Thr w D kd gb G (.slice ga gn gcap) (w3.alloc (Obj.cells #[Value.int IntKind.i64 G.kind, Value.string G.text, Value.slice ga gn gcap, Value.bool G.brk, Value.int IntKind.i64 G.id, Value.int IntKind.i64 G.width] 24)) := by
    have hb := (Below.refl w3.heap.size w3).alloc (Nat.le_refl _) (Obj.cells #[Value.int IntKind.i64 G.kind, Value.string G.text, Value.slice ga gn gcap, Value.bool G.brk, Value.int IntKind.i64 G.id, Value.int IntKind.i64 G.width] 24)
    refine ⟨T3.out.next hb, ?_, (HGK3.out.below hb (Nat.le_refl _)).wide (Nat.le_refl _) hb.size⟩
    rw [hgb]
    exact Blk.new _ _ _
  rw [← hgb]
  clear hgb
  generalize w3.alloc _ = w4 at hP
  have T4 := Lib.hid hP
  clear hP
  have g0 := T4.out.gb.cell 0; have g1 := T4.out.gb.cell 1; have g2 := T4.out.gb.cell 2; have g3 := T4.out.gb.cell 3; have g4 := T4.out.gb.cell 4; have g5 := T4.out.gb.cell 5; simp only [docCells, List.getElem?_cons_zero, List.getElem?_cons_succ] at g0 g1 g2 g3 g4 g5
  go_wp2_with fail
  refine (flat_any G (.slice ga gn gcap) _ T4.out.gk HGB.out (HT.out.below T4.out.one.below)).mono ?_
  rintro e w5 ⟨rfl, hb5⟩
  have T5 := Lib.hid (T4.out.next hb5)
  clear hb5 g0 g1 g2 g3 g4 g5
  obtain ⟨S, hS⟩ : ∃ z, z = G.flatS := ⟨_, rfl⟩
  obtain ⟨ok, hok⟩ : ∃ z, z = G.flatOk := ⟨_, rfl⟩
  rw [← hS, ← hok]
  have hSz : S.size ≤ 1048577 := by rw [hS]; exact HSA.out
  have HSE := Lib.hid hS
  have HOK2 : Hid (ok = true → G.flatOk = true) := Lib.hid (fun e => hok ▸ e)
  clear hS hok
  cases ok
  case false =>
    go_wp2_with fail
    go_ret
    exact ⟨rfl, T5.out.one.below⟩
  case true =>
    have a0 := T5.out.one.bd.cell 0; have a1 := T5.out.one.bd.cell 1; have a2 := T5.out.one.bd.cell 2; have a3 := T5.out.one.bd.cell 3; have a4 := T5.out.one.bd.cell 4; have a5 := T5.out.one.bd.cell 5; simp only [docCells, List.getElem?_cons_zero, List.getElem?_cons_succ] at a0 a1 a2 a3 a4 a5
    go_wp2_with fail
    refine (quietIn_any D kd _ T5.out.one.kd HA.out).mono ?_
    rintro e w6 ⟨rfl, hb6⟩
    have T6 := Lib.hid (T5.out.next hb6)
    clear hb6 a0 a1 a2 a3 a4 a5
    cases hq : D.quiet
    case false =>
      clear hq
      go_wp2_with fail
      go_ret
      exact ⟨rfl, T6.out.one.below⟩
    have HQ : Hid (G.quiet = true) := Lib.hid (by rw [HGQ.out, hq])
    clear hq
    obtain ⟨ux, hux⟩ := u64_natF x
    obtain ⟨r, hr, hr60⟩ : ∃ q : Nat, (ux : Int) % 60 = (q : Int) ∧ q < 60 := ⟨ux % 60, by omega, by omega⟩
    obtain ⟨uy, huy⟩ := u64_natF y
    obtain ⟨q, hq, hq60⟩ : ∃ q : Nat, (uy : Int) % 60 = (q : Int) ∧ q < 60 := ⟨uy % 60, by omega, by omega⟩
    have hw1 : IntKind.i64.wrap (r : Int) = (r : Int) := IntWalk.i64_in _ (by omega)
    have hw2 : IntKind.i64.wrap (1 + (r : Int)) = 1 + (r : Int) := IntWalk.i64_in _ (by omega)
    have hw3 : IntKind.i64.wrap (q : Int) = (q : Int) := IntWalk.i64_in _ (by omega)
    have hw4 : IntKind.i64.wrap (1 + (r : Int) + (q : Int)) = 1 + (r : Int) + (q : Int) := IntWalk.i64_in _ (by omega)
    go_upto_region 11 with fail
    obtain ⟨bn, hbn⟩ : ∃ bn : Nat, 1 + (r : Int) + (q : Int) = (bn : Int) := ⟨1 + r + q, by omega⟩
    obtain ⟨an, han⟩ : ∃ an : Nat, 1 + (r : Int) = (an : Int) := ⟨1 + r, by omega⟩
    have HAN : Hid (1 ≤ an ∧ an ≤ bn ∧ bn ≤ 200) := Lib.hid (by omega)
    rw [hbn, han]
    clear hbn han hux hr hr60 huy hq hq60 hw1 hw2 hw3 hw4
    obtain ⟨m, hm⟩ : ∃ z, z = widthB S := ⟨_, rfl⟩
    have HWD := Lib.hid (width_any S w6 (by omega))
    rw [← hm] at HWD
    have HM := Lib.hid hm
    clear hm
    go_wp2_with fail
    refine HWD.out.mono ?_
    rintro e w7 ⟨rfl, hb7⟩
    have T7 := Lib.hid (T6.out.next hb7)
    clear hb7 HWD
    by_cases hlt : (an : Int) < (m : Int)
    · go_wp2_with fail
      go_ret
      exact ⟨rfl, T7.out.one.below⟩
    · have hle : (m : Int) ≤ (an : Int) := by omega
      obtain ⟨ov1, hov1⟩ : ∃ ov : OptV, ov = ⟨⟨an, 2, false, false⟩, false, false, false, false, false⟩ := ⟨_, rfl⟩
      obtain ⟨ov2, hov2⟩ : ∃ ov : OptV, ov = ⟨⟨bn, 2, false, false⟩, false, false, false, false, false⟩ := ⟨_, rfl⟩
      have HO1 := Lib.hid hov1
      have HO2 := Lib.hid hov2
      have hr1 := group2_lay HGT.out (HOK2.out (by simp)) HQ.out (by have := HSA.out; omega) ov1.o (by rw [hov1]; have h1 := HAN.out; simp [optOk]; omega) (by rw [← HSE.out, ← HM.out, hov1]; exact hle)
      have hr2 := group2_lay HGT.out (HOK2.out (by simp)) HQ.out (by have := HSA.out; omega) ov2.o (by rw [hov2]; have h1 := HAN.out; simp [optOk]; omega) (by rw [← HSE.out, ← HM.out, hov2]; have := HAN.out; show (m : Int) ≤ (bn : Int); omega)
      rw [← HSE.out] at hr1 hr2
      have HR1 := Lib.hid hr1
      have HR2 := Lib.hid hr2
      clear hov1 hov2 hr1 hr2
      have g0 := T7.out.gb.cell 0; have g1 := T7.out.gb.cell 1; have g2 := T7.out.gb.cell 2; have g3 := T7.out.gb.cell 3; have g4 := T7.out.gb.cell 4; have g5 := T7.out.gb.cell 5; simp only [docCells, List.getElem?_cons_zero, List.getElem?_cons_succ] at g0 g1 g2 g3 g4 g5
      go_wp2_with fail
      have HL1 := Lib.hid (layout_any G (.slice ga gn gcap) ov1 _ T7.out.gk HGB.out (HT.out.below T7.out.one.below))
      rw [HR1.out.1, HR1.out.2] at HL1
      unfold OptV.cells at HL1
      rw [HO1.out] at HL1
      refine HL1.out.mono ?_
      rintro e v1 ⟨rfl, hv1⟩
      have T8 := Lib.hid (T7.out.next hv1)
      clear hv1 HL1 g0 g1 g2 g3 g4 g5
      have g0 := T8.out.gb.cell 0; have g1 := T8.out.gb.cell 1; have g2 := T8.out.gb.cell 2; have g3 := T8.out.gb.cell 3; have g4 := T8.out.gb.cell 4; have g5 := T8.out.gb.cell 5; simp only [docCells, List.getElem?_cons_zero, List.getElem?_cons_succ] at g0 g1 g2 g3 g4 g5
      go_wp2_with fail
      have HL2 := Lib.hid (layout_any G (.slice ga gn gcap) ov2 _ T8.out.gk HGB.out (HT.out.below T8.out.one.below))
      rw [HR2.out.1, HR2.out.2] at HL2
      unfold OptV.cells at HL2
      rw [HO2.out] at HL2
      refine HL2.out.mono ?_
      rintro e v2 ⟨rfl, hv2⟩
      have T9 := Lib.hid (T8.out.next hv2)
      clear hv2 HL2 g0 g1 g2 g3 g4 g5
      have hss2 : (S.toList == S.toList) = true := by simp
      go_wp2_with (go_at_call 17; refine (num_any _ _).mono ?_; rintro e wq ⟨rfl, rfl⟩)
      go_ret
      exact ⟨rfl, T9.out.one.below⟩

/-- What the walk gives, for every argument. -/
theorem layoutWidths_contract (H : Type) (enc : TypeId × Value → H) (W : World) (base : Nat) (args : Array Value) (ds gs : List (DataW H)) (before : List MemPlace)
    (hval : ∀ (j : Nat) t v, Tryd.f12.params[j]? = some t → args[j]? = some v → Value.okWide Tryd.prog W .any base t v)
    (hW : DataW.Whole enc Tryd.prog Tryd.f12.params.toList Rows.layoutWidthsSpec.vars false W args.toList ds gs before)
    (hsz : (DataW.weightsEach Tryd.prog (Tryd.f12.params.toList ++ Rows.layoutWidthsSpec.plain.varTypes Tryd.prog) (ds ++ gs)).all (· ≤ reachBytes) = true) (hT : Tabs W) (hc : Rows.uptoSmall H (ds ++ gs) = true) :
    Calls Tryd.prog 12 args W fun e W' => ∃ v, e = .returned v ∧ Rows.layoutWidthsSpec.post enc Tryd.prog Tryd.f12 false true false false W args v W' := by
  have hW' := hW
  obtain ⟨p, q, hA0, hV, rfl, hfz, hnd⟩ := hW
  have hA : DataW.TrodAll enc Tryd.prog W 0 (fun _ => true) true Tryd.f12.params.toList args.toList ds p := hA0
  rw [Tryd.params12] at hA hval hsz
  obtain ⟨v0, vs0, d0, ds0, p0, q0, hargs, rfl, rfl, h0, r0⟩ := trodAll_cons hA
  obtain ⟨v1, vs1, d1, ds1, p1, q1, rfl, rfl, rfl, h1, r1⟩ := trodAll_cons r0
  obtain ⟨v2, vs2, d2, ds2, p2, q2, rfl, rfl, rfl, h2, r2⟩ := trodAll_cons r1
  obtain ⟨rfl, rfl, rfl⟩ := trodAll_nil r2
  obtain rfl : args = #[v0, v1, v2] := by cases args; simp_all
  obtain ⟨rfl, rfl⟩ := trodVars_none hV
  have hlt := fun x hx => hW'.lt x hx
  obtain ⟨a0, y0, rfl, k0, b0⟩ := doc_open (hval 0 24 v0 rfl rfl) h0
  obtain ⟨a1, rfl, rfl, rfl, w1⟩ := open_int Tryd.underlying3 (hval 1 3 v1 rfl rfl) h1
  obtain ⟨a2, rfl, rfl, rfl, w2⟩ := open_int Tryd.underlying3 (hval 2 3 v2 rfl rfl) h2
  clear hA0 hval
  simp [Rows.uptoSmall, Rows.uptoBulkAll, Rows.uptoBulk] at hc
  refine (layoutWidths_call a0 y0 a1 a2 W k0 w1 w2 (by omega) hT).mono fun e W' ⟨he, hb⟩ => ?_
  subst he
  exact ⟨_, rfl, law_post_any (pv := []) Tryd.underlying4 (by kernel_rfl) hW' rfl (trodAll_cons_mk (Below.trod laidOut (by kernel_rfl) (of_decide_eq_true (by kernel_rfl)) h0 hb (fun x hx => hlt x (by simp [hx]))) (trodAll_cons_mk (shut_int Tryd.underlying3 w1) (trodAll_cons_mk (shut_int Tryd.underlying3 w2) trodAll_mk0))) rfl hb⟩

theorem layoutWidths_reads (os : Os) {H : Type} (enc : TypeId × Value → H) : ∃ places, DataW.whole enc Tryd.prog ((laidWorld os).forCall (fun _ _ => 0) ⟨#[], #[.agg #[.int .i64 0, .string ⟨#[]⟩, .slice none 0 0, .bool false, .int .i64 0, .int .i64 0], .int .i64 0, .int .i64 0], []⟩).memory Tryd.f12.params.toList Rows.layoutWidthsSpec.vars false (#[.agg #[.int .i64 0, .string ⟨#[]⟩, .slice none 0 0, .bool false, .int .i64 0, .int .i64 0], .int .i64 0, .int .i64 0] : Array Value).toList 8 = some ([.agg [.lit (.int .i64 0), .lit (.string []), .nil, .lit (.bool false), .lit (.int .i64 0), .lit (.int .i64 0)], .lit (.int .i64 0), .lit (.int .i64 0)], [], places) :=
  ⟨[], by kernel_rfl⟩
theorem layoutWidths_lifted (os : Os) (started : os.Started) (H : Type) (enc : TypeId × Value → H) (F : Stop.Interp) :
    ReturnsInHanded {} Tryd.checked os 12 .any ((Rows.OpenSpec.upto Rows.layoutWidthsSpec).preRow enc Tryd.prog Tryd.f12 Rows.layoutWidthsUptoRow.domain false Rows.layoutWidthsUptoRow.laid) (((Rows.OpenSpec.upto Rows.layoutWidthsSpec).at F).post enc Tryd.prog Tryd.f12 false true false false) := by
  obtain ⟨places, hx⟩ := layoutWidths_reads os enc
  refine returnsInHanded_of_row (C := Tryd.checked) (s := (Rows.OpenSpec.upto Rows.layoutWidthsSpec)) ownKnob_none started (by kernel_rfl) Tryd.func12
    (witness_row_at (enc := enc) (C := Tryd.checked) false (laidWorld os) #[.agg #[.int .i64 0, .string ⟨#[]⟩, .slice none 0 0, .bool false, .int .i64 0, .int .i64 0], .int .i64 0, .int .i64 0] rfl (by kernel_rfl) (by kernel_rfl) (by kernel_rfl)
      (OpenSpec.preRow_of_cond 8 hx (by kernel_rfl) (fun k hk => by cases hk; kernel_rfl) (by kernel_rfl) (laid_met os _))) ?_
  intro W base args ds gs before hval hW _ hc0 hsz hL _ _
  exact layoutWidths_contract H enc W base args ds gs before hval hW hsz (tabs_of_laid hL) (hc0 _ rfl)
theorem layoutWidths_said : Rows.LayoutWidthsUptoSaid :=
  OpenClaim.holds_of_cond 12 Tryd.f12 rfl rfl rfl rfl rfl rfl rfl ⟨rfl, rfl, rfl, rfl, rfl⟩ rfl rfl rfl rfl rfl (by kernel_rfl) Tryd.func12 (by kernel_rfl)
    (of_decide_eq_true (by kernel_rfl)) (by unfold Func.isWrapper; first | (rw [if_pos (by decide +kernel)]; kernel_rfl) | (rw [if_neg (by decide +kernel)]; exact ⟨rfl, rfl⟩))
    (fun os started H enc _ F => by rw [OpenClaim.pre_eq_preRow]; exact layoutWidths_lifted os started H enc F)
theorem layoutWidths_plain (f : FuncId) (fn : Func) (hf : Tryd.pinned.checked.prog.funcNamed Rows.layoutWidthsRow.func = some f) (hfn : Tryd.pinned.checked.prog.funcs[f]? = some fn) :
    true = Tryd.pinned.checked.prog.looks [] ∧ ∀ (j : Nat) t, fn.params[j]? = some t → Tryd.pinned.checked.prog.wantsStandIn t = false := by
  obtain rfl : f = 12 := Option.some.inj ((show Tryd.prog.funcNamed Rows.layoutWidthsRow.func = some 12 by kernel_rfl).symm.trans hf) |>.symm
  obtain rfl : fn = Tryd.f12 := (Option.some.inj (Tryd.func12.symm.trans hfn)).symm
  refine ⟨by kernel_rfl, fun j t ht => ?_⟩
  rw [Tryd.params12] at ht
  have hm := Array.mem_of_getElem? ht
  have hall : ∀ t ∈ (#[24, 3, 3] : Array TypeId), Tryd.prog.wantsStandIn t = false := by
    intro t ht
    simp only [List.mem_toArray, List.mem_cons, List.mem_nil_iff, or_false] at ht
    rcases ht with rfl | rfl | rfl
    all_goals kernel_rfl
  exact hall t hm

/-- THE CARD. -/
theorem layoutWidths_card : Rows.LayoutWidthsUptoCardSaid :=
  Claim7.holds_tied_plain_at .later [] _ _ _ _ layoutWidths_said (fun _ h => by cases h) (by kernel_rfl) (fun _ h => by cases h) layoutWidthsUpto_row_tie rfl ⟨rfl, rfl⟩ (by kernel_rfl) rfl layoutWidths_plain (by kernel_rfl)
#print axioms layoutWidths_card
end Go.Proofs.YthljgiimdcbfpaaDoor
