/- The law LayoutFlats (platenlaw17) holds of the program. Conditions: the document's bulk is at most 1048576; the library's tables unicode/utf8.first and acceptRanges read as their initialisers lay them. -/
import Derived.Test.YthljgiimdcbfpaaDoorMLaw
import Derived.Test.YthljgiimdcbfpaaDoorMShal
import Derived.Test.YthljgiimdcbfpaaDoorLPFlats
namespace Go.Proofs.YthljgiimdcbfpaaDoor
open Go.RowKit Go.WideShapes Go.ChangeShapes Go.ChangeAt
open Go.ChangeMaps (open_string shut_string)
set_option maxRecDepth 100000
set_option linter.unusedVariables false
set_option linter.unusedSimpArgs false

theorem alloc_cellF (w : World) (o : Obj) (a : Addr) (h : a.block < w.heap.size) : (w.alloc o).cell? a = w.cell? a := World.cell?_of_block (Below.heap_alloc w o _ h)
/-- A document, boxed. -/
structure One (w : World) (D : Doc) (kd : Value) (W : World) : Prop where
  bd : Blk W w.heap.size (docCells D kd) 24
  kd : KV W 0 W.heap.size D kd
  below : Below w.heap.size w W
theorem One.next {w W W' : World} {D : Doc} {kd : Value} (h : One w D kd W) (hb : Below W.heap.size W W') : One w D kd W' :=
  ⟨h.bd.below hb, (h.kd.below hb (Nat.le_refl _)).wide (Nat.le_refl _) hb.size, h.below.trans (hb.mono h.below.size)⟩
theorem one_new {w : World} {D : Doc} {kd : Value} (hd : KV w 0 w.heap.size D kd) : One w D kd (w.alloc (.cells (docCells D kd).toArray 24)) := by
  have h1 : Below w.heap.size w (w.alloc (.cells (docCells D kd).toArray 24)) := (Below.refl _ w).alloc (Nat.le_refl _) _
  exact ⟨Blk.new _ _ _, (hd.below h1 (Nat.le_refl _)).wide (Nat.le_refl _) h1.size, h1⟩
/-- A document and the options, boxed. -/
structure Two (w : World) (D : Doc) (kd : Value) (b : Nat) (ov : OptV) (W : World) : Prop where
  one : One w D kd W
  ob : Blk W b ov.cells 26
theorem Two.next {w W W' : World} {D : Doc} {kd : Value} {b : Nat} {ov : OptV} (h : Two w D kd b ov W) (hb : Below W.heap.size W W') : Two w D kd b ov W' := ⟨h.one.next hb, h.ob.below hb⟩
theorem one_group {w W : World} {D : Doc} {kd : Value} (h : One w D kd W) (k : Int) :
    One w D kd (W.alloc (.cells (docsCells [(D, kd)]).toArray 24)) ∧ KV (W.alloc (.cells (docsCells [(D, kd)]).toArray 24)) 0 (W.alloc (.cells (docsCells [(D, kd)]).toArray 24)).heap.size (eDoc k [D]) (.slice (some ⟨W.heap.size, 0, none⟩) 1 1) := by
  have h2 := h.next ((Below.refl _ W).alloc (Nat.le_refl _) (.cells (docsCells [(D, kd)]).toArray 24))
  refine ⟨h2, kv_made (D := eDoc k [D]) (cap := 1) [(D, kd)] (Blk.new _ _ _) ?_ (Nat.zero_le _) (by simp) rfl (by simp)⟩
  intro p hp
  simp only [List.mem_cons, List.not_mem_nil, or_false] at hp
  subst hp
  exact h2.kd
theorem two_group {w W : World} {D : Doc} {kd : Value} {b : Nat} {ov : OptV} (h : Two w D kd b ov W) :
    Blk ((W.alloc (.cells (docsCells [(D, kd)]).toArray 24)).alloc (.cells (docCells (eDoc 7 [D]) (.slice (some ⟨W.heap.size, 0, none⟩) 1 1)).toArray 24)) (W.heap.size + 1) (docCells (eDoc 7 [D]) (.slice (some ⟨W.heap.size, 0, none⟩) 1 1)) 24 ∧
    KV ((W.alloc (.cells (docsCells [(D, kd)]).toArray 24)).alloc (.cells (docCells (eDoc 7 [D]) (.slice (some ⟨W.heap.size, 0, none⟩) 1 1)).toArray 24)) 0 ((W.alloc (.cells (docsCells [(D, kd)]).toArray 24)).alloc (.cells (docCells (eDoc 7 [D]) (.slice (some ⟨W.heap.size, 0, none⟩) 1 1)).toArray 24)).heap.size (eDoc 7 [D]) (.slice (some ⟨W.heap.size, 0, none⟩) 1 1) ∧
    Two w D kd b ov ((W.alloc (.cells (docsCells [(D, kd)]).toArray 24)).alloc (.cells (docCells (eDoc 7 [D]) (.slice (some ⟨W.heap.size, 0, none⟩) 1 1)).toArray 24)) := by
  obtain ⟨h1, h2⟩ := one_group h.one 7
  have h3 := h.next ((Below.refl _ W).alloc (Nat.le_refl _) (.cells (docsCells [(D, kd)]).toArray 24))
  have hb := (Below.refl (W.alloc (.cells (docsCells [(D, kd)]).toArray 24)).heap.size (W.alloc (.cells (docsCells [(D, kd)]).toArray 24))).alloc (Nat.le_refl _) (.cells (docCells (eDoc 7 [D]) (.slice (some ⟨W.heap.size, 0, none⟩) 1 1)).toArray 24)
  exact ⟨Blk.new' _ _ (by simp), (h2.below hb (Nat.le_refl _)).wide (Nat.le_refl _) hb.size, h3.next hb⟩
theorem one_bulk (k : Int) (D : Doc) : (eDoc k [D]).bulk = D.bulk + 1 := by
  rw [Doc.bulk_eq]
  show bulkL [D] + 0 + 1 = _
  simp only [bulkL]
set_option maxHeartbeats 16000000 in
theorem layoutFlats_call (D : Doc) (kd : Value) (x : Int) (tb : Bool) (w : World) (hkd : KV w 0 w.heap.size D kd) (hx : (Lit.int .i64 x).wf = true) (hbd : D.bulk ≤ 1048576) (hT : Tabs w) :
    Calls Tryd.prog 11 #[docV D kd, .int .i64 x, .bool tb] w fun e w' => e = .returned (.bool true) ∧ Below w.heap.size w w' := by
  have H0 := Lib.hid (one_new hkd)
  have HT := Lib.hid hT
  have HA := Lib.hid (show D.bulk ≤ 4194304 by omega)
  have HB := Lib.hid hbd
  have HSA := Lib.hid (show D.flatS.size ≤ 1048576 by
    have key : ∀ l, D.flatV = some l → l.length ≤ D.bulk := by
      intro l h
      unfold Doc.flatV at h
      split at h
      · exact D.flat_len l h
      · cases h
    unfold Doc.flatS
    cases hv : D.flatV with
    | none => exact Nat.zero_le _
    | some l =>
      have := key l hv
      have h2 : (⟨l.toArray⟩ : ByteArray).size = l.length := strOf_size l
      show (⟨l.toArray⟩ : ByteArray).size ≤ _
      omega)
  clear hkd hbd hT
  unfold docV
  go_enter Tryd.func11, Tryd.ntmps11
  go_wp2_with fail
  refine (awake17_any _ (HT.out.below H0.out.below)).mono ?_
  rintro e w1 ⟨rfl, hb1⟩
  have T1 := Lib.hid (H0.out.next hb1)
  clear hb1
  have a0 := T1.out.bd.cell 0; have a1 := T1.out.bd.cell 1; have a2 := T1.out.bd.cell 2; have a3 := T1.out.bd.cell 3; have a4 := T1.out.bd.cell 4; have a5 := T1.out.bd.cell 5; simp only [docCells, List.getElem?_cons_zero, List.getElem?_cons_succ] at a0 a1 a2 a3 a4 a5
  go_wp2_with fail
  refine (shallow_any (eDoc 0 [D]) (.slice (some ⟨w1.heap.size, 0, none⟩) 1 1) _ (one_group T1.out 0).2 (by rw [one_bulk]; have := HB.out; omega)).mono ?_
  rintro e w2 ⟨rfl, hb2⟩
  have T2 := Lib.hid ((one_group T1.out 0).1.next hb2)
  clear hb2
  clear a0 a1 a2 a3 a4 a5
  by_cases hsa : (eDoc 0 [D]).depth ≤ 65536
  case neg =>
    rw [decide_eq_false hsa]
    clear hsa
    go_wp2_with fail
    go_ret
    exact ⟨rfl, T2.out.below⟩
  rw [decide_eq_true hsa]
  clear hsa
  have a0 := T2.out.bd.cell 0; have a1 := T2.out.bd.cell 1; have a2 := T2.out.bd.cell 2; have a3 := T2.out.bd.cell 3; have a4 := T2.out.bd.cell 4; have a5 := T2.out.bd.cell 5; simp only [docCells, List.getElem?_cons_zero, List.getElem?_cons_succ] at a0 a1 a2 a3 a4 a5
  go_wp2_with fail
  refine (flat_any D kd _ T2.out.kd HA.out (HT.out.below T2.out.below)).mono ?_
  rintro e w3 ⟨rfl, hb3⟩
  have T3 := Lib.hid (T2.out.next hb3)
  clear hb3
  clear a0 a1 a2 a3 a4 a5
  obtain ⟨S, hS⟩ : ∃ z, z = D.flatS := ⟨_, rfl⟩
  obtain ⟨ok, hok⟩ : ∃ z, z = D.flatOk := ⟨_, rfl⟩
  rw [← hS, ← hok]
  have hSz : S.size ≤ 1048576 := by rw [hS]; exact HSA.out
  have HSE := Lib.hid hS
  have HOK := Lib.hid hok
  clear hS hok
  obtain ⟨u, hu⟩ := u64_natF x
  obtain ⟨r, hr, hr100⟩ : ∃ q : Nat, (u : Int) % 100 = (q : Int) ∧ q < 100 := ⟨u % 100, by omega, by omega⟩
  have hw1 : IntKind.i64.wrap (r : Int) = (r : Int) := IntWalk.i64_in _ (by omega)
  have hw2 : IntKind.i64.wrap (1 + (r : Int)) = 1 + (r : Int) := IntWalk.i64_in _ (by omega)
  go_upto_region 7 with fail
  obtain ⟨wn, hwn⟩ : ∃ wn : Nat, 1 + (r : Int) = (wn : Int) := ⟨1 + r, by omega⟩
  rw [hwn]
  have HWN : Hid (1 ≤ wn ∧ wn ≤ 100) := Lib.hid (by omega)
  obtain ⟨b, hbe⟩ : ∃ b, b = w3.heap.size := ⟨_, rfl⟩
  obtain ⟨ov, hov⟩ : ∃ ov : OptV, ov = ⟨⟨wn, 2, tb, false⟩, false, false, false, false, false⟩ := ⟨_, rfl⟩
  have hP : Two w D kd b ov (w3.alloc (Obj.cells #[Value.int IntKind.i64 (wn : Int), Value.int IntKind.i64 2, Value.bool tb, Value.bool false, Value.bool false, Value.bool false, Value.bool false, Value.bool false, Value.bool false] 26)) := by
    refine ⟨T3.out.next ((Below.refl _ w3).alloc (Nat.le_refl _) _), ?_⟩
    rw [hbe, hov]
    exact Blk.new _ _ _
  rw [← hbe]
  have HOV := Lib.hid hov
  clear hwn hr hu hr100 hw1 hw2 hbe hov
  generalize w3.alloc _ = w4 at hP
  have T4 := Lib.hid hP
  clear hP
  have HOK2 : Hid (ok = true → D.flatOk = true) := Lib.hid (fun e => HOK.out ▸ e)
  clear HOK
  cases ok
  case false =>
    have T5 := Lib.hid T4.out
    obtain ⟨w5, hw5⟩ : ∃ z, z = w4 := ⟨_, rfl⟩
    rw [← hw5] at T5 ⊢
    clear hw5
    have a0 := T5.out.one.bd.cell 0; have a1 := T5.out.one.bd.cell 1; have a2 := T5.out.one.bd.cell 2; have a3 := T5.out.one.bd.cell 3; have a4 := T5.out.one.bd.cell 4; have a5 := T5.out.one.bd.cell 5; simp only [docCells, List.getElem?_cons_zero, List.getElem?_cons_succ] at a0 a1 a2 a3 a4 a5
    go_upto_region 11 with fail
    have hz5 : w.heap.size < w5.heap.size := T5.out.one.bd.lt
    have d0 : ∀ o1 : Obj, (w5.alloc o1).cell? ⟨w.heap.size, 0, none⟩ = some (.int .i64 D.kind) := fun o1 => (alloc_cellF w5 o1 _ (by simp; omega)).trans a0
    have d1 : ∀ o1 : Obj, (w5.alloc o1).cell? ⟨w.heap.size, 1, none⟩ = some (.string D.text) := fun o1 => (alloc_cellF w5 o1 _ (by simp; omega)).trans a1
    have d2 : ∀ o1 : Obj, (w5.alloc o1).cell? ⟨w.heap.size, 2, none⟩ = some (kd) := fun o1 => (alloc_cellF w5 o1 _ (by simp; omega)).trans a2
    have d3 : ∀ o1 : Obj, (w5.alloc o1).cell? ⟨w.heap.size, 3, none⟩ = some (.bool D.brk) := fun o1 => (alloc_cellF w5 o1 _ (by simp; omega)).trans a3
    have d4 : ∀ o1 : Obj, (w5.alloc o1).cell? ⟨w.heap.size, 4, none⟩ = some (.int .i64 D.id) := fun o1 => (alloc_cellF w5 o1 _ (by simp; omega)).trans a4
    have d5 : ∀ o1 : Obj, (w5.alloc o1).cell? ⟨w.heap.size, 5, none⟩ = some (.int .i64 D.width) := fun o1 => (alloc_cellF w5 o1 _ (by simp; omega)).trans a5
    go_cut [12] from 12 (fun (s12 : Value) (wd : World) => ∃ gb g, s12 = .pointer (some ⟨gb, 0, none⟩) ∧ Blk wd gb (docCells (eDoc 7 [D]) (.slice (some ⟨g, 0, none⟩) 1 1)) 24 ∧ KV wd 0 wd.heap.size (eDoc 7 [D]) (.slice (some ⟨g, 0, none⟩) 1 1) ∧ Two w D kd b ov wd)
    case first =>
      go_wp2_with fail
      go_meet
      case rel => exact ⟨_, _, rfl, two_group T5.out⟩
    case rest =>
      clear a0 a1 a2 a3 a4 a5 d0 d1 d2 d3 d4 d5
      obtain ⟨gb, g, rfl, hgb, hgk, h6⟩ := hcut
      obtain ⟨w6, rfl⟩ : ∃ wo : World, wo = wc := ⟨_, rfl⟩
      have T6 := Lib.hid h6
      have GB := Lib.hid hgb
      have GK := Lib.hid hgk
      have HG7 : Hid ((eDoc 7 [D]).bulk ≤ 4194304) := Lib.hid (by rw [one_bulk]; have := HB.out; omega)
      clear hgb hgk h6
      have g0 := GB.out.cell 0; have g1 := GB.out.cell 1; have g2 := GB.out.cell 2; have g3 := GB.out.cell 3; have g4 := GB.out.cell 4; have g5 := GB.out.cell 5; simp only [docCells, eDoc, Doc.kind, Doc.text, Doc.brk, Doc.id, Doc.width, List.getElem?_cons_zero, List.getElem?_cons_succ] at g0 g1 g2 g3 g4 g5
      go_wp2_with fail
      refine (check_any (eDoc 7 [D]) (.slice (some ⟨g, 0, none⟩) 1 1) _ GK.out HG7.out (HT.out.below T6.out.one.below)).mono ?_
      rintro e w7 ⟨rfl, hb7⟩
      have T7 := Lib.hid (T6.out.next hb7)
      have GB7 := Lib.hid (GB.out.below hb7)
      have GK7 := Lib.hid ((GK.out.below hb7 (Nat.le_refl _)).wide (Nat.le_refl _) hb7.size)
      clear hb7 g0 g1 g2 g3 g4 g5
      obtain ⟨cd, hcd⟩ : ∃ z, z = (eDoc 7 [D]).code := ⟨_, rfl⟩
      rw [← hcd]
      have HCD := Lib.hid hcd
      clear hcd
      obtain ⟨qb, hqv⟩ : ∃ z, D.quiet = z := ⟨_, rfl⟩
      have HQV := Lib.hid hqv
      obtain ⟨m, hm⟩ : ∃ z, z = widthB S := ⟨_, rfl⟩
      have HM := Lib.hid hm
      clear hm hqv
      go_upto_region 13 with fail
      refine wp_region_below w7.heap.size (by kernel_rfl) (by kernel_rfl) ?_
      repeat (first | go_big_quiet_skip | (go_big_quiet_want; go_big_quiet_op; (first | go_big_quiet_on | (refine Exists.intro _ ⟨fun _ _ => rfl, ?_⟩; go_big_quiet_on) | (apply Exists.intro; refine ⟨fun wq hq => ?_, ?_⟩; (first | (go_at_call 17; refine (num_any _ _).mono ?_; rintro e wz ⟨rfl, rfl⟩; exact ⟨rfl, hq⟩) | (go_at_call 31; refine (quietIn_any D kd wq (T7.out.next hq).one.kd HA.out).mono ?_; rintro e wz ⟨rfl, hbz⟩; rw [HQV.out]; exact ⟨rfl, hq.call hbz⟩) | (go_at_call 32; refine (width_any S wq (by omega)).mono ?_; rintro e wz ⟨rfl, hbz⟩; rw [← HM.out]; exact ⟨rfl, hq.call hbz⟩) | (have Tq := Lib.hid (T7.out.next hq); have a0 := Tq.out.one.bd.cell 0; have a1 := Tq.out.one.bd.cell 1; have a2 := Tq.out.one.bd.cell 2; have a3 := Tq.out.one.bd.cell 3; have a4 := Tq.out.one.bd.cell 4; have a5 := Tq.out.one.bd.cell 5; have o0 := Tq.out.ob.cell 0; simp only [docCells, OptV.cells, HOV.out, List.getElem?_cons_zero, List.getElem?_cons_succ] at a0 a1 a2 a3 a4 a5 o0; go_simp; rfl)); go_big_quiet_on))))
      refine wpQuiet_nil ?_
      intro wq hq
      have T9 := Lib.hid (T7.out.next hq)
      have GB9 := Lib.hid (GB7.out.below hq)
      have GK9 := Lib.hid ((GK7.out.below hq (Nat.le_refl _)).wide (Nat.le_refl _) hq.size)
      clear hq
      go_wp2_with fail
      go_ret
      exact ⟨rfl, T9.out.one.below⟩
  case true =>
    have a0 := T4.out.one.bd.cell 0; have a1 := T4.out.one.bd.cell 1; have a2 := T4.out.one.bd.cell 2; have a3 := T4.out.one.bd.cell 3; have a4 := T4.out.one.bd.cell 4; have a5 := T4.out.one.bd.cell 5; simp only [docCells, List.getElem?_cons_zero, List.getElem?_cons_succ] at a0 a1 a2 a3 a4 a5
    go_wp2_with fail
    refine (plainIn_any D kd _ T4.out.one.kd HA.out).mono ?_
    rintro e w5 ⟨rfl, hb5⟩
    have T5a := Lib.hid (T4.out.next hb5)
    clear hb5 a0 a1 a2 a3 a4 a5
    cases hpl : D.plain
    case false =>
      clear hpl
      have T5 := Lib.hid T5a.out
      obtain ⟨w5, hw5⟩ : ∃ z, z = w5 := ⟨_, rfl⟩
      rw [← hw5] at T5 ⊢
      clear hw5
      have a0 := T5.out.one.bd.cell 0; have a1 := T5.out.one.bd.cell 1; have a2 := T5.out.one.bd.cell 2; have a3 := T5.out.one.bd.cell 3; have a4 := T5.out.one.bd.cell 4; have a5 := T5.out.one.bd.cell 5; simp only [docCells, List.getElem?_cons_zero, List.getElem?_cons_succ] at a0 a1 a2 a3 a4 a5
      go_upto_region 11 with fail
      have hz5 : w.heap.size < w5.heap.size := T5.out.one.bd.lt
      have d0 : ∀ o1 : Obj, (w5.alloc o1).cell? ⟨w.heap.size, 0, none⟩ = some (.int .i64 D.kind) := fun o1 => (alloc_cellF w5 o1 _ (by simp; omega)).trans a0
      have d1 : ∀ o1 : Obj, (w5.alloc o1).cell? ⟨w.heap.size, 1, none⟩ = some (.string D.text) := fun o1 => (alloc_cellF w5 o1 _ (by simp; omega)).trans a1
      have d2 : ∀ o1 : Obj, (w5.alloc o1).cell? ⟨w.heap.size, 2, none⟩ = some (kd) := fun o1 => (alloc_cellF w5 o1 _ (by simp; omega)).trans a2
      have d3 : ∀ o1 : Obj, (w5.alloc o1).cell? ⟨w.heap.size, 3, none⟩ = some (.bool D.brk) := fun o1 => (alloc_cellF w5 o1 _ (by simp; omega)).trans a3
      have d4 : ∀ o1 : Obj, (w5.alloc o1).cell? ⟨w.heap.size, 4, none⟩ = some (.int .i64 D.id) := fun o1 => (alloc_cellF w5 o1 _ (by simp; omega)).trans a4
      have d5 : ∀ o1 : Obj, (w5.alloc o1).cell? ⟨w.heap.size, 5, none⟩ = some (.int .i64 D.width) := fun o1 => (alloc_cellF w5 o1 _ (by simp; omega)).trans a5
      go_cut [12] from 12 (fun (s12 : Value) (wd : World) => ∃ gb g, s12 = .pointer (some ⟨gb, 0, none⟩) ∧ Blk wd gb (docCells (eDoc 7 [D]) (.slice (some ⟨g, 0, none⟩) 1 1)) 24 ∧ KV wd 0 wd.heap.size (eDoc 7 [D]) (.slice (some ⟨g, 0, none⟩) 1 1) ∧ Two w D kd b ov wd)
      case first =>
        go_wp2_with fail
        go_meet
        case rel => exact ⟨_, _, rfl, two_group T5.out⟩
      case rest =>
        clear a0 a1 a2 a3 a4 a5 d0 d1 d2 d3 d4 d5
        obtain ⟨gb, g, rfl, hgb, hgk, h6⟩ := hcut
        obtain ⟨w6, rfl⟩ : ∃ wo : World, wo = wc := ⟨_, rfl⟩
        have T6 := Lib.hid h6
        have GB := Lib.hid hgb
        have GK := Lib.hid hgk
        have HG7 : Hid ((eDoc 7 [D]).bulk ≤ 4194304) := Lib.hid (by rw [one_bulk]; have := HB.out; omega)
        clear hgb hgk h6
        have g0 := GB.out.cell 0; have g1 := GB.out.cell 1; have g2 := GB.out.cell 2; have g3 := GB.out.cell 3; have g4 := GB.out.cell 4; have g5 := GB.out.cell 5; simp only [docCells, eDoc, Doc.kind, Doc.text, Doc.brk, Doc.id, Doc.width, List.getElem?_cons_zero, List.getElem?_cons_succ] at g0 g1 g2 g3 g4 g5
        go_wp2_with fail
        refine (check_any (eDoc 7 [D]) (.slice (some ⟨g, 0, none⟩) 1 1) _ GK.out HG7.out (HT.out.below T6.out.one.below)).mono ?_
        rintro e w7 ⟨rfl, hb7⟩
        have T7 := Lib.hid (T6.out.next hb7)
        have GB7 := Lib.hid (GB.out.below hb7)
        have GK7 := Lib.hid ((GK.out.below hb7 (Nat.le_refl _)).wide (Nat.le_refl _) hb7.size)
        clear hb7 g0 g1 g2 g3 g4 g5
        obtain ⟨cd, hcd⟩ : ∃ z, z = (eDoc 7 [D]).code := ⟨_, rfl⟩
        rw [← hcd]
        have HCD := Lib.hid hcd
        clear hcd
        obtain ⟨qb, hqv⟩ : ∃ z, D.quiet = z := ⟨_, rfl⟩
        have HQV := Lib.hid hqv
        obtain ⟨m, hm⟩ : ∃ z, z = widthB S := ⟨_, rfl⟩
        have HM := Lib.hid hm
        clear hm hqv
        go_upto_region 13 with fail
        cases qb
        case false =>
          refine wp_region_below w7.heap.size (by kernel_rfl) (by kernel_rfl) ?_
          repeat (first | go_big_quiet_skip | (go_big_quiet_want; go_big_quiet_op; (first | go_big_quiet_on | (refine Exists.intro _ ⟨fun _ _ => rfl, ?_⟩; go_big_quiet_on) | (apply Exists.intro; refine ⟨fun wq hq => ?_, ?_⟩; (first | (go_at_call 17; refine (num_any _ _).mono ?_; rintro e wz ⟨rfl, rfl⟩; exact ⟨rfl, hq⟩) | (go_at_call 31; refine (quietIn_any D kd wq (T7.out.next hq).one.kd HA.out).mono ?_; rintro e wz ⟨rfl, hbz⟩; rw [HQV.out]; exact ⟨rfl, hq.call hbz⟩) | (go_at_call 32; refine (width_any S wq (by omega)).mono ?_; rintro e wz ⟨rfl, hbz⟩; rw [← HM.out]; exact ⟨rfl, hq.call hbz⟩) | (have Tq := Lib.hid (T7.out.next hq); have a0 := Tq.out.one.bd.cell 0; have a1 := Tq.out.one.bd.cell 1; have a2 := Tq.out.one.bd.cell 2; have a3 := Tq.out.one.bd.cell 3; have a4 := Tq.out.one.bd.cell 4; have a5 := Tq.out.one.bd.cell 5; have o0 := Tq.out.ob.cell 0; simp only [docCells, OptV.cells, HOV.out, List.getElem?_cons_zero, List.getElem?_cons_succ] at a0 a1 a2 a3 a4 a5 o0; go_simp; rfl)); go_big_quiet_on))))
          refine wpQuiet_nil ?_
          intro wq hq
          have T9 := Lib.hid (T7.out.next hq)
          have GB9 := Lib.hid (GB7.out.below hq)
          have GK9 := Lib.hid ((GK7.out.below hq (Nat.le_refl _)).wide (Nat.le_refl _) hq.size)
          clear hq
          go_wp2_with fail
          go_ret
          exact ⟨rfl, T9.out.one.below⟩
        case true =>
          by_cases hlt : (wn : Int) < (m : Int)
          · have hld : decide ((wn : Int) < (m : Int)) = true := by simpa using hlt
            refine wp_region_below w7.heap.size (by kernel_rfl) (by kernel_rfl) ?_
            repeat (first | go_big_quiet_skip | (go_big_quiet_want; go_big_quiet_op; (first | go_big_quiet_on | (refine Exists.intro _ ⟨fun _ _ => rfl, ?_⟩; go_big_quiet_on) | (apply Exists.intro; refine ⟨fun wq hq => ?_, ?_⟩; (first | (go_at_call 17; refine (num_any _ _).mono ?_; rintro e wz ⟨rfl, rfl⟩; exact ⟨rfl, hq⟩) | (go_at_call 31; refine (quietIn_any D kd wq (T7.out.next hq).one.kd HA.out).mono ?_; rintro e wz ⟨rfl, hbz⟩; rw [HQV.out]; exact ⟨rfl, hq.call hbz⟩) | (go_at_call 32; refine (width_any S wq (by omega)).mono ?_; rintro e wz ⟨rfl, hbz⟩; rw [← HM.out]; exact ⟨rfl, hq.call hbz⟩) | (have Tq := Lib.hid (T7.out.next hq); have a0 := Tq.out.one.bd.cell 0; have a1 := Tq.out.one.bd.cell 1; have a2 := Tq.out.one.bd.cell 2; have a3 := Tq.out.one.bd.cell 3; have a4 := Tq.out.one.bd.cell 4; have a5 := Tq.out.one.bd.cell 5; have o0 := Tq.out.ob.cell 0; simp only [docCells, OptV.cells, HOV.out, List.getElem?_cons_zero, List.getElem?_cons_succ] at a0 a1 a2 a3 a4 a5 o0; go_simp; rfl)); go_big_quiet_on))))
            refine wpQuiet_nil ?_
            intro wq hq
            have T9 := Lib.hid (T7.out.next hq)
            have GB9 := Lib.hid (GB7.out.below hq)
            have GK9 := Lib.hid ((GK7.out.below hq (Nat.le_refl _)).wide (Nat.le_refl _) hq.size)
            clear hq
            go_wp2_with fail
            go_ret
            exact ⟨rfl, T9.out.one.below⟩
          · have hle : (m : Int) ≤ (wn : Int) := by omega
            have hld : decide ((wn : Int) < (m : Int)) = false := by simpa using hlt
            by_cases hc : cd = 0
            · subst hc
              have hl := group_lay (g := eDoc 7 [D]) rfl (HOK2.out (by simp)) (by have := HQV.out; simpa using this) (by have := HSA.out; omega) ov.o (by rw [HOV.out]; have h1 := HWN.out; simp [optOk]; omega) (by rw [← HSE.out, ← HM.out, HOV.out]; exact hle) HCD.out.symm
              rw [← HSE.out] at hl
              have HL7 := Lib.hid hl
              clear hl
              refine wp_region_below w7.heap.size (by kernel_rfl) (by kernel_rfl) ?_
              repeat (first | go_big_quiet_skip | (go_big_quiet_want; go_big_quiet_op; (first | go_big_quiet_on | (refine Exists.intro _ ⟨fun _ _ => rfl, ?_⟩; go_big_quiet_on) | (apply Exists.intro; refine ⟨fun wq hq => ?_, ?_⟩; (first | (go_at_call 17; refine (num_any _ _).mono ?_; rintro e wz ⟨rfl, rfl⟩; exact ⟨rfl, hq⟩) | (go_at_call 31; refine (quietIn_any D kd wq (T7.out.next hq).one.kd HA.out).mono ?_; rintro e wz ⟨rfl, hbz⟩; rw [HQV.out]; exact ⟨rfl, hq.call hbz⟩) | (go_at_call 32; refine (width_any S wq (by omega)).mono ?_; rintro e wz ⟨rfl, hbz⟩; rw [← HM.out]; exact ⟨rfl, hq.call hbz⟩) | (have Tq := Lib.hid (T7.out.next hq); have a0 := Tq.out.one.bd.cell 0; have a1 := Tq.out.one.bd.cell 1; have a2 := Tq.out.one.bd.cell 2; have a3 := Tq.out.one.bd.cell 3; have a4 := Tq.out.one.bd.cell 4; have a5 := Tq.out.one.bd.cell 5; have o0 := Tq.out.ob.cell 0; simp only [docCells, OptV.cells, HOV.out, List.getElem?_cons_zero, List.getElem?_cons_succ] at a0 a1 a2 a3 a4 a5 o0; go_simp; rfl)); go_big_quiet_on))))
              refine wpQuiet_nil ?_
              intro wq hq
              have T9 := Lib.hid (T7.out.next hq)
              have GB9 := Lib.hid (GB7.out.below hq)
              have GK9 := Lib.hid ((GK7.out.below hq (Nat.le_refl _)).wide (Nat.le_refl _) hq.size)
              clear hq
              have g0 := GB9.out.cell 0; have g1 := GB9.out.cell 1; have g2 := GB9.out.cell 2; have g3 := GB9.out.cell 3; have g4 := GB9.out.cell 4; have g5 := GB9.out.cell 5; simp only [docCells, eDoc, Doc.kind, Doc.text, Doc.brk, Doc.id, Doc.width, List.getElem?_cons_zero, List.getElem?_cons_succ] at g0 g1 g2 g3 g4 g5
              have o0 := T9.out.ob.cell 0; have o1 := T9.out.ob.cell 1; have o2 := T9.out.ob.cell 2; have o3 := T9.out.ob.cell 3; have o4 := T9.out.ob.cell 4; have o5 := T9.out.ob.cell 5; have o6 := T9.out.ob.cell 6; have o7 := T9.out.ob.cell 7; have o8 := T9.out.ob.cell 8; simp only [OptV.cells, HOV.out, List.getElem?_cons_zero, List.getElem?_cons_succ] at o0 o1 o2 o3 o4 o5 o6 o7 o8
              go_wp2_with fail
              have HLZ := Lib.hid (layout_any (eDoc 7 [D]) (.slice (some ⟨g, 0, none⟩) 1 1) ov wq GK9.out HG7.out (HT.out.below T9.out.one.below))
              rw [HL7.out.1, HL7.out.2] at HLZ
              unfold OptV.cells at HLZ
              rw [HOV.out] at HLZ
              refine HLZ.out.mono ?_
              rintro e w10 ⟨rfl, hb10⟩
              have T10 := Lib.hid (T9.out.next hb10)
              have hss2 : (S.toList == S.toList) = true := by simp
              clear hb10 HLZ g0 g1 g2 g3 g4 g5 o0 o1 o2 o3 o4 o5 o6 o7 o8
              go_wp2_with (go_at_call 17; refine (num_any _ _).mono ?_; rintro e wq ⟨rfl, rfl⟩)
              go_ret
              exact ⟨rfl, T10.out.one.below⟩
            · have hne : (cd == 0) = false := by simp [hc]
              have hne2 : (cd != 0) = true := by simp [hc]
              have HC := Lib.hid hc
              clear hc
              refine wp_region_below w7.heap.size (by kernel_rfl) (by kernel_rfl) ?_
              repeat (first | go_big_quiet_skip | (go_big_quiet_want; go_big_quiet_op; (first | go_big_quiet_on | (refine Exists.intro _ ⟨fun _ _ => rfl, ?_⟩; go_big_quiet_on) | (apply Exists.intro; refine ⟨fun wq hq => ?_, ?_⟩; (first | (go_at_call 17; refine (num_any _ _).mono ?_; rintro e wz ⟨rfl, rfl⟩; exact ⟨rfl, hq⟩) | (go_at_call 31; refine (quietIn_any D kd wq (T7.out.next hq).one.kd HA.out).mono ?_; rintro e wz ⟨rfl, hbz⟩; rw [HQV.out]; exact ⟨rfl, hq.call hbz⟩) | (go_at_call 32; refine (width_any S wq (by omega)).mono ?_; rintro e wz ⟨rfl, hbz⟩; rw [← HM.out]; exact ⟨rfl, hq.call hbz⟩) | (have Tq := Lib.hid (T7.out.next hq); have a0 := Tq.out.one.bd.cell 0; have a1 := Tq.out.one.bd.cell 1; have a2 := Tq.out.one.bd.cell 2; have a3 := Tq.out.one.bd.cell 3; have a4 := Tq.out.one.bd.cell 4; have a5 := Tq.out.one.bd.cell 5; have o0 := Tq.out.ob.cell 0; simp only [docCells, OptV.cells, HOV.out, List.getElem?_cons_zero, List.getElem?_cons_succ] at a0 a1 a2 a3 a4 a5 o0; go_simp; rfl)); go_big_quiet_on))))
              refine wpQuiet_nil ?_
              intro wq hq
              have T9 := Lib.hid (T7.out.next hq)
              have GB9 := Lib.hid (GB7.out.below hq)
              have GK9 := Lib.hid ((GK7.out.below hq (Nat.le_refl _)).wide (Nat.le_refl _) hq.size)
              clear hq
              go_wp2_with fail
              go_ret
              exact ⟨rfl, T9.out.one.below⟩
    case true =>
      have hl := plain_lay (HOK2.out (by simp)) hpl (by have := HSA.out; omega) ov.o (by rw [HOV.out]; have h1 := HWN.out; simp [optOk]; omega)
      rw [← HSE.out] at hl
      have HL := Lib.hid hl
      clear hpl hl
      have hmo : (S.size : Int) ≤ 67108864 := by omega
      have a0 := T5a.out.one.bd.cell 0; have a1 := T5a.out.one.bd.cell 1; have a2 := T5a.out.one.bd.cell 2; have a3 := T5a.out.one.bd.cell 3; have a4 := T5a.out.one.bd.cell 4; have a5 := T5a.out.one.bd.cell 5; simp only [docCells, List.getElem?_cons_zero, List.getElem?_cons_succ] at a0 a1 a2 a3 a4 a5
      have o0 := T5a.out.ob.cell 0; have o1 := T5a.out.ob.cell 1; have o2 := T5a.out.ob.cell 2; have o3 := T5a.out.ob.cell 3; have o4 := T5a.out.ob.cell 4; have o5 := T5a.out.ob.cell 5; have o6 := T5a.out.ob.cell 6; have o7 := T5a.out.ob.cell 7; have o8 := T5a.out.ob.cell 8; simp only [OptV.cells, HOV.out, List.getElem?_cons_zero, List.getElem?_cons_succ] at o0 o1 o2 o3 o4 o5 o6 o7 o8
      go_wp2_with fail
      have HLY := Lib.hid (layout_any D kd ov w5 T5a.out.one.kd HA.out (HT.out.below T5a.out.one.below))
      rw [HL.out.1, HL.out.2] at HLY
      unfold OptV.cells at HLY
      rw [HOV.out] at HLY
      refine HLY.out.mono ?_
      rintro e w6 ⟨rfl, hb6⟩
      have T6a := Lib.hid (T5a.out.next hb6)
      have hss : (S.toList != S.toList) = false := by simp
      clear hb6 HLY a0 a1 a2 a3 a4 a5 o0 o1 o2 o3 o4 o5 o6 o7 o8
      have T5 := Lib.hid T6a.out
      obtain ⟨w5, hw5⟩ : ∃ z, z = w6 := ⟨_, rfl⟩
      rw [← hw5] at T5 ⊢
      clear hw5
      have a0 := T5.out.one.bd.cell 0; have a1 := T5.out.one.bd.cell 1; have a2 := T5.out.one.bd.cell 2; have a3 := T5.out.one.bd.cell 3; have a4 := T5.out.one.bd.cell 4; have a5 := T5.out.one.bd.cell 5; simp only [docCells, List.getElem?_cons_zero, List.getElem?_cons_succ] at a0 a1 a2 a3 a4 a5
      go_upto_region 11 with (go_at_call 17; refine (num_any _ _).mono ?_; rintro e w9 ⟨rfl, rfl⟩)
      have hz5 : w.heap.size < w5.heap.size := T5.out.one.bd.lt
      have d0 : ∀ o1 : Obj, (w5.alloc o1).cell? ⟨w.heap.size, 0, none⟩ = some (.int .i64 D.kind) := fun o1 => (alloc_cellF w5 o1 _ (by simp; omega)).trans a0
      have d1 : ∀ o1 : Obj, (w5.alloc o1).cell? ⟨w.heap.size, 1, none⟩ = some (.string D.text) := fun o1 => (alloc_cellF w5 o1 _ (by simp; omega)).trans a1
      have d2 : ∀ o1 : Obj, (w5.alloc o1).cell? ⟨w.heap.size, 2, none⟩ = some (kd) := fun o1 => (alloc_cellF w5 o1 _ (by simp; omega)).trans a2
      have d3 : ∀ o1 : Obj, (w5.alloc o1).cell? ⟨w.heap.size, 3, none⟩ = some (.bool D.brk) := fun o1 => (alloc_cellF w5 o1 _ (by simp; omega)).trans a3
      have d4 : ∀ o1 : Obj, (w5.alloc o1).cell? ⟨w.heap.size, 4, none⟩ = some (.int .i64 D.id) := fun o1 => (alloc_cellF w5 o1 _ (by simp; omega)).trans a4
      have d5 : ∀ o1 : Obj, (w5.alloc o1).cell? ⟨w.heap.size, 5, none⟩ = some (.int .i64 D.width) := fun o1 => (alloc_cellF w5 o1 _ (by simp; omega)).trans a5
      go_cut [12] from 12 (fun (s12 : Value) (wd : World) => ∃ gb g, s12 = .pointer (some ⟨gb, 0, none⟩) ∧ Blk wd gb (docCells (eDoc 7 [D]) (.slice (some ⟨g, 0, none⟩) 1 1)) 24 ∧ KV wd 0 wd.heap.size (eDoc 7 [D]) (.slice (some ⟨g, 0, none⟩) 1 1) ∧ Two w D kd b ov wd)
      case first =>
        go_wp2_with fail
        go_meet
        case rel => exact ⟨_, _, rfl, two_group T5.out⟩
      case rest =>
        clear a0 a1 a2 a3 a4 a5 d0 d1 d2 d3 d4 d5
        obtain ⟨gb, g, rfl, hgb, hgk, h6⟩ := hcut
        obtain ⟨w6, rfl⟩ : ∃ wo : World, wo = wc := ⟨_, rfl⟩
        have T6 := Lib.hid h6
        have GB := Lib.hid hgb
        have GK := Lib.hid hgk
        have HG7 : Hid ((eDoc 7 [D]).bulk ≤ 4194304) := Lib.hid (by rw [one_bulk]; have := HB.out; omega)
        clear hgb hgk h6
        have g0 := GB.out.cell 0; have g1 := GB.out.cell 1; have g2 := GB.out.cell 2; have g3 := GB.out.cell 3; have g4 := GB.out.cell 4; have g5 := GB.out.cell 5; simp only [docCells, eDoc, Doc.kind, Doc.text, Doc.brk, Doc.id, Doc.width, List.getElem?_cons_zero, List.getElem?_cons_succ] at g0 g1 g2 g3 g4 g5
        go_wp2_with fail
        refine (check_any (eDoc 7 [D]) (.slice (some ⟨g, 0, none⟩) 1 1) _ GK.out HG7.out (HT.out.below T6.out.one.below)).mono ?_
        rintro e w7 ⟨rfl, hb7⟩
        have T7 := Lib.hid (T6.out.next hb7)
        have GB7 := Lib.hid (GB.out.below hb7)
        have GK7 := Lib.hid ((GK.out.below hb7 (Nat.le_refl _)).wide (Nat.le_refl _) hb7.size)
        clear hb7 g0 g1 g2 g3 g4 g5
        obtain ⟨cd, hcd⟩ : ∃ z, z = (eDoc 7 [D]).code := ⟨_, rfl⟩
        rw [← hcd]
        have HCD := Lib.hid hcd
        clear hcd
        obtain ⟨qb, hqv⟩ : ∃ z, D.quiet = z := ⟨_, rfl⟩
        have HQV := Lib.hid hqv
        obtain ⟨m, hm⟩ : ∃ z, z = widthB S := ⟨_, rfl⟩
        have HM := Lib.hid hm
        clear hm hqv
        go_upto_region 13 with fail
        cases qb
        case false =>
          refine wp_region_below w7.heap.size (by kernel_rfl) (by kernel_rfl) ?_
          repeat (first | go_big_quiet_skip | (go_big_quiet_want; go_big_quiet_op; (first | go_big_quiet_on | (refine Exists.intro _ ⟨fun _ _ => rfl, ?_⟩; go_big_quiet_on) | (apply Exists.intro; refine ⟨fun wq hq => ?_, ?_⟩; (first | (go_at_call 17; refine (num_any _ _).mono ?_; rintro e wz ⟨rfl, rfl⟩; exact ⟨rfl, hq⟩) | (go_at_call 31; refine (quietIn_any D kd wq (T7.out.next hq).one.kd HA.out).mono ?_; rintro e wz ⟨rfl, hbz⟩; rw [HQV.out]; exact ⟨rfl, hq.call hbz⟩) | (go_at_call 32; refine (width_any S wq (by omega)).mono ?_; rintro e wz ⟨rfl, hbz⟩; rw [← HM.out]; exact ⟨rfl, hq.call hbz⟩) | (have Tq := Lib.hid (T7.out.next hq); have a0 := Tq.out.one.bd.cell 0; have a1 := Tq.out.one.bd.cell 1; have a2 := Tq.out.one.bd.cell 2; have a3 := Tq.out.one.bd.cell 3; have a4 := Tq.out.one.bd.cell 4; have a5 := Tq.out.one.bd.cell 5; have o0 := Tq.out.ob.cell 0; simp only [docCells, OptV.cells, HOV.out, List.getElem?_cons_zero, List.getElem?_cons_succ] at a0 a1 a2 a3 a4 a5 o0; go_simp; rfl)); go_big_quiet_on))))
          refine wpQuiet_nil ?_
          intro wq hq
          have T9 := Lib.hid (T7.out.next hq)
          have GB9 := Lib.hid (GB7.out.below hq)
          have GK9 := Lib.hid ((GK7.out.below hq (Nat.le_refl _)).wide (Nat.le_refl _) hq.size)
          clear hq
          go_wp2_with fail
          go_ret
          exact ⟨rfl, T9.out.one.below⟩
        case true =>
          by_cases hlt : (wn : Int) < (m : Int)
          · have hld : decide ((wn : Int) < (m : Int)) = true := by simpa using hlt
            refine wp_region_below w7.heap.size (by kernel_rfl) (by kernel_rfl) ?_
            repeat (first | go_big_quiet_skip | (go_big_quiet_want; go_big_quiet_op; (first | go_big_quiet_on | (refine Exists.intro _ ⟨fun _ _ => rfl, ?_⟩; go_big_quiet_on) | (apply Exists.intro; refine ⟨fun wq hq => ?_, ?_⟩; (first | (go_at_call 17; refine (num_any _ _).mono ?_; rintro e wz ⟨rfl, rfl⟩; exact ⟨rfl, hq⟩) | (go_at_call 31; refine (quietIn_any D kd wq (T7.out.next hq).one.kd HA.out).mono ?_; rintro e wz ⟨rfl, hbz⟩; rw [HQV.out]; exact ⟨rfl, hq.call hbz⟩) | (go_at_call 32; refine (width_any S wq (by omega)).mono ?_; rintro e wz ⟨rfl, hbz⟩; rw [← HM.out]; exact ⟨rfl, hq.call hbz⟩) | (have Tq := Lib.hid (T7.out.next hq); have a0 := Tq.out.one.bd.cell 0; have a1 := Tq.out.one.bd.cell 1; have a2 := Tq.out.one.bd.cell 2; have a3 := Tq.out.one.bd.cell 3; have a4 := Tq.out.one.bd.cell 4; have a5 := Tq.out.one.bd.cell 5; have o0 := Tq.out.ob.cell 0; simp only [docCells, OptV.cells, HOV.out, List.getElem?_cons_zero, List.getElem?_cons_succ] at a0 a1 a2 a3 a4 a5 o0; go_simp; rfl)); go_big_quiet_on))))
            refine wpQuiet_nil ?_
            intro wq hq
            have T9 := Lib.hid (T7.out.next hq)
            have GB9 := Lib.hid (GB7.out.below hq)
            have GK9 := Lib.hid ((GK7.out.below hq (Nat.le_refl _)).wide (Nat.le_refl _) hq.size)
            clear hq
            go_wp2_with fail
            go_ret
            exact ⟨rfl, T9.out.one.below⟩
          · have hle : (m : Int) ≤ (wn : Int) := by omega
            have hld : decide ((wn : Int) < (m : Int)) = false := by simpa using hlt
            by_cases hc : cd = 0
            · subst hc
              have hl := group_lay (g := eDoc 7 [D]) rfl (HOK2.out (by simp)) (by have := HQV.out; simpa using this) (by have := HSA.out; omega) ov.o (by rw [HOV.out]; have h1 := HWN.out; simp [optOk]; omega) (by rw [← HSE.out, ← HM.out, HOV.out]; exact hle) HCD.out.symm
              rw [← HSE.out] at hl
              have HL7 := Lib.hid hl
              clear hl
              refine wp_region_below w7.heap.size (by kernel_rfl) (by kernel_rfl) ?_
              repeat (first | go_big_quiet_skip | (go_big_quiet_want; go_big_quiet_op; (first | go_big_quiet_on | (refine Exists.intro _ ⟨fun _ _ => rfl, ?_⟩; go_big_quiet_on) | (apply Exists.intro; refine ⟨fun wq hq => ?_, ?_⟩; (first | (go_at_call 17; refine (num_any _ _).mono ?_; rintro e wz ⟨rfl, rfl⟩; exact ⟨rfl, hq⟩) | (go_at_call 31; refine (quietIn_any D kd wq (T7.out.next hq).one.kd HA.out).mono ?_; rintro e wz ⟨rfl, hbz⟩; rw [HQV.out]; exact ⟨rfl, hq.call hbz⟩) | (go_at_call 32; refine (width_any S wq (by omega)).mono ?_; rintro e wz ⟨rfl, hbz⟩; rw [← HM.out]; exact ⟨rfl, hq.call hbz⟩) | (have Tq := Lib.hid (T7.out.next hq); have a0 := Tq.out.one.bd.cell 0; have a1 := Tq.out.one.bd.cell 1; have a2 := Tq.out.one.bd.cell 2; have a3 := Tq.out.one.bd.cell 3; have a4 := Tq.out.one.bd.cell 4; have a5 := Tq.out.one.bd.cell 5; have o0 := Tq.out.ob.cell 0; simp only [docCells, OptV.cells, HOV.out, List.getElem?_cons_zero, List.getElem?_cons_succ] at a0 a1 a2 a3 a4 a5 o0; go_simp; rfl)); go_big_quiet_on))))
              refine wpQuiet_nil ?_
              intro wq hq
              have T9 := Lib.hid (T7.out.next hq)
              have GB9 := Lib.hid (GB7.out.below hq)
              have GK9 := Lib.hid ((GK7.out.below hq (Nat.le_refl _)).wide (Nat.le_refl _) hq.size)
              clear hq
              have g0 := GB9.out.cell 0; have g1 := GB9.out.cell 1; have g2 := GB9.out.cell 2; have g3 := GB9.out.cell 3; have g4 := GB9.out.cell 4; have g5 := GB9.out.cell 5; simp only [docCells, eDoc, Doc.kind, Doc.text, Doc.brk, Doc.id, Doc.width, List.getElem?_cons_zero, List.getElem?_cons_succ] at g0 g1 g2 g3 g4 g5
              have o0 := T9.out.ob.cell 0; have o1 := T9.out.ob.cell 1; have o2 := T9.out.ob.cell 2; have o3 := T9.out.ob.cell 3; have o4 := T9.out.ob.cell 4; have o5 := T9.out.ob.cell 5; have o6 := T9.out.ob.cell 6; have o7 := T9.out.ob.cell 7; have o8 := T9.out.ob.cell 8; simp only [OptV.cells, HOV.out, List.getElem?_cons_zero, List.getElem?_cons_succ] at o0 o1 o2 o3 o4 o5 o6 o7 o8
              go_wp2_with fail
              have HLZ := Lib.hid (layout_any (eDoc 7 [D]) (.slice (some ⟨g, 0, none⟩) 1 1) ov wq GK9.out HG7.out (HT.out.below T9.out.one.below))
              rw [HL7.out.1, HL7.out.2] at HLZ
              unfold OptV.cells at HLZ
              rw [HOV.out] at HLZ
              refine HLZ.out.mono ?_
              rintro e w10 ⟨rfl, hb10⟩
              have T10 := Lib.hid (T9.out.next hb10)
              have hss2 : (S.toList == S.toList) = true := by simp
              clear hb10 HLZ g0 g1 g2 g3 g4 g5 o0 o1 o2 o3 o4 o5 o6 o7 o8
              go_wp2_with (go_at_call 17; refine (num_any _ _).mono ?_; rintro e wq ⟨rfl, rfl⟩)
              go_ret
              exact ⟨rfl, T10.out.one.below⟩
            · have hne : (cd == 0) = false := by simp [hc]
              have hne2 : (cd != 0) = true := by simp [hc]
              have HC := Lib.hid hc
              clear hc
              refine wp_region_below w7.heap.size (by kernel_rfl) (by kernel_rfl) ?_
              repeat (first | go_big_quiet_skip | (go_big_quiet_want; go_big_quiet_op; (first | go_big_quiet_on | (refine Exists.intro _ ⟨fun _ _ => rfl, ?_⟩; go_big_quiet_on) | (apply Exists.intro; refine ⟨fun wq hq => ?_, ?_⟩; (first | (go_at_call 17; refine (num_any _ _).mono ?_; rintro e wz ⟨rfl, rfl⟩; exact ⟨rfl, hq⟩) | (go_at_call 31; refine (quietIn_any D kd wq (T7.out.next hq).one.kd HA.out).mono ?_; rintro e wz ⟨rfl, hbz⟩; rw [HQV.out]; exact ⟨rfl, hq.call hbz⟩) | (go_at_call 32; refine (width_any S wq (by omega)).mono ?_; rintro e wz ⟨rfl, hbz⟩; rw [← HM.out]; exact ⟨rfl, hq.call hbz⟩) | (have Tq := Lib.hid (T7.out.next hq); have a0 := Tq.out.one.bd.cell 0; have a1 := Tq.out.one.bd.cell 1; have a2 := Tq.out.one.bd.cell 2; have a3 := Tq.out.one.bd.cell 3; have a4 := Tq.out.one.bd.cell 4; have a5 := Tq.out.one.bd.cell 5; have o0 := Tq.out.ob.cell 0; simp only [docCells, OptV.cells, HOV.out, List.getElem?_cons_zero, List.getElem?_cons_succ] at a0 a1 a2 a3 a4 a5 o0; go_simp; rfl)); go_big_quiet_on))))
              refine wpQuiet_nil ?_
              intro wq hq
              have T9 := Lib.hid (T7.out.next hq)
              have GB9 := Lib.hid (GB7.out.below hq)
              have GK9 := Lib.hid ((GK7.out.below hq (Nat.le_refl _)).wide (Nat.le_refl _) hq.size)
              clear hq
              go_wp2_with fail
              go_ret
              exact ⟨rfl, T9.out.one.below⟩

/-- What the walk gives, for every argument. -/
theorem layoutFlats_contract (H : Type) (enc : TypeId × Value → H) (W : World) (base : Nat) (args : Array Value) (ds gs : List (DataW H)) (before : List MemPlace)
    (hval : ∀ (j : Nat) t v, Tryd.f11.params[j]? = some t → args[j]? = some v → Value.okWide Tryd.prog W .any base t v)
    (hW : DataW.Whole enc Tryd.prog Tryd.f11.params.toList Rows.layoutFlatsSpec.vars false W args.toList ds gs before)
    (hsz : (DataW.weightsEach Tryd.prog (Tryd.f11.params.toList ++ Rows.layoutFlatsSpec.plain.varTypes Tryd.prog) (ds ++ gs)).all (· ≤ reachBytes) = true) (hT : Tabs W) (hc : Rows.uptoSmall H (ds ++ gs) = true) :
    Calls Tryd.prog 11 args W fun e W' => ∃ v, e = .returned v ∧ Rows.layoutFlatsSpec.post enc Tryd.prog Tryd.f11 false true false false W args v W' := by
  have hW' := hW
  obtain ⟨p, q, hA0, hV, rfl, hfz, hnd⟩ := hW
  have hA : DataW.TrodAll enc Tryd.prog W 0 (fun _ => true) true Tryd.f11.params.toList args.toList ds p := hA0
  rw [Tryd.params11] at hA hval hsz
  obtain ⟨v0, vs0, d0, ds0, p0, q0, hargs, rfl, rfl, h0, r0⟩ := trodAll_cons hA
  obtain ⟨v1, vs1, d1, ds1, p1, q1, rfl, rfl, rfl, h1, r1⟩ := trodAll_cons r0
  obtain ⟨v2, vs2, d2, ds2, p2, q2, rfl, rfl, rfl, h2, r2⟩ := trodAll_cons r1
  obtain ⟨rfl, rfl, rfl⟩ := trodAll_nil r2
  obtain rfl : args = #[v0, v1, v2] := by cases args; simp_all
  obtain ⟨rfl, rfl⟩ := trodVars_none hV
  have hlt := fun x hx => hW'.lt x hx
  obtain ⟨a0, y0, rfl, k0, b0⟩ := doc_open (hval 0 24 v0 rfl rfl) h0
  obtain ⟨a1, rfl, rfl, rfl, w1⟩ := open_int Tryd.underlying3 (hval 1 3 v1 rfl rfl) h1
  obtain ⟨a2, rfl, rfl, rfl⟩ := open_bool Tryd.underlying4 (hval 2 4 v2 rfl rfl) h2
  clear hA0 hval
  simp [Rows.uptoSmall, Rows.uptoBulkAll, Rows.uptoBulk] at hc
  refine (layoutFlats_call a0 y0 a1 a2 W k0 w1 (by omega) hT).mono fun e W' ⟨he, hb⟩ => ?_
  subst he
  exact ⟨_, rfl, law_post_any (pv := []) Tryd.underlying4 (by kernel_rfl) hW' rfl (trodAll_cons_mk (Below.trod laidOut (by kernel_rfl) (of_decide_eq_true (by kernel_rfl)) h0 hb (fun x hx => hlt x (by simp [hx]))) (trodAll_cons_mk (shut_int Tryd.underlying3 w1) (trodAll_cons_mk (shut_bool Tryd.underlying4 _) trodAll_mk0))) rfl hb⟩

theorem layoutFlats_reads (os : Os) {H : Type} (enc : TypeId × Value → H) : ∃ places, DataW.whole enc Tryd.prog ((laidWorld os).forCall (fun _ _ => 0) ⟨#[], #[.agg #[.int .i64 0, .string ⟨#[]⟩, .slice none 0 0, .bool false, .int .i64 0, .int .i64 0], .int .i64 0, .bool false], []⟩).memory Tryd.f11.params.toList Rows.layoutFlatsSpec.vars false (#[.agg #[.int .i64 0, .string ⟨#[]⟩, .slice none 0 0, .bool false, .int .i64 0, .int .i64 0], .int .i64 0, .bool false] : Array Value).toList 8 = some ([.agg [.lit (.int .i64 0), .lit (.string []), .nil, .lit (.bool false), .lit (.int .i64 0), .lit (.int .i64 0)], .lit (.int .i64 0), .lit (.bool false)], [], places) :=
  ⟨[], by kernel_rfl⟩
theorem layoutFlats_lifted (os : Os) (started : os.Started) (H : Type) (enc : TypeId × Value → H) (F : Stop.Interp) :
    ReturnsInHanded {} Tryd.checked os 11 .any ((Rows.OpenSpec.upto Rows.layoutFlatsSpec).preRow enc Tryd.prog Tryd.f11 Rows.layoutFlatsUptoRow.domain false Rows.layoutFlatsUptoRow.laid) (((Rows.OpenSpec.upto Rows.layoutFlatsSpec).at F).post enc Tryd.prog Tryd.f11 false true false false) := by
  obtain ⟨places, hx⟩ := layoutFlats_reads os enc
  refine returnsInHanded_of_row (C := Tryd.checked) (s := (Rows.OpenSpec.upto Rows.layoutFlatsSpec)) ownKnob_none started (by kernel_rfl) Tryd.func11
    (witness_row_at (enc := enc) (C := Tryd.checked) false (laidWorld os) #[.agg #[.int .i64 0, .string ⟨#[]⟩, .slice none 0 0, .bool false, .int .i64 0, .int .i64 0], .int .i64 0, .bool false] rfl (by kernel_rfl) (by kernel_rfl) (by kernel_rfl)
      (OpenSpec.preRow_of_cond 8 hx (by kernel_rfl) (fun k hk => by cases hk; kernel_rfl) (by kernel_rfl) (laid_met os _))) ?_
  intro W base args ds gs before hval hW _ hc0 hsz hL _ _
  exact layoutFlats_contract H enc W base args ds gs before hval hW hsz (tabs_of_laid hL) (hc0 _ rfl)
theorem layoutFlats_said : Rows.LayoutFlatsUptoSaid :=
  OpenClaim.holds_of_cond 11 Tryd.f11 rfl rfl rfl rfl rfl rfl rfl ⟨rfl, rfl, rfl, rfl, rfl⟩ rfl rfl rfl rfl rfl (by kernel_rfl) Tryd.func11 (by kernel_rfl)
    (of_decide_eq_true (by kernel_rfl)) (by unfold Func.isWrapper; first | (rw [if_pos (by decide +kernel)]; kernel_rfl) | (rw [if_neg (by decide +kernel)]; exact ⟨rfl, rfl⟩))
    (fun os started H enc _ F => by rw [OpenClaim.pre_eq_preRow]; exact layoutFlats_lifted os started H enc F)
theorem layoutFlats_plain (f : FuncId) (fn : Func) (hf : Tryd.pinned.checked.prog.funcNamed Rows.layoutFlatsRow.func = some f) (hfn : Tryd.pinned.checked.prog.funcs[f]? = some fn) :
    true = Tryd.pinned.checked.prog.looks [] ∧ ∀ (j : Nat) t, fn.params[j]? = some t → Tryd.pinned.checked.prog.wantsStandIn t = false := by
  obtain rfl : f = 11 := Option.some.inj ((show Tryd.prog.funcNamed Rows.layoutFlatsRow.func = some 11 by kernel_rfl).symm.trans hf) |>.symm
  obtain rfl : fn = Tryd.f11 := (Option.some.inj (Tryd.func11.symm.trans hfn)).symm
  refine ⟨by kernel_rfl, fun j t ht => ?_⟩
  rw [Tryd.params11] at ht
  have hm := Array.mem_of_getElem? ht
  have hall : ∀ t ∈ (#[24, 3, 4] : Array TypeId), Tryd.prog.wantsStandIn t = false := by
    intro t ht
    simp only [List.mem_toArray, List.mem_cons, List.mem_nil_iff, or_false] at ht
    rcases ht with rfl | rfl | rfl
    all_goals kernel_rfl
  exact hall t hm

/-- THE CARD. -/
theorem layoutFlats_card : Rows.LayoutFlatsUptoCardSaid :=
  Claim7.holds_tied_plain_at .later [] _ _ _ _ layoutFlats_said (fun _ h => by cases h) (by kernel_rfl) (fun _ h => by cases h) layoutFlatsUpto_row_tie rfl ⟨rfl, rfl⟩ (by kernel_rfl) rfl layoutFlats_plain (by kernel_rfl)
#print axioms layoutFlats_card
end Go.Proofs.YthljgiimdcbfpaaDoor
