/- DocKinds: the walk. -/
import Derived.Test.YtaojlnibkajfbaaDoorDocAwake
import Derived.Deep.RegionHeld3
import Derived.Deep.AppendLies
import Derived.Deep.RegionLaw
import Derived.Deep.CutBlock
namespace Go.Proofs.YtaojlnibkajfbaaDoor
open Go.RowKit
set_option maxRecDepth 100000
set_option linter.unusedVariables false
set_option linter.unusedSimpArgs false
theorem docE : ElemOf Tryd.prog 22 24 6 72 := .mk' (.agg #[.int .i64 0, .string ⟨#[]⟩, .slice none 0 0, .bool false, .int .i64 0, .int .i64 0]) Tryd.underlying22 (by kernel_rfl) rfl (by decide)
theorem alloc_cell (w : World) (o : Obj) (a : Addr) (h : a.block < w.heap.size) : (w.alloc o).cell? a = w.cell? a := World.cell?_of_block (Below.heap_alloc w o _ h)
theorem alloc_frozen (w : World) (o : Obj) (a : Addr) (h : a.block < w.heap.size) : (w.alloc o).frozen? a = w.frozen? a := World.frozen?_of_block (Below.heap_alloc w o _ h)
def aText : Doc := dtext ⟨#[97]⟩
def aRow (j : Nat) : List (Doc × Value) := List.replicate j (aText, .slice none 0 0)
/-- The document whose kids grow. -/
structure Grow (W : World) (N : Nat) (k : Int) (j : Nat) (v : Value) : Prop where
  blk : Blk W N [.int .i64 k, .string ⟨#[]⟩, v, .bool false, .int .i64 0, .int .i64 0] 24
  row : W.ownsRow (N + 1) 24 6 v j (docsCells (aRow j))

theorem docsCells_snoc (j : Nat) : docsCells (aRow (j + 1)) = docsCells (aRow j) ++ docCells aText (.slice none 0 0) := by
  unfold docsCells aRow
  rw [show List.replicate (j + 1) (aText, Value.slice none 0 0) = List.replicate j (aText, Value.slice none 0 0) ++ [(aText, Value.slice none 0 0)] from by simp [List.replicate_succ']]
  simp
/-- The kids' row has grown by one, the field is stored. -/
theorem grow_next {w1 wr wt w2 : World} {k : Int} {j gg cap' : Nat} {v : Value} (ob : Obj) (hg : Grow wr w1.heap.size k j v) (hbw : Below w1.heap.size w1 wr) (hbt : Below wr.heap.size wr.drew wt)
    (hown : w2.ownsRow (w1.heap.size + 1) 24 6 (.slice (some ⟨gg, 0, none⟩) (j + 1) cap') (j + 1) (docsCells (aRow j) ++ docCells aText (.slice none 0 0)))
    (hgrow : (wt.alloc ob).grownBy w2 v.ownBlock) (hat : v.ownBlock = some gg ∨ gg = wt.heap.size + 1) :
    Grow (w2.setCell ⟨w1.heap.size, 2, none⟩ (.slice (some ⟨gg, 0, none⟩) (j + 1) cap')) w1.heap.size k (j + 1) (.slice (some ⟨gg, 0, none⟩) (j + 1) cap') ∧
    Below w1.heap.size w1 (w2.setCell ⟨w1.heap.size, 2, none⟩ (.slice (some ⟨gg, 0, none⟩) (j + 1) cap')) := by
  have hlo : ∀ b, v.ownBlock = some b → w1.heap.size + 1 ≤ b := fun b h => (hg.row.lt _ h).1
  have hsz : wr.heap.size ≤ wt.heap.size := hbt.size
  have hsw := hbw.size
  have hlt := hg.blk.lt
  have hgg : w1.heap.size ≠ gg := by
    rcases hat with h | h
    · have := hlo _ h; omega
    · omega
  have hB2 : Blk w2 w1.heap.size [.int .i64 k, .string ⟨#[]⟩, v, .bool false, .int .i64 0, .int .i64 0] 24 :=
    ((Blk.alloc ((show Blk wr.drew _ _ _ from hg.blk).below hbt) ob)).grown hgrow (fun h => by have := hlo _ h.symm; omega)
  refine ⟨⟨hB2.set 2 _, ?_⟩, ?_⟩
  · rw [docsCells_snoc]
    exact ownsRow_setCell_other hown (by simp [Value.ownBlock]; omega) _
  · refine Below.setCell (p := ⟨w1.heap.size, 2, none⟩) ?_ (Nat.le_refl _) _
    exact (((hbw.drew.trans (hbt.mono (by simpa using hsw))).alloc (by omega) ob).grown hgrow (by simp; omega) (fun b h => by have := hlo _ h; omega))

theorem own_cut0 {W : World} {base e : Nat} {v : Value} {n : Nat} {xs : List Value} (h : W.ownsRow base e 6 v n xs) : (v = .slice none 0 0 ∧ n = 0) ∨ ∃ g cap, v = .slice (some ⟨g, 0, none⟩) n cap ∧ n ≤ cap ∧ base ≤ g ∧ g < W.heap.size := by
  rcases h.2 with h2 | ⟨g, cap, cur, h1, h2, h3, h4, _⟩
  · exact .inl h2
  · exact .inr ⟨g, cap, h1, h4, h2, (Array.getElem?_eq_some_iff.1 h3).1⟩
/-- The kids of a row of one's own. -/
theorem kv_own {W : World} {hi base : Nat} {D : Doc} {v : Value} {t n : Nat} (l : List (Doc × Value)) (hl : l.length = n) (ho : W.ownsRow base t 6 v n (docsCells l)) (hk : ∀ p ∈ l, KV W 0 hi p.1 p.2) (hD : D.kids = l.map Prod.fst) (hh : W.heap.size ≤ hi) :
    KV W 0 hi D v := by
  rcases own_cut0 ho with ⟨rfl, rfl⟩ | ⟨g, cap, rfl, hcap, _, hg⟩
  · exact kv_nil (by rw [hD, List.length_eq_zero_iff.1 hl]; rfl)
  · subst hl
    rw [KV_iff]
    refine ⟨_, _, by rw [hD, List.length_map], by rw [hD, List.length_map]; exact hcap, fun _ => ⟨g, 0, rfl, Nat.zero_le _, by omega, EV_iff.2 fun j hj => ?_⟩⟩
    have hjl : j < l.length := by rw [hD, List.length_map] at hj; exact hj
    have e : D.kids[j] = (l[j]).1 := by simp [hD]
    have hcell : ∀ c, c < 6 → W.cell? ⟨g, 0 + j * 6 + c, none⟩ = (docCells (l[j]).1 (l[j]).2)[c]? := fun c h6 => by
      rw [Nat.zero_add, ho.cellAt (j * 6 + c) (by omega), docsCells_at l j c hjl h6]
    rw [e]
    exact ⟨(l[j]).2, ⟨hcell 0 (by omega), hcell 1 (by omega), hcell 2 (by omega), hcell 3 (by omega), hcell 4 (by omega), hcell 5 (by omega)⟩, hk _ (List.getElem_mem hjl)⟩
/-- The kinds' documents, and which of them are fine. -/
def kDoc (k m : Nat) : Doc := .mk k ⟨#[]⟩ (List.replicate m aText) false (if k = 12 then 1 else 0) 0
def kFine (k m : Nat) : Bool := if k = 1 ∨ k = 3 ∨ k = 4 ∨ k = 5 ∨ k = 6 ∨ k = 15 ∨ k = 16 then m == 0 else if k = 2 then true else if k = 7 ∨ k = 11 ∨ k = 12 ∨ k = 13 ∨ k = 14 then m == 1 else if k = 8 then decide (0 < m) else if k = 9 then m == 0 || m % 2 == 1 else if k = 10 then m == 2 else false
theorem kDoc_code : ∀ k, k < 18 → ∀ m, m < 6 → (kDoc k m).code = if kFine k m = true then 0 else 1500 := by decide +kernel
theorem kDoc_size : ∀ k, k < 18 → ∀ m, m < 6 → (kDoc k m).sizeN = if kFine k m = true then (m : Int) + 1 else 0 := by decide +kernel
theorem kDoc_bulk : ∀ k, k < 18 → ∀ m, m < 6 → (kDoc k m).bulk ≤ 4194304 := by decide +kernel

set_option maxHeartbeats 4000000 in
theorem docKinds_try (a b : Int) (ua ub k m : Nat) (w : World) (hua : IntKind.u64.wrap a = (ua : Int)) (hub : IntKind.u64.wrap b = (ub : Int)) (hra : (ua : Int) % 18 = (k : Int)) (hrb : (ub : Int) % 6 = (m : Int)) (hk : k ≤ 17) (hm : m ≤ 5) (hT : Tabs w) :
    Calls Tryd.prog 8 #[.int .i64 a, .int .i64 b] w fun e w' => e = .returned (.bool true) ∧ Below w.heap.size w w' := by
  have HT := Lib.hid hT
  clear hT
  have hra2 : IntKind.i64.wrap (k : Int) = (k : Int) := IntWalk.i64_in _ (by omega)
  have hrb2 : IntKind.i64.wrap (m : Int) = (m : Int) := IntWalk.i64_in _ (by omega)
  have hm9 : (m : Int) ≤ 5 := by omega
  go_enter Tryd.func8, Tryd.ntmps8
  go_wp2_with (go_at_call 25; refine (awake15_any _ HT.out).mono ?_; rintro e w1 ⟨rfl, hb1⟩)
  go_loopw [8] (fun i wr => ∃ (j : Nat) (v : Value), j ≤ m ∧ i = .int .i64 (j : Int) ∧ Grow wr w1.heap.size k j v ∧ Below w1.heap.size w1 wr) (fun i _ => m - (intOf i).toNat)
  case atStart =>
    exact ⟨0, .slice none 0 0, Nat.zero_le _, rfl, ⟨Blk.new _ _ _, World.ownsRow_nil _ _ _ _⟩, (Below.refl _ w1).alloc (Nat.le_refl _) _⟩
  case round =>
    obtain ⟨j, v, hj, rfl, hgr, hbw⟩ := hrel
    by_cases hlt : j < m
    · have hjm : (j : Int) < (m : Int) := by omega
      have c2 := hgr.blk.cell 2
      have f2 := hgr.blk.frozen 2
      simp only [List.getElem?_cons_zero, List.getElem?_cons_succ] at c2
      have hlt2 := hgr.blk.lt
      have hne : v.ownBlock ≠ some w1.heap.size := fun h => by have := (hgr.row.lt _ h).1; omega
      have HNE := Lib.hid hne
      have HG := Lib.hid hgr
      obtain ⟨i0, z0, hT1, hi0, hz0, hz1, hzb, hz4, hz5⟩ := docE
      have HE := Lib.hid (And.intro hi0 (And.intro hz0 (And.intro hz1 (And.intro hzb hz4))))
      clear hne hgr hi0 hz0 hz1 hzb hz4 hT1 hra2 hra hrb hrb2
      go_wp2_with fail
      go_region_law (first
          | (go_simp; go_at_call 27; refine (dtext_any _ _).mono ?_; rintro e wt ⟨rfl, hbt⟩; have hzt : wr.heap.size ≤ wt.heap.size := hbt.size; have ct := (hbt.cell (p := ⟨w1.heap.size, 2, none⟩) hlt2).trans c2; have ft := (hbt.frozen (p := ⟨w1.heap.size, 2, none⟩) hlt2).trans f2; have ctt : ∀ o, (wt.alloc o).cell? ⟨w1.heap.size, 2, none⟩ = some v := fun o => (alloc_cell wt o _ (by simp at hzt ⊢; omega)).trans ct; have ftt : ∀ o, (wt.alloc o).frozen? ⟨w1.heap.size, 2, none⟩ = false := fun o => (alloc_frozen wt o _ (by simp at hzt ⊢; omega)).trans ft; unfold docV; simp only [dtext, Doc.kind, Doc.text, Doc.brk, Doc.id, Doc.width])
          | (refine step_append_lies _ (by rfl) _ _ _ (by rfl) (w1.heap.size + 1) 24 i0 z0 6 72 Tryd.underlying22 HE.out.1 HE.out.2.1 HE.out.2.2.1 HE.out.2.2.2.1 HE.out.2.2.2.2 (by omega) v j (docsCells (aRow j)) (by rfl) ((own_below (show wr.drew.ownsRow _ _ _ _ _ _ from HG.out.row) hbt).alloc _) ⟨wt.heap.size, 0, none⟩ 1 1 (docCells aText (.slice none 0 0)) (by rfl) (by rfl) (World.news_of_block (cs := (docCells aText (.slice none 0 0)).toArray) (t := 24) (fr := (0, 0)) (heap_alloc_new wt _)) (by simp [Value.oneCell', docCells]) (by omega) (by unfold maxLen; omega) (by omega) (by have := hbt.size; simp at this ⊢; omega) (wt.heap.size + 1) (by simp) ?_; intro gg cap' w2 hown1 hgrow hat hlt; have c3 := (hgrow.cell_far ⟨w1.heap.size, 2, none⟩ (by simp; omega) (Ne.symm HNE.out)).trans ((alloc_cell wt _ _ (by simp; omega)).trans ct); have f3 := (hgrow.frozen_far ⟨w1.heap.size, 2, none⟩ (by simp; omega) (Ne.symm HNE.out)).trans ((alloc_frozen wt _ _ (by simp; omega)).trans ft)))
      all_goals
        obtain ⟨hgn, hbn⟩ := grow_next _ HG.out hbw hbt hown1 hgrow hat
        have HGN := Lib.hid hgn
        have HBN := Lib.hid hbn
        clear hgn hbn hgrow hown1
        have hw1 : IntKind.i64.wrap ((j : Int) + 1) = (j : Int) + 1 := IntWalk.i64_in _ (by omega)
        go_wp2_with fail
        refine ⟨⟨j + 1, _, by omega, by simp, HGN.out, HBN.out⟩, ?_⟩
        simp [intOf]
        omega
    · have hjm : j = m := by omega
      subst hjm
      have HG := Lib.hid hgr
      have HBW := Lib.hid hbw
      clear hgr hbw hlt
      have c0 := HG.out.blk.cell 4
      have f0 := HG.out.blk.frozen 4
      simp only [List.getElem?_cons_zero, List.getElem?_cons_succ] at c0
      go_upto_if 35 with (fail)
      go_cut [5, 6] from 34 (fun (s5 s6 : Value) (wc : World) => s5 = .int .i64 (k : Int) ∧ s6 = .int .i64 (j : Int) ∧ Blk wc w1.heap.size (docCells (kDoc k j) v) 24 ∧ wc.ownsRow (w1.heap.size + 1) 24 6 v j (docsCells (aRow j)) ∧ Below w1.heap.size w1 wc)
      case first =>
        have hset := HG.out.blk.set 4 (.int .i64 1)
        have HS := Lib.hid hset
        clear hset
        by_cases hk12 : k = 12
        · have e1 : ((k : Int) == 12) = true := by subst hk12; rfl
          have HK12 := Lib.hid hk12
          clear hk12
          go_wp2_with fail
          go_meet
          case rel =>
            refine ⟨rfl, rfl, ?_, ownsRow_setCell_other HG.out.row (fun h => by have := (HG.out.row.lt _ h).1; simp at this; omega) _, Below.setCell (p := ⟨w1.heap.size, 4, none⟩) HBW.out (Nat.le_refl _) _⟩
            have e := HK12.out
            have h := HS.out
            simp only [docCells, kDoc, Doc.kind, Doc.text, Doc.brk, Doc.id, Doc.width, e, if_true]
            simpa [e] using h
        · have e1 : ((k : Int) == 12) = false := by simp; omega
          have HK12 := Lib.hid hk12
          clear hk12
          go_wp2_with fail
          go_meet
          case rel =>
            refine ⟨rfl, rfl, ?_, HG.out.row, HBW.out⟩
            have e := HK12.out
            have h := HG.out.blk
            simp only [docCells, kDoc, Doc.kind, Doc.text, Doc.brk, Doc.id, Doc.width, e, if_false]
            exact h
      case rest =>
        obtain ⟨rfl, rfl, hbk, how, hbw⟩ := hcut
        have HBK := Lib.hid hbk
        have HOW := Lib.hid how
        have HBW2 := Lib.hid hbw
        clear hbk how hbw c0 f0
        go_upto_block 2 with (fail)
        go_cut [9] from 38 (fun (s9 : Value) (wd : World) => s9 = .bool (kFine k j) ∧ wd = wc)
        case first =>
          clear hua hub hra hra2 hrb hrb2
          have hk18 : k = 0 ∨ k = 1 ∨ k = 2 ∨ k = 3 ∨ k = 4 ∨ k = 5 ∨ k = 6 ∨ k = 7 ∨ k = 8 ∨ k = 9 ∨ k = 10 ∨ k = 11 ∨ k = 12 ∨ k = 13 ∨ k = 14 ∨ k = 15 ∨ k = 16 ∨ k = 17 := by omega
          have hj6 : j = 0 ∨ j = 1 ∨ j = 2 ∨ j = 3 ∨ j = 4 ∨ j = 5 := by omega
          have HJ6 := Lib.hid hj6
          clear hj6 hm9 hj
          rcases hk18 with rfl | rfl | rfl | rfl | rfl | rfl | rfl | rfl | rfl | rfl | rfl | rfl | rfl | rfl | rfl | rfl | rfl | rfl
          case inr.inr.inr.inr.inr.inr.inr.inr.inr.inl =>
            rcases HJ6.out with rfl | rfl | rfl | rfl | rfl | rfl
            all_goals go_wp2_with fail
            all_goals go_meet
            all_goals exact ⟨rfl, rfl⟩
          all_goals go_wp2_with fail
          all_goals go_meet
          all_goals (refine ⟨?_, rfl⟩; rcases HJ6.out with rfl | rfl | rfl | rfl | rfl | rfl <;> first | rfl | simp_all [kFine])
        case rest =>
          obtain ⟨rfl, rfl⟩ := hcut
          have HWC := Lib.hid (HBW2.out)
          have hb3 : Below w.heap.size w wc := hb1.trans (HBW2.out.mono hb1.size)
          have hk3 : KV wc 0 wc.heap.size (kDoc k j) v := by
            refine kv_own (aRow j) (by simp [aRow]) HOW.out ?_ (by simp [kDoc, Doc.kids, aRow]) (Nat.le_refl _)
            intro p hp
            rw [List.eq_of_mem_replicate hp]
            exact kv_nil rfl
          have HB3 := Lib.hid hb3
          have HK3 := Lib.hid hk3
          have HCODE := Lib.hid (kDoc_code k (by omega) j (by omega))
          have HSIZE := Lib.hid (kDoc_size k (by omega) j (by omega))
          have HBULK := Lib.hid (kDoc_bulk k (by omega) j (by omega))
          clear hb3 hk3 hra hrb hra2 hrb2 hua hub
          have hidv : ∃ i : Int, i = (if k = 12 then (1 : Int) else 0) := ⟨_, rfl⟩
          obtain ⟨iv, hiv⟩ := hidv
          have HIV := Lib.hid hiv
          have c0 := HBK.out.cell 0
          have c1 := HBK.out.cell 1
          have c2 := HBK.out.cell 2
          have c3 := HBK.out.cell 3
          have c4 := HBK.out.cell 4
          have c5 := HBK.out.cell 5
          simp only [docCells, kDoc, Doc.kind, Doc.text, Doc.brk, Doc.id, Doc.width, List.getElem?_cons_zero, List.getElem?_cons_succ, ← hiv] at c0 c1 c2 c3 c4 c5
          clear hiv
          have hdv : Value.agg #[.int .i64 k, .string ⟨#[]⟩, v, .bool false, .int .i64 iv, .int .i64 0] = docV (kDoc k j) v := by rw [HIV.out]; rfl
          have HDV := Lib.hid hdv
          clear hdv
          by_cases hf : kFine k j = true
          · have hc : (kDoc k j).code = 0 := by rw [HCODE.out, if_pos hf]
            have hs : (kDoc k j).sizeN = (j : Int) + 1 := by rw [HSIZE.out, if_pos hf]
            have hw1 : IntKind.i64.wrap ((j : Int) + 1) = (j : Int) + 1 := IntWalk.i64_in _ (by omega)
            rw [hf]
            go_wp2_with fail
            rw [HDV.out]
            refine (check_any (kDoc k j) v wc HK3.out HBULK.out (HT.out.below HB3.out)).mono ?_
            rintro e w4 ⟨rfl, hb4⟩
            rw [hc]
            have HB4 := Lib.hid (HB3.out.call hb4)
            have HK4 := Lib.hid ((HK3.out.below hb4 (Nat.le_refl _)).wide (Nat.le_refl _) hb4.size)
            have bk4 := HBK.out.below hb4
            have c0 := bk4.cell 0
            have c1 := bk4.cell 1
            have c2 := bk4.cell 2
            have c3 := bk4.cell 3
            have c4 := bk4.cell 4
            have c5 := bk4.cell 5
            simp only [docCells, kDoc, Doc.kind, Doc.text, Doc.brk, Doc.id, Doc.width, List.getElem?_cons_zero, List.getElem?_cons_succ, ← HIV.out] at c0 c1 c2 c3 c4 c5
            clear hb4 bk4
            go_wp2_with (go_at_call 22; refine (num_any _ _).mono ?_; rintro e w9 ⟨rfl, rfl⟩)
            rw [HDV.out]
            refine (size_any (kDoc k j) v w4 HK4.out HBULK.out (HT.out.below HB4.out)).mono ?_
            rintro e w5 ⟨rfl, hb5⟩
            rw [hs]
            have HB5 := Lib.hid (HB4.out.call hb5)
            clear hb5
            go_wp2_with fail
            go_ret
            exact ⟨rfl, HB5.out⟩
          · have hf' : kFine k j = false := by simpa using hf
            have hc : (kDoc k j).code = 1500 := by rw [HCODE.out, if_neg hf]
            have hs : (kDoc k j).sizeN = 0 := by rw [HSIZE.out, if_neg hf]
            rw [hf']
            go_wp2_with fail
            rw [HDV.out]
            refine (check_any (kDoc k j) v wc HK3.out HBULK.out (HT.out.below HB3.out)).mono ?_
            rintro e w4 ⟨rfl, hb4⟩
            rw [hc]
            have HB4 := Lib.hid (HB3.out.call hb4)
            have HK4 := Lib.hid ((HK3.out.below hb4 (Nat.le_refl _)).wide (Nat.le_refl _) hb4.size)
            have bk4 := HBK.out.below hb4
            have c0 := bk4.cell 0
            have c1 := bk4.cell 1
            have c2 := bk4.cell 2
            have c3 := bk4.cell 3
            have c4 := bk4.cell 4
            have c5 := bk4.cell 5
            simp only [docCells, kDoc, Doc.kind, Doc.text, Doc.brk, Doc.id, Doc.width, List.getElem?_cons_zero, List.getElem?_cons_succ, ← HIV.out] at c0 c1 c2 c3 c4 c5
            clear hb4 bk4
            go_wp2_with (go_at_call 22; refine (num_any _ _).mono ?_; rintro e w9 ⟨rfl, rfl⟩)
            rw [HDV.out]
            refine (size_any (kDoc k j) v w4 HK4.out HBULK.out (HT.out.below HB4.out)).mono ?_
            rintro e w5 ⟨rfl, hb5⟩
            rw [hs]
            have HB5 := Lib.hid (HB4.out.call hb5)
            clear hb5
            go_wp2_with fail
            go_ret
            exact ⟨rfl, HB5.out⟩
end Go.Proofs.YtaojlnibkajfbaaDoor
