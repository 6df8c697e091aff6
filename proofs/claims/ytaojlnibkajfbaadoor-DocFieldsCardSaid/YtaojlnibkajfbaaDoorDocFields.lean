/- DocFields: the walk. -/
import Derived.Test.YtaojlnibkajfbaaDoorDocKinds
import Derived.Deep.RegionHeld3
import Derived.Deep.AppendLies
import Derived.Deep.RegionLaw
import Derived.Deep.CutBlock
namespace Go.Proofs.YtaojlnibkajfbaaDoor
open Go.RowKit
set_option maxRecDepth 100000
set_option linter.unusedVariables false
set_option linter.unusedSimpArgs false
/-- The eight kinds, their kids, the field that is set. -/
def fKind (q : Nat) : Int := match q with | 0 => 1 | 1 => 3 | 2 => 7 | 3 => 8 | 4 => 10 | 5 => 11 | 6 => 12 | _ => 13
def fMany (q : Nat) : Nat := match q with | 0 => 0 | 1 => 0 | 2 => 1 | 3 => 2 | 4 => 2 | _ => 1
def fDoc0 (q : Nat) : Doc := .mk (fKind q) ⟨#[]⟩ (List.replicate (fMany q) aText) false (if fKind q = 12 then 1 else 0) 0
def fDoc (q r : Nat) : Doc := .mk (fKind q) (if r = 0 then ⟨#[116]⟩ else ⟨#[]⟩) (List.replicate (fMany q) aText) (r == 1) (if r = 2 then 2 else if fKind q = 12 then 1 else 0) (if r = 3 then 10000 else if r = 4 then 10001 else 0)
def fFine (q r : Nat) : Bool := if r = 0 then fKind q == 1 else if r = 1 then (fKind q == 7 || fKind q == 8) else if r = 2 then (fKind q == 7 || (fKind q == 10 || fKind q == 12)) else if r = 3 then fKind q == 13 else false
theorem fDoc_code : ∀ q, q < 8 → ∀ r, r < 5 → (fDoc q r).code = if fFine q r = true then 0 else 1500 := by decide +kernel
theorem fDoc_bulk : ∀ q, q < 8 → ∀ r, r < 5 → (fDoc q r).bulk ≤ 4194304 := by decide +kernel
theorem fMany_le : ∀ q, fMany q ≤ 2 := by intro q; unfold fMany; split <;> decide
theorem kids_own {W : World} {N : Nat} {v : Value} {D : Doc} {n : Nat} (ho : W.ownsRow (N + 1) 24 6 v n (docsCells (aRow n))) (hD : D.kids = List.replicate n aText) : KV W 0 W.heap.size D v := by
  refine kv_own (aRow n) (by simp [aRow]) ho ?_ (by rw [hD]; simp [aRow]) (Nat.le_refl _)
  intro p hp
  rw [List.eq_of_mem_replicate hp]
  exact kv_nil rfl

set_option maxHeartbeats 8000000 in
theorem docFields_try (a b : Int) (ua ub q r : Nat) (w : World) (hua : IntKind.u64.wrap a = (ua : Int)) (hub : IntKind.u64.wrap b = (ub : Int)) (hra : (ua : Int) % 8 = (q : Int)) (hrb : (ub : Int) % 5 = (r : Int)) (hq : q < 8) (hr : r < 5) (hT : Tabs w) :
    Calls Tryd.prog 9 #[.int .i64 a, .int .i64 b] w fun e w' => e = .returned (.bool true) ∧ Below w.heap.size w w' := by
  have HT := Lib.hid hT
  have HRB := Lib.hid hrb
  have HUB := Lib.hid hub
  have HRA := Lib.hid hra
  obtain ⟨kq, hkq⟩ : ∃ z, z = fKind q := ⟨_, rfl⟩
  obtain ⟨m, hmq⟩ : ∃ z, z = fMany q := ⟨_, rfl⟩
  have hm : m ≤ 2 := hmq ▸ fMany_le q
  have hm9 : (m : Int) ≤ 2 := by omega
  have HKQ := Lib.hid hkq
  have HMQ := Lib.hid hmq
  have HQ8 := Lib.hid (show q = 0 ∨ q = 1 ∨ q = 2 ∨ q = 3 ∨ q = 4 ∨ q = 5 ∨ q = 6 ∨ q = 7 from by omega)
  have HR5 := Lib.hid (show r = 0 ∨ r = 1 ∨ r = 2 ∨ r = 3 ∨ r = 4 from by omega)
  clear hT hrb hub hra hkq hmq
  go_enter Tryd.func9, Tryd.ntmps9
  go_upto_region 4 with (go_at_call 25; refine (awake15_any _ HT.out).mono ?_; rintro e w1 ⟨rfl, hb1⟩)
  go_cut [6] from 13 (fun (s6 : Value) (wc : World) => s6 = .int .i64 kq ∧ Below w.heap.size w wc)
  case first =>
    have hbl := Lib.hid (hb1.alloc hb1.size (.cells #[.int .i64 1, .int .i64 3, .int .i64 7, .int .i64 8, .int .i64 10, .int .i64 11, .int .i64 12, .int .i64 13] 3))
    have hra := HRA.out
    rcases HQ8.out with rfl | rfl | rfl | rfl | rfl | rfl | rfl | rfl
    all_goals go_wp2_with fail
    all_goals go_meet
    all_goals exact ⟨by rw [HKQ.out]; rfl, hbl.out⟩
  case rest =>
    obtain ⟨rfl, hbk⟩ := hcut
    obtain ⟨wk, rfl⟩ : ∃ wo : World, wo = wc := ⟨_, rfl⟩
    have HBWK := Lib.hid hbk
    clear hbk
    go_wp2_with fail
    go_loopw [8] (fun i wr => ∃ (j : Nat) (v : Value), j ≤ m ∧ i = .int .i64 (j : Int) ∧ Grow wr wk.heap.size kq j v ∧ Below wk.heap.size wk wr) (fun i _ => m - (intOf i).toNat)
    case atStart =>
      exact ⟨0, .slice none 0 0, Nat.zero_le _, rfl, ⟨Blk.new _ _ _, World.ownsRow_nil _ _ _ _⟩, (Below.refl _ wk).alloc (Nat.le_refl _) _⟩
    case round =>
      obtain ⟨j, v, hj, rfl, hgr, hbw⟩ := hrel
      have hbl : ∀ o, Grow (wr.alloc o) wk.heap.size kq j v ∧ Below wk.heap.size wk (wr.alloc o) := fun o => ⟨⟨hgr.blk.alloc o, hgr.row.alloc o⟩, hbw.alloc hbw.size o⟩
      have HBL := Lib.hid hbl
      clear hbl hgr hbw
      by_cases hlt : j < m
      · have hjm : (j : Int) < (m : Int) := by omega
        go_upto_region 7 with (fail)
        go_cut [29] from 22 to 37 (fun (s29 : Value) (wd : World) => s29 = .bool true ∧ Grow wd wk.heap.size kq j v ∧ Below wk.heap.size wk wd)
        case first =>
          have hra := HRA.out
          rcases HQ8.out with rfl | rfl | rfl | rfl | rfl | rfl | rfl | rfl
          all_goals (have em := HMQ.out; simp only [fMany] at em; rw [em] at hjm)
          all_goals (first | (exfalso; omega) | skip)
          all_goals go_wp2_with fail
          all_goals go_meet
          all_goals exact ⟨congrArg Value.bool (decide_eq_true (by omega)), (HBL.out _).1, (HBL.out _).2⟩
        case rest =>
          obtain ⟨rfl, hgr, hbw⟩ := hcut
          obtain ⟨wr, rfl⟩ : ∃ wo : World, wo = wc := ⟨_, rfl⟩
          have c2 := hgr.blk.cell 2
          have f2 := hgr.blk.frozen 2
          simp only [List.getElem?_cons_zero, List.getElem?_cons_succ] at c2
          have hlt2 := hgr.blk.lt
          have hne : v.ownBlock ≠ some wk.heap.size := fun h => by have := (hgr.row.lt _ h).1; omega
          have HNE := Lib.hid hne
          have HG := Lib.hid hgr
          obtain ⟨i0, z0, hT1, hi0, hz0, hz1, hzb, hz4, hz5⟩ := docE
          have HE := Lib.hid (And.intro hi0 (And.intro hz0 (And.intro hz1 (And.intro hzb hz4))))
          clear hne hgr hi0 hz0 hz1 hzb hz4 hT1
          go_wp2_with fail
          go_region_law (first
              | (go_simp; go_at_call 27; refine (dtext_any _ _).mono ?_; rintro e wt ⟨rfl, hbt⟩; have hzt : wr.heap.size ≤ wt.heap.size := hbt.size; have ct := (hbt.cell (p := ⟨wk.heap.size, 2, none⟩) hlt2).trans c2; have ft := (hbt.frozen (p := ⟨wk.heap.size, 2, none⟩) hlt2).trans f2; have ctt : ∀ o, (wt.alloc o).cell? ⟨wk.heap.size, 2, none⟩ = some v := fun o => (alloc_cell wt o _ (by simp at hzt ⊢; omega)).trans ct; have ftt : ∀ o, (wt.alloc o).frozen? ⟨wk.heap.size, 2, none⟩ = false := fun o => (alloc_frozen wt o _ (by simp at hzt ⊢; omega)).trans ft; unfold docV; simp only [dtext, Doc.kind, Doc.text, Doc.brk, Doc.id, Doc.width])
              | (refine step_append_lies _ (by rfl) _ _ _ (by rfl) (wk.heap.size + 1) 24 i0 z0 6 72 Tryd.underlying22 HE.out.1 HE.out.2.1 HE.out.2.2.1 HE.out.2.2.2.1 HE.out.2.2.2.2 (by omega) v j (docsCells (aRow j)) (by rfl) ((own_below (show wr.drew.ownsRow _ _ _ _ _ _ from HG.out.row) hbt).alloc _) ⟨wt.heap.size, 0, none⟩ 1 1 (docCells aText (.slice none 0 0)) (by rfl) (by rfl) (World.news_of_block (cs := (docCells aText (.slice none 0 0)).toArray) (t := 24) (fr := (0, 0)) (heap_alloc_new wt _)) (by simp [Value.oneCell', docCells]) (by omega) (by unfold maxLen; omega) (by omega) (by have := hbt.size; simp at this ⊢; omega) (wt.heap.size + 1) (by simp) ?_; intro gg cap' w2 hown1 hgrow hat hlt; have c3 := (hgrow.cell_far ⟨wk.heap.size, 2, none⟩ (by simp; omega) (Ne.symm HNE.out)).trans ((alloc_cell wt _ _ (by simp; omega)).trans ct); have f3 := (hgrow.frozen_far ⟨wk.heap.size, 2, none⟩ (by simp; omega) (Ne.symm HNE.out)).trans ((alloc_frozen wt _ _ (by simp; omega)).trans ft)))
          all_goals
            obtain ⟨hgn, hbn⟩ := grow_next _ HG.out hbw hbt hown1 hgrow hat
            have HGN := Lib.hid hgn
            have HBN := Lib.hid hbn
            clear hgn hbn hgrow hown1
            have hw1 : IntKind.i64.wrap ((j : Int) + 1) = (j : Int) + 1 := IntWalk.i64_in _ (by omega)
            go_wp2_with fail
            refine ⟨⟨j + 1, _, by omega, by simp, HGN.out, HBN.out⟩, ?_⟩
            simp [intOf]
            omega
      · have hjm : j = m := by omega
        subst hjm
        go_upto_region 7 with (fail)
        go_cut [29] from 22 to 37 (fun (s29 : Value) (wd : World) => s29 = .bool false ∧ Grow wd wk.heap.size kq j v ∧ Below wk.heap.size wk wd)
        case first =>
          have hra := HRA.out
          rcases HQ8.out with rfl | rfl | rfl | rfl | rfl | rfl | rfl | rfl
          all_goals (have em : j = _ := HMQ.out; simp only [fMany] at em; subst em)
          all_goals go_wp2_with fail
          all_goals go_meet
          all_goals exact ⟨rfl, (HBL.out _).1, (HBL.out _).2⟩
        case rest =>
          obtain ⟨rfl, hgr, hbw⟩ := hcut
          obtain ⟨wr, rfl⟩ : ∃ wo : World, wo = wc := ⟨_, rfl⟩
          have HG := Lib.hid hgr
          have HBW := Lib.hid hbw
          have c0 := HG.out.blk.cell 4
          have f0 := HG.out.blk.frozen 4
          simp only [List.getElem?_cons_zero, List.getElem?_cons_succ] at c0
          clear hgr hbw
          go_upto_if 39 with (fail)
          go_cut [6] from 38 (fun (s6 : Value) (wc : World) => s6 = .int .i64 kq ∧ Blk wc wk.heap.size (docCells (fDoc0 q) v) 24 ∧ wc.ownsRow (wk.heap.size + 1) 24 6 v j (docsCells (aRow j)) ∧ Below wk.heap.size wk wc)
          case first =>
            have hset := HG.out.blk.set 4 (.int .i64 1)
            have HS := Lib.hid hset
            clear hset
            by_cases hk12 : kq = 12
            · have e1 : (kq == 12) = true := by rw [hk12]; rfl
              have HK12 := Lib.hid hk12
              clear hk12
              go_wp2_with fail
              go_meet
              case rel =>
                refine ⟨rfl, ?_, ownsRow_setCell_other HG.out.row (fun h => by have := (HG.out.row.lt _ h).1; simp at this; omega) _, Below.setCell (p := ⟨wk.heap.size, 4, none⟩) HBW.out (Nat.le_refl _) _⟩
                have e := HK12.out
                have h := HS.out
                simp only [docCells, fDoc0, Doc.kind, Doc.text, Doc.brk, Doc.id, Doc.width, ← HKQ.out, e, if_true]
                simpa [e] using h
            · have e1 : (kq == 12) = false := by simp; omega
              have HK12 := Lib.hid hk12
              clear hk12
              go_wp2_with fail
              go_meet
              case rel =>
                refine ⟨rfl, ?_, HG.out.row, HBW.out⟩
                have e := HK12.out
                have h := HG.out.blk
                simp only [docCells, fDoc0, Doc.kind, Doc.text, Doc.brk, Doc.id, Doc.width, ← HKQ.out, e, if_false]
                exact h
          case rest =>
            obtain ⟨rfl, hbk, how, hbw⟩ := hcut
            obtain ⟨wx, rfl⟩ : ∃ wo : World, wo = wc := ⟨_, rfl⟩
            have HBK := Lib.hid hbk
            have HOW := Lib.hid how
            have HBX := Lib.hid hbw
            clear hbk how hbw c0 f0
            have hub := HUB.out
            have hrb := HRB.out
            go_upto_block 2 with (fail)
            go_cut [9] from 41 (fun (s9 : Value) (wd : World) => s9 = .bool (fFine q r) ∧ Blk wd wk.heap.size (docCells (fDoc q r) v) 24 ∧ wd.ownsRow (wk.heap.size + 1) 24 6 v j (docsCells (aRow j)) ∧ Below wk.heap.size wk wd)
            case first =>
              have hset : ∀ n u, Blk (wx.setCell ⟨wk.heap.size, n, none⟩ u) wk.heap.size ((docCells (fDoc0 q) v).set n u) 24 ∧ (wx.setCell ⟨wk.heap.size, n, none⟩ u).ownsRow (wk.heap.size + 1) 24 6 v j (docsCells (aRow j)) ∧ Below wk.heap.size wk (wx.setCell ⟨wk.heap.size, n, none⟩ u) :=
                fun n u => ⟨HBK.out.set n u, ownsRow_setCell_other HOW.out (fun h => by have := (HOW.out.lt _ h).1; simp at this; omega) _, Below.setCell (p := ⟨wk.heap.size, n, none⟩) HBX.out (Nat.le_refl _) _⟩
              have HS := Lib.hid hset
              have c1 := HBK.out.cell 1
              have c3 := HBK.out.cell 3
              have c4 := HBK.out.cell 4
              have c5 := HBK.out.cell 5
              have f1 := HBK.out.frozen 1
              have f3 := HBK.out.frozen 3
              have f4 := HBK.out.frozen 4
              have f5 := HBK.out.frozen 5
              simp only [docCells, fDoc0, Doc.kind, Doc.text, Doc.brk, Doc.id, Doc.width, List.getElem?_cons_zero, List.getElem?_cons_succ] at c1 c3 c4 c5
              rw [hrb]
              clear hset hrb hub hua
              rcases HR5.out with rfl | rfl | rfl | rfl | rfl
              all_goals (rcases HQ8.out with rfl | rfl | rfl | rfl | rfl | rfl | rfl | rfl)
              all_goals (have ek : kq = _ := HKQ.out; simp only [fKind] at ek; subst ek)
              all_goals go_wp2_with fail
              all_goals go_meet
              all_goals exact ⟨rfl, (HS.out _ _).1, (HS.out _ _).2.1, (HS.out _ _).2.2⟩
            case rest =>
              obtain ⟨rfl, hbk, how, hbw⟩ := hcut
              obtain ⟨D, hD⟩ : ∃ D, D = fDoc q r := ⟨_, rfl⟩
              rw [← hD] at hbk
              have HB3 := Lib.hid (HBWK.out.trans (hbw.mono HBWK.out.size))
              have HCODE := Lib.hid (hD ▸ fDoc_code q hq r hr)
              have HBULK := Lib.hid (hD ▸ fDoc_bulk q hq r hr)
              have HK3 := Lib.hid (kids_own how (show D.kids = List.replicate j aText by rw [hD]; simp only [fDoc, Doc.kids]; rw [← HMQ.out]))
              have c0 := hbk.cell 0
              have c1 := hbk.cell 1
              have c2 := hbk.cell 2
              have c3 := hbk.cell 3
              have c4 := hbk.cell 4
              have c5 := hbk.cell 5
              simp only [docCells, List.getElem?_cons_zero, List.getElem?_cons_succ] at c0 c1 c2 c3 c4 c5
              clear hbk how hbw hD hrb hub hua hb1
              by_cases hf : fFine q r = true
              · have hc : D.code = 0 := by rw [HCODE.out, if_pos hf]
                rw [hf]
                go_wp2_with fail
                refine (check_any D v wc HK3.out HBULK.out (HT.out.below HB3.out)).mono ?_
                rintro e w4 ⟨rfl, hb4⟩
                rw [hc]
                have HB4 := Lib.hid (HB3.out.call hb4)
                clear hb4
                go_wp2_with (go_at_call 22; refine (num_any _ _).mono ?_; rintro e w9 ⟨rfl, rfl⟩)
                go_ret
                exact ⟨rfl, HB4.out⟩
              · have hc : D.code = 1500 := by rw [HCODE.out, if_neg hf]
                rw [show fFine q r = false by simpa using hf]
                go_wp2_with fail
                refine (check_any D v wc HK3.out HBULK.out (HT.out.below HB3.out)).mono ?_
                rintro e w4 ⟨rfl, hb4⟩
                rw [hc]
                have HB4 := Lib.hid (HB3.out.call hb4)
                clear hb4
                go_wp2_with (go_at_call 22; refine (num_any _ _).mono ?_; rintro e w9 ⟨rfl, rfl⟩)
                go_ret
                exact ⟨rfl, HB4.out⟩
end Go.Proofs.YtaojlnibkajfbaaDoor
