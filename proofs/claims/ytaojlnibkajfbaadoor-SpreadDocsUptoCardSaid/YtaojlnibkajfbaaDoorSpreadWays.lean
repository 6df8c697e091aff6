/- SpreadWays: the awake of chapter 16; the walk. -/
import Derived.Test.YtaojlnibkajfbaaDoorSpread2
import Derived.Test.YtaojlnibkajfbaaDoorArgs
namespace Go.Proofs.YtaojlnibkajfbaaDoor
open Go.RowKit
set_option maxRecDepth 100000
set_option linter.unusedVariables false
set_option linter.unusedSimpArgs false

def g2D : Doc := eDoc 7 [eDoc 7 [hardD]]
def l1D : Doc := eDoc 7 [eDoc 3 []]
set_option maxHeartbeats 4000000 in
theorem awake16_any (w : World) (hT : Tabs w) :
    Calls Tryd.prog 17 #[] w fun e w' => e = .returned (.bool true) ∧ Below w.heap.size w w' := by
  obtain ⟨f1, f2, f3, f4⟩ := aw16_facts
  have hS1 : ∀ (kv : Value) (W : World), KV W 0 W.heap.size g2D kv → Tabs W → Calls Tryd.prog 12 #[docV g2D kv] W fun e w' => ∃ a c, e = .returned (.agg #[.int .i64 7, .string ⟨#[]⟩, .slice a 1 c, .bool true, .int .i64 0, .int .i64 0]) ∧ (∃ g off, a = some ⟨g, off, none⟩ ∧ w'.cell? ⟨g, off + 3, none⟩ = some (.bool true)) ∧ Below W.heap.size W w' := by
    intro kv W hk hT
    refine (spread_any g2D kv W hk (by decide +kernel) hT).mono ?_
    rintro e w' ⟨kv', rfl, hkw, hb⟩
    rw [show decide (g2D.code = 0) = true from decide_eq_true f1, show g2D.sprD true = _ from f3] at hkw ⊢
    obtain ⟨a, c, rfl⟩ := (KG.kv hkw).slice
    obtain ⟨g, off, e, _, _, kv2, h6, _⟩ := (KG.kv hkw).kid (j := 0) (by decide)
    exact ⟨a, c, rfl, ⟨g, off, e, by have := h6.brk; rw [Nat.zero_mul, Nat.add_zero] at this; exact this⟩, hb⟩
  have hS2 : ∀ (kv : Value) (W : World), KV W 0 W.heap.size l1D kv → Tabs W → Calls Tryd.prog 12 #[docV l1D kv] W fun e w' => ∃ a c, e = .returned (.agg #[.int .i64 7, .string ⟨#[]⟩, .slice a 1 c, .bool false, .int .i64 0, .int .i64 0]) ∧ Below W.heap.size W w' := by
    intro kv W hk hT
    refine (spread_any l1D kv W hk (by decide +kernel) hT).mono ?_
    rintro e w' ⟨kv', rfl, hkw, hb⟩
    rw [show decide (l1D.code = 0) = true from decide_eq_true f2, show l1D.sprD true = _ from f4] at hkw ⊢
    obtain ⟨a, c, rfl⟩ := (KG.kv hkw).slice
    exact ⟨a, c, rfl, hb⟩
  have HS1 := Lib.hid hS1
  have HS2 := Lib.hid hS2
  have HT := Lib.hid hT
  clear hS1 hS2 hT f1 f2 f3 f4
  obtain ⟨W3, hW3⟩ : ∃ W3, W3 = ((w.alloc (.cells (docsCells [(hardD, .slice none 0 0)]).toArray 24)).alloc (.cells (docCells (eDoc 7 [hardD]) (.slice (some ⟨w.heap.size, 0, none⟩) 1 1)).toArray 24)).alloc (.cells (docsCells [(eDoc 7 [hardD], .slice (some ⟨w.heap.size, 0, none⟩) 1 1)]).toArray 24) := ⟨_, rfl⟩
  have hz3 : W3.heap.size = w.heap.size + 3 := by rw [hW3]; simp
  have hb3 : Below w.heap.size w W3 := by rw [hW3]; exact (((Below.refl _ w).alloc (Nat.le_refl _) _).alloc (by simp) _).alloc (by simp; omega) _
  have hk3 : KV W3 0 W3.heap.size g2D (.slice (some ⟨w.heap.size + 1 + 1, 0, none⟩) 1 1) := by
    have b0 : Blk W3 w.heap.size (docsCells [(hardD, .slice none 0 0)]) 24 := by rw [hW3]; exact ((Blk.new _ _ _).alloc _).alloc _
    have b2 : Blk W3 (w.heap.size + 1 + 1) (docsCells [(eDoc 7 [hardD], .slice (some ⟨w.heap.size, 0, none⟩) 1 1)]) 24 := by rw [hW3]; exact Blk.new' _ _ (by simp)
    refine kv_made (cap := 1) [(eDoc 7 [hardD], .slice (some ⟨w.heap.size, 0, none⟩) 1 1)] b2 (fun p hp => ?_) (Nat.zero_le _) (by omega) rfl (by simp)
    simp only [List.mem_cons, List.not_mem_nil, or_false] at hp
    subst hp
    refine kv_made (cap := 1) [(hardD, .slice none 0 0)] b0 (fun p hp => ?_) (Nat.zero_le _) (by omega) rfl (by simp)
    simp only [List.mem_cons, List.not_mem_nil, or_false] at hp
    subst hp
    exact kv_nil rfl
  have HC1 := Lib.hid (HS1.out _ W3 hk3 (HT.out.below hb3))
  have HB3 := Lib.hid hb3
  have HW3 := Lib.hid hW3
  clear hk3 hb3 hW3
  go_enter Tryd.func17, Tryd.ntmps17
  go_wp2_with fail
  refine (Calls.at_world (by rw [HW3.out]; rfl) HC1.out).mono ?_
  rintro e w4 ⟨a4, c4, rfl, ⟨g4, o4, rfl, k4⟩, hb4⟩
  have HB4 := Lib.hid (HB3.out.call hb4)
  have hz4 := hb4.size
  have hg4 : g4 < w4.heap.size := World.block_lt_of_cell? w4 ⟨g4, o4 + 3, none⟩ k4
  clear hb4 HC1 HS1
  obtain ⟨W5, hW5⟩ : ∃ W5, W5 = (w4.alloc (.cells #[.int .i64 7, .string ⟨#[]⟩, .slice (some ⟨g4, o4, none⟩) 1 c4, .bool true, .int .i64 0, .int .i64 0] 24)).alloc (.cells (docsCells [(eDoc 3 [], .slice none 0 0)]).toArray 24) := ⟨_, rfl⟩
  have hz5 : W5.heap.size = w4.heap.size + 2 := by rw [hW5]; simp
  have hb5 : Below w4.heap.size w4 W5 := by rw [hW5]; exact ((Below.refl _ w4).alloc (Nat.le_refl _) _).alloc (by simp) _
  have hblk5 : Blk W5 w4.heap.size [.int .i64 7, .string ⟨#[]⟩, .slice (some ⟨g4, o4, none⟩) 1 c4, .bool true, .int .i64 0, .int .i64 0] 24 := by rw [hW5]; exact (Blk.new _ [.int .i64 7, .string ⟨#[]⟩, .slice (some ⟨g4, o4, none⟩) 1 c4, .bool true, .int .i64 0, .int .i64 0] _).alloc _
  have hk5 : KV W5 0 W5.heap.size l1D (.slice (some ⟨w4.heap.size + 1, 0, none⟩) 1 1) := by
    have b0 : Blk W5 (w4.heap.size + 1) (docsCells [(eDoc 3 [], .slice none 0 0)]) 24 := by rw [hW5]; exact Blk.new' _ _ (by simp)
    refine kv_made (cap := 1) [(eDoc 3 [], .slice none 0 0)] b0 (fun p hp => ?_) (Nat.zero_le _) (by omega) rfl (by simp)
    simp only [List.mem_cons, List.not_mem_nil, or_false] at hp
    subst hp
    exact kv_nil rfl
  have HC2 := Lib.hid (HS2.out _ W5 hk5 (HT.out.below (HB4.out.call hb5)))
  have HB5 := Lib.hid (HB4.out.call hb5)
  have HBK5 := Lib.hid hblk5
  have k5 := (hb5.cell (p := ⟨g4, o4 + 3, none⟩) hg4).trans k4
  have hg5 : g4 < W5.heap.size := by omega
  have HW5 := Lib.hid hW5
  clear hk5 hb5 hW5 hblk5 HS2 k4
  go_wp2_with fail
  refine (Calls.at_world (by rw [HW5.out]; rfl) HC2.out).mono ?_
  rintro e w6 ⟨a6, c6, rfl, hb6⟩
  have hb6' : Below W5.heap.size W5 w6 := hb6
  have HB6 := Lib.hid (HB5.out.call hb6')
  have bk6 := HBK5.out.below hb6'
  have k6 := (hb6'.cell (p := ⟨g4, o4 + 3, none⟩) hg5).trans k5
  have hz6 := hb6'.size
  have hl6 : w4.heap.size < w6.heap.size := bk6.lt
  have hg6 : g4 < w6.heap.size := by omega
  have q2 := bk6.cell 2
  have q3 := bk6.cell 3
  simp only [List.getElem?_cons_zero, List.getElem?_cons_succ] at q2 q3
  have q2' := fun o => (alloc_cell w6 o ⟨w4.heap.size, 2, none⟩ hl6).trans q2
  have q3' := fun o => (alloc_cell w6 o ⟨w4.heap.size, 3, none⟩ hl6).trans q3
  have k6' := fun o => (alloc_cell w6 o ⟨g4, o4 + 3, none⟩ hg6).trans k6
  clear hb6 hb6' bk6 k5 HC2
  go_wp2_with fail
  go_ret
  exact ⟨rfl, HB6.out.alloc (by have := HB6.out.size; omega) _⟩

/-! ### The walk -/
theorem ways_next {w wr : World} {gd : Nat} {D : Doc} {kv : Value} (hb : Blk wr gd (docCells D kv) 24) (hk : KV wr (gd + 1) wr.heap.size D kv) (hbw : Below w.heap.size w wr) (hgd : w.heap.size ≤ gd) (D' : Doc) (l : List (Doc × Value)) (hl : ∀ p ∈ l, p = (D, kv) ∨ p = (softD, .slice none 0 0)) (hD : D'.kids = l.map Prod.fst)
    (W' : World) (hW : W' = (((((((wr.setCell ⟨gd, 0, none⟩ (.int .i64 D'.kind)).setCell ⟨gd, 1, none⟩ (.string D'.text)).setCell ⟨gd, 2, none⟩ (.slice (some ⟨wr.heap.size, 0, none⟩) l.length l.length)).setCell ⟨gd, 3, none⟩ (.bool D'.brk)).setCell ⟨gd, 4, none⟩ (.int .i64 D'.id)).setCell ⟨gd, 5, none⟩ (.int .i64 D'.width)).alloc (.cells (docsCells l).toArray 24))) :
    Blk W' gd (docCells D' (.slice (some ⟨wr.heap.size, 0, none⟩) l.length l.length)) 24 ∧ KV W' (gd + 1) W'.heap.size D' (.slice (some ⟨wr.heap.size, 0, none⟩) l.length l.length) ∧ Below w.heap.size w W' := by
  have hlt := hb.lt
  have hz : W'.heap.size = wr.heap.size + 1 := by rw [hW]; simp
  have hkeep : ∀ b, b < wr.heap.size → b ≠ gd → W'.heap[b]? = wr.heap[b]? := fun b h1 h2 => by
    rw [hW]
    exact (Below.heap_alloc _ _ b (by simpa using h1)).trans (set6_heap wr gd b _ _ _ _ _ _ h2)
  refine ⟨by rw [hW]; exact (set6_blk hb rfl D' _).alloc _, ?_, by rw [hW]; exact (set6_below hbw gd _ _ _ _ _ _ hgd).alloc (by simp; omega) _⟩
  have hbk : Blk W' wr.heap.size (docsCells l) 24 := by rw [hW]; exact Blk.new' _ _ (by simp)
  refine kv_made l hbk (fun p hp => ?_) (by omega) (by omega) hD (Nat.le_refl _)
  rcases hl p hp with rfl | rfl
  · exact hk.of (Nat.le_refl _) (by omega) (fun b h1 h2 => hkeep b h2 (by omega))
  · exact kv_nil rfl
theorem u64_natW (a : Int) : ∃ u : Nat, IntKind.u64.wrap a = (u : Int) := by
  refine ⟨(IntKind.u64.wrap a).toNat, ?_⟩
  rw [IntKind.wrap_u64]
  omega
def kindOf (r : Nat) : Int := if r = 0 then 5 else if r = 1 then 6 else if r = 2 then 16 else 3

set_option maxHeartbeats 16000000 in
theorem spreadWays_any (v : Value) (zs : List Int) (kd : Int) (w : World) (hv : IntsIn w w.heap.size v zs) (hm : zs.length ≤ maxLen) (hT : Tabs w) :
    Calls Tryd.prog 4 #[v, .int .i64 kd] w fun e w' => e = .returned (.bool true) ∧ Below w.heap.size w w' := by
  have hm9 : zs.length ≤ 9223372036854775807 := by unfold maxLen at hm; omega
  clear hm
  obtain ⟨A, c, rfl⟩ := hv.len
  have HV := Lib.hid hv
  have HT := Lib.hid hT
  clear hv hT
  obtain ⟨ua, hua⟩ := u64_natW kd
  obtain ⟨r, hr⟩ : ∃ r, r = ua % 4 := ⟨_, rfl⟩
  have hr4 : r < 4 := by omega
  have hra : (ua : Int) % 4 = (r : Int) := by omega
  have hrc : r = 0 ∨ r = 1 ∨ r = 2 ∨ r = 3 := by omega
  obtain ⟨up, hup⟩ : ∃ up, up = ((r : Int) != 3) := ⟨_, rfl⟩
  have hok0 : WaysOk 0 (eDoc (kindOf r) []) up := by
    rcases hrc with rfl | rfl | rfl | rfl
    · subst hup; exact ways_new 5 (by decide)
    · subst hup; exact ways_new 6 (by decide)
    · subst hup; exact ways_new 16 (by decide)
    · subst hup; exact ways_new 3 (by decide)
  have hcell : ∀ W : World, (W.alloc (.cells #[.int .i64 5, .int .i64 6, .int .i64 16, .int .i64 3] 3)).cell? ⟨W.heap.size, r, none⟩ = some (.int .i64 (kindOf r)) := fun W => by
    have h := Blk.new W [.int .i64 5, .int .i64 6, .int .i64 16, .int .i64 3] 3
    rcases hrc with rfl | rfl | rfl | rfl
    · exact h.cell 0
    · exact h.cell 1
    · exact h.cell 2
    · exact h.cell 3
  have hri : (r : Int) < 4 := by omega
  have HOK0 := Lib.hid hok0
  have HR := Lib.hid hr
  generalize kindOf r = kk at *
  clear hrc hok0 hr
  have hup' : ((r : Int) != 3) = up := hup.symm
  clear hup
  go_enter Tryd.func4, Tryd.ntmps4
  go_wp2_with (go_at_call 17; refine (awake16_any _ HT.out).mono ?_; rintro e w1 ⟨rfl, hb1⟩; have HB1 := Lib.hid hb1; have hz1 := hb1.size; clear hb1)
  obtain ⟨gd, hgd⟩ : ∃ gd, gd = w1.heap.size + 1 := ⟨_, rfl⟩
  obtain ⟨W2, hW2⟩ : ∃ W2, W2 = (w1.alloc (.cells #[.int .i64 5, .int .i64 6, .int .i64 16, .int .i64 3] 3)).alloc (.cells (docCells (eDoc kk []) (.slice none 0 0)).toArray 24) := ⟨_, rfl⟩
  have hst : Blk W2 gd (docCells (eDoc kk []) (.slice none 0 0)) 24 ∧ Below w.heap.size w W2 := by
    rw [hW2]
    exact ⟨Blk.new' _ _ (by simp [hgd]), (HB1.out.alloc hz1 _).alloc (by simp; omega) _⟩
  have HST := Lib.hid hst
  have HW2 := Lib.hid hW2
  have hgdw : w.heap.size ≤ gd := by omega
  rw [← hgd]
  have HGD := Lib.hid hgd
  clear hst hW2 hgd hcell hup' hua hra hri hr4
  go_loopw [6, 7] (fun uv i wr => ∃ (j : Nat) (u : Bool) (D : Doc) (kv : Value), j ≤ zs.length ∧ j ≤ 20 ∧ i = .int .i64 (j : Int) ∧ uv = .bool u ∧ WaysOk j D u ∧ Blk wr gd (docCells D kv) 24 ∧ KV wr (gd + 1) wr.heap.size D kv ∧ Below w.heap.size w wr) (fun _ i _ => 20 - (intOf i).toNat)
  case atStart =>
    have h := HST.out
    rw [HW2.out] at h
    exact ⟨0, up, _, _, Nat.zero_le _, by omega, rfl, rfl, HOK0.out, h.1, kv_nil rfl, h.2⟩
  case round =>
    obtain ⟨j, u, D, kv, hj, hj20, rfl, rfl, hok, hbk, hkv, hbw⟩ := hrel
    obtain ⟨ak, ck, rfl⟩ := hkv.slice
    obtain ⟨nk, hnk⟩ : ∃ nk, nk = D.kids.length := ⟨_, rfl⟩
    rw [← hnk] at hbk hkv
    have c0 := hbk.cell 0; have c1 := hbk.cell 1; have c2 := hbk.cell 2; have c3 := hbk.cell 3; have c4 := hbk.cell 4; have c5 := hbk.cell 5
    have f0 := hbk.frozen 0; have f1 := hbk.frozen 1; have f2 := hbk.frozen 2; have f3 := hbk.frozen 3; have f4 := hbk.frozen 4; have f5 := hbk.frozen 5
    simp only [docCells, List.getElem?_cons_zero, List.getElem?_cons_succ] at c0 c1 c2 c3 c4 c5
    have hlt := hbk.lt
    have d0 := fun o => (hbk.alloc o).cell 0; have d1 := fun o => (hbk.alloc o).cell 1; have d2 := fun o => (hbk.alloc o).cell 2; have d3 := fun o => (hbk.alloc o).cell 3; have d4 := fun o => (hbk.alloc o).cell 4; have d5 := fun o => (hbk.alloc o).cell 5
    simp only [docCells, List.getElem?_cons_zero, List.getElem?_cons_succ] at d0 d1 d2 d3 d4 d5
    have HOK := Lib.hid hok
    have HBK := Lib.hid hbk
    have HKV := Lib.hid hkv
    have HBW := Lib.hid hbw
    clear hok hbk hkv hnk HST HOK0 HW2
    by_cases hgo : j < zs.length ∧ j < 20
    case neg =>
      obtain ⟨hcode, hbrk, hbulk⟩ := ways_code HOK.out (by omega)
      obtain ⟨Wg, hWg⟩ : ∃ Wg, Wg = wr.alloc (.cells (docsCells [(D, .slice ak nk ck)]).toArray 24) := ⟨_, rfl⟩
      have hbg : Below wr.heap.size wr Wg := by rw [hWg]; exact (Below.refl _ wr).alloc (Nat.le_refl _) _
      have hzg : Wg.heap.size = wr.heap.size + 1 := by rw [hWg]; simp
      have hkG : KV Wg 0 Wg.heap.size (eDoc 7 [D]) (.slice (some ⟨wr.heap.size, 0, none⟩) 1 1) := by
        have b0 : Blk Wg wr.heap.size (docsCells [(D, .slice ak nk ck)]) 24 := by rw [hWg]; exact Blk.new _ _ _
        refine kv_made (cap := 1) [(D, .slice ak nk ck)] b0 (fun p hp => ?_) (Nat.zero_le _) (by omega) rfl (by simp)
        simp only [List.mem_cons, List.not_mem_nil, or_false] at hp
        subst hp
        exact (HKV.out.below hbg (Nat.le_refl _)).wide (Nat.zero_le _) (by omega)
      have hS : Calls Tryd.prog 12 #[docV (eDoc 7 [D]) (.slice (some ⟨wr.heap.size, 0, none⟩) 1 1)] Wg fun e w' => (∃ k t a n c i y, e = .returned (.agg #[.int .i64 k, .string t, .slice a n c, .bool u, .int .i64 i, .int .i64 y])) ∧ Below Wg.heap.size Wg w' := by
        refine (spread_any _ _ Wg hkG hbulk (HT.out.below (HBW.out.call hbg))).mono ?_
        rintro e w' ⟨kv', rfl, hkw, hb⟩
        rw [show decide ((eDoc 7 [D]).code = 0) = true from decide_eq_true hcode] at hkw ⊢
        obtain ⟨a, c, rfl⟩ := (KG.kv hkw).slice
        unfold docV
        rw [hbrk]
        exact ⟨⟨_, _, _, _, _, _, _, rfl⟩, hb⟩
      have HS := Lib.hid hS
      have HBG := Lib.hid (HBW.out.call hbg)
      have HWG := Lib.hid hWg
      clear hcode hbrk hbulk hWg hbg hkG hS hzg
      have huu : (u == u) = true := by simp
      by_cases hg1 : j < zs.length
      · have hi1 : (j : Int) < (zs.length : Int) := by omega
        have hi2 : (20 : Int) ≤ (j : Int) := by omega
        clear hgo
        go_wp2_with fail
        refine (Calls.at_world (by rw [HWG.out]; rfl) HS.out).mono ?_
        rintro e w5 ⟨⟨k, t, a, n, c, i, y, rfl⟩, hb5⟩
        have HB5 := Lib.hid (HBG.out.call hb5)
        clear hb5
        go_wp2_with fail
        go_ret
        exact ⟨rfl, HB5.out.alloc (by have := HB5.out.size; omega) _⟩
      · have hi1 : (zs.length : Int) ≤ (j : Int) := by omega
        clear hgo
        go_wp2_with fail
        refine (Calls.at_world (by rw [HWG.out]; rfl) HS.out).mono ?_
        rintro e w5 ⟨⟨k, t, a, n, c, i, y, rfl⟩, hb5⟩
        have HB5 := Lib.hid (HBG.out.call hb5)
        clear hb5
        go_wp2_with fail
        go_ret
        exact ⟨rfl, HB5.out.alloc (by have := HB5.out.size; omega) _⟩
    obtain ⟨hg1, hg2⟩ := hgo
    have hi1 : (j : Int) < (zs.length : Int) := by omega
    have hi2 : (j : Int) < 20 := by omega
    rcases HV.out with ⟨A', c', e, e2⟩ | ⟨b, off, c', e, hblt, hp, hc⟩
    · subst e2; simp at hg1
    injection e with e1 e2 e3
    subst e1 e3
    have hz := (hbw.cell (p := ⟨b, off + j, none⟩) hblt).trans (hc j hg1)
    generalize zs.getD j 0 = z at *
    obtain ⟨ub, hub⟩ := u64_natW z
    have hq : (ub : Int) % 8 = 0 ∨ (ub : Int) % 8 = 1 ∨ (ub : Int) % 8 = 2 ∨ (ub : Int) % 8 = 3 ∨ (ub : Int) % 8 = 4 ∨ (ub : Int) % 8 = 5 ∨ (ub : Int) % 8 = 6 ∨ (ub : Int) % 8 = 7 := by omega
    clear hc e2 hbw
    rcases hq with hq | hq | hq | hq | hq | hq | hq | hq
    · go_wp2_with fail
      go_roundw
      case rel => exact ⟨j + 1, stepUp 0 u, stepD 0 D, .slice (some ⟨wr.heap.size, 0, none⟩) 2 2, by omega, by omega, by go_num, rfl, ways_step HOK.out 0 (by omega), (ways_next HBK.out HKV.out HBW.out hgdw (stepD 0 D) [(softD, .slice none 0 0), (D, .slice ak nk ck)] (by intro p hp; simp only [List.mem_cons, List.not_mem_nil, or_false] at hp; rcases hp with rfl | rfl <;> simp) rfl _ rfl).1, (ways_next HBK.out HKV.out HBW.out hgdw (stepD 0 D) [(softD, .slice none 0 0), (D, .slice ak nk ck)] (by intro p hp; simp only [List.mem_cons, List.not_mem_nil, or_false] at hp; rcases hp with rfl | rfl <;> simp) rfl _ rfl).2.1, (ways_next HBK.out HKV.out HBW.out hgdw (stepD 0 D) [(softD, .slice none 0 0), (D, .slice ak nk ck)] (by intro p hp; simp only [List.mem_cons, List.not_mem_nil, or_false] at hp; rcases hp with rfl | rfl <;> simp) rfl _ rfl).2.2⟩
      case measure => simp [intOf]; omega
    · go_wp2_with fail
      go_roundw
      case rel => exact ⟨j + 1, stepUp 1 u, stepD 1 D, .slice (some ⟨wr.heap.size, 0, none⟩) 1 1, by omega, by omega, by go_num, rfl, ways_step HOK.out 1 (by omega), (ways_next HBK.out HKV.out HBW.out hgdw (stepD 1 D) [(D, .slice ak nk ck)] (by intro p hp; simp only [List.mem_cons, List.not_mem_nil, or_false] at hp; subst hp; simp) rfl _ rfl).1, (ways_next HBK.out HKV.out HBW.out hgdw (stepD 1 D) [(D, .slice ak nk ck)] (by intro p hp; simp only [List.mem_cons, List.not_mem_nil, or_false] at hp; subst hp; simp) rfl _ rfl).2.1, (ways_next HBK.out HKV.out HBW.out hgdw (stepD 1 D) [(D, .slice ak nk ck)] (by intro p hp; simp only [List.mem_cons, List.not_mem_nil, or_false] at hp; subst hp; simp) rfl _ rfl).2.2⟩
      case measure => simp [intOf]; omega
    · go_wp2_with fail
      go_roundw
      case rel => exact ⟨j + 1, stepUp 2 u, stepD 2 D, .slice (some ⟨wr.heap.size, 0, none⟩) 1 1, by omega, by omega, by go_num, rfl, ways_step HOK.out 2 (by omega), (ways_next HBK.out HKV.out HBW.out hgdw (stepD 2 D) [(D, .slice ak nk ck)] (by intro p hp; simp only [List.mem_cons, List.not_mem_nil, or_false] at hp; subst hp; simp) rfl _ rfl).1, (ways_next HBK.out HKV.out HBW.out hgdw (stepD 2 D) [(D, .slice ak nk ck)] (by intro p hp; simp only [List.mem_cons, List.not_mem_nil, or_false] at hp; subst hp; simp) rfl _ rfl).2.1, (ways_next HBK.out HKV.out HBW.out hgdw (stepD 2 D) [(D, .slice ak nk ck)] (by intro p hp; simp only [List.mem_cons, List.not_mem_nil, or_false] at hp; subst hp; simp) rfl _ rfl).2.2⟩
      case measure => simp [intOf]; omega
    · go_wp2_with fail
      go_roundw
      case rel => exact ⟨j + 1, stepUp 3 u, stepD 3 D, .slice (some ⟨wr.heap.size, 0, none⟩) 1 1, by omega, by omega, by go_num, rfl, ways_step HOK.out 3 (by omega), (ways_next HBK.out HKV.out HBW.out hgdw (stepD 3 D) [(D, .slice ak nk ck)] (by intro p hp; simp only [List.mem_cons, List.not_mem_nil, or_false] at hp; subst hp; simp) rfl _ rfl).1, (ways_next HBK.out HKV.out HBW.out hgdw (stepD 3 D) [(D, .slice ak nk ck)] (by intro p hp; simp only [List.mem_cons, List.not_mem_nil, or_false] at hp; subst hp; simp) rfl _ rfl).2.1, (ways_next HBK.out HKV.out HBW.out hgdw (stepD 3 D) [(D, .slice ak nk ck)] (by intro p hp; simp only [List.mem_cons, List.not_mem_nil, or_false] at hp; subst hp; simp) rfl _ rfl).2.2⟩
      case measure => simp [intOf]; omega
    · go_wp2_with fail
      go_roundw
      case rel => exact ⟨j + 1, stepUp 4 u, stepD 4 D, .slice (some ⟨wr.heap.size, 0, none⟩) 2 2, by omega, by omega, by go_num, rfl, ways_step HOK.out 4 (by omega), (ways_next HBK.out HKV.out HBW.out hgdw (stepD 4 D) [(D, .slice ak nk ck), (softD, .slice none 0 0)] (by intro p hp; simp only [List.mem_cons, List.not_mem_nil, or_false] at hp; rcases hp with rfl | rfl <;> simp) rfl _ rfl).1, (ways_next HBK.out HKV.out HBW.out hgdw (stepD 4 D) [(D, .slice ak nk ck), (softD, .slice none 0 0)] (by intro p hp; simp only [List.mem_cons, List.not_mem_nil, or_false] at hp; rcases hp with rfl | rfl <;> simp) rfl _ rfl).2.1, (ways_next HBK.out HKV.out HBW.out hgdw (stepD 4 D) [(D, .slice ak nk ck), (softD, .slice none 0 0)] (by intro p hp; simp only [List.mem_cons, List.not_mem_nil, or_false] at hp; rcases hp with rfl | rfl <;> simp) rfl _ rfl).2.2⟩
      case measure => simp [intOf]; omega
    · go_wp2_with fail
      go_roundw
      case rel => exact ⟨j + 1, stepUp 5 u, stepD 5 D, .slice (some ⟨wr.heap.size, 0, none⟩) 2 2, by omega, by omega, by go_num, rfl, ways_step HOK.out 5 (by omega), (ways_next HBK.out HKV.out HBW.out hgdw (stepD 5 D) [(softD, .slice none 0 0), (D, .slice ak nk ck)] (by intro p hp; simp only [List.mem_cons, List.not_mem_nil, or_false] at hp; rcases hp with rfl | rfl <;> simp) rfl _ rfl).1, (ways_next HBK.out HKV.out HBW.out hgdw (stepD 5 D) [(softD, .slice none 0 0), (D, .slice ak nk ck)] (by intro p hp; simp only [List.mem_cons, List.not_mem_nil, or_false] at hp; rcases hp with rfl | rfl <;> simp) rfl _ rfl).2.1, (ways_next HBK.out HKV.out HBW.out hgdw (stepD 5 D) [(softD, .slice none 0 0), (D, .slice ak nk ck)] (by intro p hp; simp only [List.mem_cons, List.not_mem_nil, or_false] at hp; rcases hp with rfl | rfl <;> simp) rfl _ rfl).2.2⟩
      case measure => simp [intOf]; omega
    · go_wp2_with fail
      go_roundw
      case rel => exact ⟨j + 1, stepUp 6 u, stepD 6 D, .slice (some ⟨wr.heap.size, 0, none⟩) 1 1, by omega, by omega, by go_num, rfl, ways_step HOK.out 6 (by omega), (ways_next HBK.out HKV.out HBW.out hgdw (stepD 6 D) [(D, .slice ak nk ck)] (by intro p hp; simp only [List.mem_cons, List.not_mem_nil, or_false] at hp; subst hp; simp) rfl _ rfl).1, (ways_next HBK.out HKV.out HBW.out hgdw (stepD 6 D) [(D, .slice ak nk ck)] (by intro p hp; simp only [List.mem_cons, List.not_mem_nil, or_false] at hp; subst hp; simp) rfl _ rfl).2.1, (ways_next HBK.out HKV.out HBW.out hgdw (stepD 6 D) [(D, .slice ak nk ck)] (by intro p hp; simp only [List.mem_cons, List.not_mem_nil, or_false] at hp; subst hp; simp) rfl _ rfl).2.2⟩
      case measure => simp [intOf]; omega
    · go_wp2_with fail
      go_roundw
      case rel => exact ⟨j + 1, stepUp 7 u, stepD 7 D, .slice (some ⟨wr.heap.size, 0, none⟩) 2 2, by omega, by omega, by go_num, rfl, ways_step HOK.out 7 (by omega), (ways_next HBK.out HKV.out HBW.out hgdw (stepD 7 D) [(softD, .slice none 0 0), (D, .slice ak nk ck)] (by intro p hp; simp only [List.mem_cons, List.not_mem_nil, or_false] at hp; rcases hp with rfl | rfl <;> simp) rfl _ rfl).1, (ways_next HBK.out HKV.out HBW.out hgdw (stepD 7 D) [(softD, .slice none 0 0), (D, .slice ak nk ck)] (by intro p hp; simp only [List.mem_cons, List.not_mem_nil, or_false] at hp; rcases hp with rfl | rfl <;> simp) rfl _ rfl).2.1, (ways_next HBK.out HKV.out HBW.out hgdw (stepD 7 D) [(softD, .slice none 0 0), (D, .slice ak nk ck)] (by intro p hp; simp only [List.mem_cons, List.not_mem_nil, or_false] at hp; rcases hp with rfl | rfl <;> simp) rfl _ rfl).2.2⟩
      case measure => simp [intOf]; omega
end Go.Proofs.YtaojlnibkajfbaaDoor
