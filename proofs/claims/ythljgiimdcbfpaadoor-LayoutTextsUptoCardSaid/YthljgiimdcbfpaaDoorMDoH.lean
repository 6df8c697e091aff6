/- Package layout: do, group (printed by gen_do2.py). -/
import Derived.Test.YthljgiimdcbfpaaDoorMDoG
namespace Go.Proofs.YthljgiimdcbfpaaDoor
open Go.RowKit
set_option maxRecDepth 100000
set_option linter.unusedVariables false
set_option linter.unusedSimpArgs false

/-- The broken groups stored. -/
theorem MAt.setBrk {B0 b mb : Nat} {ov : OptV} {s : MS} {w : World} (h : MAt B0 b mb ov s w) (es : Array MapEntry) (ck : Nat) (brk : Int → Bool) (hb : BrkAt es brk) :
    MAt B0 b mb ov { s with brk := brk, es := es, clock := ck } { w with heap := w.heap.setIfInBounds mb (.map es ck) } ∧ Goes b mb s { s with brk := brk, es := es, clock := ck } w { w with heap := w.heap.setIfInBounds mb (.map es ck) } := by
  obtain ⟨n1, n2, n3, n4⟩ := h.ne
  have hml := h.X_lt (k := mb) (.inr (.inl rfl))
  have hne : ∀ k, k ≠ mb → (w.heap.setIfInBounds mb (.map es ck))[k]? = w.heap[k]? := fun k hk => Array.getElem?_setIfInBounds_ne (Ne.symm hk)
  have hG : Goes b mb s { s with brk := brk, es := es, clock := ck } w { w with heap := w.heap.setIfInBounds mb (.map es ck) } :=
    ⟨⟨rfl, rfl, rfl, by simp, fun k hk hx => hne k (fun e => hx (.inr (.inl e)))⟩, fun k hk => .inl hk⟩
  have hown : ∀ {e size n : Nat} {v : Value} {xs : List Value}, (∀ k, v.ownBlock = some k → k ≠ mb) → w.ownsRow B0 e size v n xs → World.ownsRow { w with heap := w.heap.setIfInBounds mb (.map es ck) } B0 e size v n xs := by
    intro e size n v xs hv hr
    refine ⟨hr.1, ?_⟩
    rcases hr.2 with h2 | ⟨g, cap, cur, h1, h2, h3, h4⟩
    · exact .inl h2
    · exact .inr ⟨g, cap, cur, h1, h2, (hne g (hv g (by rw [h1]; rfl))).trans h3, h4⟩
  refine ⟨{ blk := (hne b n1).trans h.blk, out := hown (fun k hk => (n2 k hk).2.1) h.out, stk := hown (fun k hk => (n3 k hk).2) h.stk, put := hown (fun k hk => (n4 k hk).2) h.put, map := ?_, brk := hb, apart := h.apart, lowb := h.lowb, lowm := h.lowm, low := by simpa using h.low, good := fun c hc => h.good_goes hG (h.good c hc), weight := h.weight, len := h.len, col0 := h.col0, col1 := h.col1, opt := h.opt }, hG⟩
  show (w.heap.setIfInBounds mb (.map es ck))[mb]? = _
  rw [Array.getElem?_setIfInBounds_self, if_pos hml]
/-- A kid pushed by a machine that has gone on. -/
theorem push_gone {B0 b mb : Nat} {ov : OptV} {s t : MS} {w V VB : World} (h : MAt B0 b mb ov s w) (ht : MAt B0 b mb ov t V) (hg : Goes b mb s t w V) (hb : Below V.heap.size V VB) {ind : Ind} {p : Option Addr} (hi : IndAt w (s.F b mb w) ind p) (fl : Bool) {x : Doc} {kg koff : Nat} (hd : DocsAt w B0 (s.F b mb w) [x] [⟨kg, koff, none⟩]) (hok : CmOk ind x) {gp n c : Nat} (hp : Blk VB gp [.pointer (some ⟨kg, koff, none⟩)] 66) (hgp : V.heap.size ≤ gp) (hn : n = 1) (hw : t.weight + wtL [x] ≤ 16777216) :
    Calls Tryd.prog 36 #[.pointer (some ⟨b, 0, none⟩), .pointer p, .bool fl, .slice (some ⟨gp, 0, none⟩) n c] VB fun e w' => e = .returned (.tuple #[]) ∧ ∃ t', t'.mach = pushM t.mach ind fl [x] ∧ MAt B0 b mb ov t' w' ∧ Goes b mb s t' w w' ∧ ∀ k, k < VB.heap.size → ¬ t.X b mb k → w'.heap[k]? = VB.heap[k]? := by
  have hd' : DocsAt V B0 (t.F b mb V) [x] [⟨kg, koff, none⟩] := ⟨hd.1, fun j h1 h2 => h.doc_goes hg (hd.2 j h1 h2)⟩
  refine (push_some ht hb (hg.ind hi) fl hd' (fun y hy => by rw [List.mem_singleton] at hy; rw [hy]; exact hok) (la := [⟨kg, koff, none⟩]) hp hgp hn hw).mono fun e w' he => ?_
  obtain ⟨rfl, t', m', a', g'⟩ := he
  exact ⟨rfl, t', m', a', (hg.trans (Goes.of_below hb)).trans g', fun k hk hx => g'.1.block k hk hx⟩
theorem set_map {h : Array Obj} {mb k : Nat} {x : Obj} (hk : k ≠ mb) : (h.setIfInBounds mb x)[k]? = h[k]? := Array.getElem?_setIfInBounds_ne (Ne.symm hk)
theorem put_one {B0 b mb : Nat} {ov : OptV} {s0 s : MS} {w0 w : World} (h : MAt B0 b mb ov s w) (hg0 : Goes b mb s0 s w0 w) (c : Cm) (hc : Good w B0 (s.F b mb w) c) (hw : s.weight + c.d.wt ≤ 16777216)
    {gg cap : Nat} {W' : World} (ho : W'.ownsRow B0 69 3 (.slice (some ⟨gg, 0, none⟩) (s.put.length + 1) cap) (s.put.length + 1) (cmCells s.put ++ c.cells))
    (hg : (w.drew.alloc (.cells c.cells.toArray 69)).grownBy W' s.vp.ownBlock) (hat : s.vp.ownBlock = some gg ∨ gg = (w.drew.alloc (.cells c.cells.toArray 69)).heap.size) :
    ∃ s', s'.mach = { s.mach with put := s.mach.put ++ [c.cmd] } ∧ MAt B0 b mb ov s' (W'.setCell ⟨b, 12, none⟩ (.slice (some ⟨gg, 0, none⟩) (s.put.length + 1) cap)) ∧ Goes b mb s0 s' w0 (W'.setCell ⟨b, 12, none⟩ (.slice (some ⟨gg, 0, none⟩) (s.put.length + 1) cap)) := by
  have hb : Below w.heap.size w (w.drew.alloc (.cells c.cells.toArray 69)) := (Below.refl _ w).drew.alloc (Nat.le_refl _) _
  have ha := h.below hb
  have hga : Goes b mb s s w (w.drew.alloc (.cells c.cells.toArray 69)) := Goes.of_below hb
  have hp := ha.putPut (v' := .slice (some ⟨gg, 0, none⟩) (s.put.length + 1) cap) (l := [c]) (W' := W') (by rw [List.length_append, List.length_singleton, cmCells_snoc]; exact ho) hg
    (by rcases hat with hat | hat
        · exact .inl (by rw [hat]; rfl)
        · exact .inr ⟨gg, rfl, by omega⟩)
    (by intro x hx; rw [List.mem_singleton.1 hx]; exact h.good_goes hga hc)
    (by unfold MS.weight at hw ⊢; simp only [List.map_append, List.sum_append, List.map_cons, List.map_nil, List.sum_cons, List.sum_nil]; omega)
  exact ⟨_, by unfold MS.mach; simp [Cm.cmd], hp.1, (hg0.trans hga).trans hp.2⟩

set_option maxHeartbeats 16000000 in
theorem do_group {B0 b mb : Nat} {ov : OptV} {s : MS} {w : World} (h : MAt B0 b mb ov s w) {ind : Ind} {p : Option Addr} (hi : IndAt w (s.F b mb w) ind p) (flat : Bool) {d : Doc} {a : Addr} (hd : DocAt w B0 (s.F b mb w) d a) (hok : CmOk ind d) (hk : d.kind = 7) (hw : s.weight + d.wt ≤ 8388608) :
    Calls Tryd.prog 37 #[.pointer (some ⟨b, 0, none⟩), .agg #[.pointer p, .bool flat, .pointer (some a)]] w fun e w' => Ends B0 b mb ov s w (doM ov.o s.mach ⟨ind, flat, d⟩) e w' := by
  obtain ⟨g, off, kv, rfl, hFg, h6, hkv⟩ := hd
  obtain ⟨A, cap, hkvs⟩ := hkv.slice
  rw [hkvs] at hkv
  obtain ⟨hn0, hnc, kg, koff, hA, hds⟩ := docs_kids h hkv
  have hnl := kids_len_bulk hok.bulk
  have hbW : Below w.heap.size w (w.alloc (.cells #[.pointer p, .bool flat, .pointer (some ⟨g, off, none⟩)] 69)) := (Below.refl _ w).alloc (Nat.le_refl _) _
  have hcW : Blk (w.alloc (.cells #[.pointer p, .bool flat, .pointer (some ⟨g, off, none⟩)] 69)) w.heap.size [.pointer p, .bool flat, .pointer (some ⟨g, off, none⟩)] 69 := Blk.new' (W := w) _ _ rfl
  obtain ⟨W, hW⟩ : ∃ W, W = w.alloc (.cells #[.pointer p, .bool flat, .pointer (some ⟨g, off, none⟩)] 69) := ⟨_, rfl⟩
  rw [← hW] at hbW hcW
  have hgl : g < w.heap.size := hFg.1
  have k0 := (hbW.cell (p := ⟨g, off, none⟩) hgl).trans h6.kind
  have k2 := (hbW.cell (p := ⟨g, off + 2, none⟩) hgl).trans h6.kids
  rw [hk] at k0
  rw [hkvs] at k2
  have HFA : Hid (FAt B0 b mb ov s w p s W) := Lib.hid { m := h.below hbW, g := Goes.of_below hbW, x := hcW.cell 0, lt := hcW.lt, nx := fun hx => by have := h.X_lt hx; omega }
  have x0 := hcW.cell 0
  have x1 := hcW.cell 1
  have x2 := hcW.cell 2
  simp only [List.getElem?_cons_zero, List.getElem?_cons_succ] at x0 x1 x2
  have hWs := hcW.lt
  have HWW := Lib.hid hW
  have HM := Lib.hid h
  have HI := Lib.hid hi
  have HOK := Lib.hid hok
  have HDS := Lib.hid hds
  have HBW := Lib.hid hbW
  have HWT := Lib.hid hw
  have HK := Lib.hid hk
  have HA := Lib.hid hA
  have HFG := Lib.hid hFg
  have hn1 := kids_7 hok.shape hk
  obtain rfl := hA (by omega)
  rw [hn1] at k2
  have hgW : g < W.heap.size := Nat.lt_of_lt_of_le hgl hbW.size
  have HX : Hid (¬ s.X b mb w.heap.size) := Lib.hid HFA.out.nx
  have HWB := Lib.hid (wide_bound hok)
  have HSZ := Lib.hid hbW.size
  have HN1 := Lib.hid hn1
  have k3 := (hbW.cell (p := ⟨g, off + 3, none⟩) hgl).trans h6.brk
  have k4 := (hbW.cell (p := ⟨g, off + 4, none⟩) hgl).trans h6.id
  have HRF : Hid (doM ov.o s.mach ⟨ind, flat, d⟩ = some (pushM { s.mach with brk := if 0 < d.id then (fun j => if j = d.id then !(flat || (!d.brk && fitsM ov.o s.mach true false [d.kids[0]])) else s.brk j) else s.brk } ind (flat || (!d.brk && fitsM ov.o s.mach true false [d.kids[0]])) [d.kids[0]])) := Lib.hid (by
    rw [← kid0_nth (by omega)]
    cases d
    simp only [Doc.kind] at hk
    subst hk
    rfl)
  clear h hi hok hds hbW hW hw hcW h6 hkv hFg hkvs hn0 hk hnc
  generalize hyf : fitsM ov.o s.mach true false [d.kids[0]] = yf at *
  have HYF := Lib.hid hyf
  generalize d.brk = yb at *
  generalize d.id = ii at *
  clear hyf
  have hbl := HFA.out.m.blk.lt
  cases flat
  · cases yb
    · cases yf
      · go_enter Tryd.func37, Tryd.ntmps37
        go_upto_region 1 with fail
        rw [← HWW.out]
        go_wp2_with fail
        refine (fits_is ((HFA.out.next ((Below.refl W.heap.size W).alloc (Nat.le_refl _) (.cells #[.pointer (some ⟨kg, koff, none⟩)] 66))).m) true false (ptrs_at (la := [⟨kg, koff, none⟩]) (by exact Blk.new' (W := W) (g := W.heap.size) [.pointer (some ⟨kg, koff, none⟩)] 66 rfl) (by simp) rfl 1) ((HFA.out.next ((Below.refl W.heap.size W).alloc (Nat.le_refl _) (.cells #[.pointer (some ⟨kg, koff, none⟩)] 66))).docs HM.out (docs_nth HDS.out 0 (by have := HN1.out; omega))) (ok_nth HOK.out.shape HOK.out.bulk 0 (by have := HN1.out; omega)) (by have := wt_nth d 0 (by have := HN1.out; omega); have := HWT.out; omega)).mono ?_
        rintro e w1 ⟨rfl, hb1⟩
        have HW1 : Hid (Below W.heap.size W w1) := Lib.hid (((Below.refl W.heap.size W).alloc (Nat.le_refl _) (.cells #[.pointer (some ⟨kg, koff, none⟩)] 66)).trans (hb1.mono (by simp)))
        clear hb1
        rw [HYF.out]
        go_upto_region 19 with fail
        have hkV4 := (HW1.out.cell (p := ⟨g, off + 4, none⟩) hgW).trans k4
        have HR1 : Hid (doM ov.o s.mach ⟨ind, false, d⟩ = some (pushM { s.mach with brk := if 0 < ii then (fun j => if j = ii then true else s.brk j) else s.brk } ind false [d.kids[0]])) := Lib.hid HRF.out
        by_cases hid : 0 < ii
        · have HR : Hid (doM ov.o s.mach ⟨ind, false, d⟩ = some (pushM { s.mach with brk := fun j => if j = ii then true else s.brk j } ind false [d.kids[0]])) := Lib.hid (by rw [HR1.out, if_pos hid])
          have hmV := (HFA.out.next HW1.out).m
          have c13 := hmV.cells.2.2.2.2.2.2.2.1
          obtain ⟨es2, ck2, hup, hbr⟩ := update_brk (w := w1.drew) hmV.map hmV.brk ii true
          have hsb := (hmV.below (w' := w1.drew) (Below.refl w1.heap.size w1).drew).setBrk es2 ck2 _ hbr
          have hmw : mb < w.heap.size := HM.out.X_lt (.inr (.inl rfl))
          have hmg : g ≠ mb := fun e => HFG.out.2 (.inr (.inl e))
          have hmb : b ≠ mb := hmV.ne.1
          obtain ⟨V2, eV2⟩ : ∃ V2, V2 = { w1.drew with heap := w1.drew.heap.setIfInBounds mb (.map es2 ck2) } := ⟨_, rfl⟩
          have hb1 : V2.heap[w.heap.size]? = W.heap[w.heap.size]? := by rw [eV2]; exact (set_map (by omega)).trans (HW1.out.block _ hWs)
          have hb2 : V2.heap[g]? = W.heap[g]? := by rw [eV2]; exact (set_map hmg).trans (HW1.out.block _ hgW)
          have hb3 : V2.cell? ⟨b, 13, none⟩ = some (.map (some mb)) := (World.cell?_of_block (w := w1) (a := ⟨b, 13, none⟩) (by rw [eV2]; exact set_map hmb)).trans c13
          have hsz2 : V2.heap.size = w1.heap.size := by rw [eV2]; simp
          rw [← eV2] at hup hsb
          have HSB := Lib.hid hsb
          have HGS := Lib.hid (((HFA.out.next HW1.out).g.trans (Goes.of_below (Below.refl w1.heap.size w1).drew)).trans hsb.2)
          have HB1 := Lib.hid hb1
          have HB2 := Lib.hid hb2
          have HB3 := Lib.hid hb3
          have HS2 := Lib.hid hsz2
          have HZ2 := Lib.hid HW1.out.size
          clear hmV hsb hbr hb1 hb2 hb3 hsz2 hmw hmg hmb eV2
          go_upto_region 20 with fail
          refine wp_region_seq (fun w' => (w'.heap[w.heap.size]? = W.heap[w.heap.size]? ∧ w'.heap[g]? = W.heap[g]?) ∧ w'.cell? ⟨b, 13, none⟩ = some (.map (some mb))) 10 1 (by kernel_rfl) rfl (by kernel_rfl) (by intro _ _ d _ _ h; cases d <;> exact h) ⟨⟨HW1.out.block _ hWs, HW1.out.block _ hgW⟩, c13⟩ ?_
          simp only [List.take_succ_cons, List.take_zero, List.drop_succ_cons, List.drop_zero, List.cons_append, List.nil_append]
          repeat (refine wpHeld_step rfl ?_; apply Exists.intro; refine ⟨fun wq hq' => ?_, ?_⟩; (obtain ⟨hq, qc⟩ := hq'; have qx0 := (World.cell?_of_block (a := ⟨w.heap.size, 0, none⟩) hq.1).trans x0; have qx1 := (World.cell?_of_block (a := ⟨w.heap.size, 1, none⟩) hq.1).trans x1; have qx2 := (World.cell?_of_block (a := ⟨w.heap.size, 2, none⟩) hq.1).trans x2; have qk2 := (World.cell?_of_block (a := ⟨g, off + 2, none⟩) hq.2).trans k2; have qk4 := (World.cell?_of_block (a := ⟨g, off + 4, none⟩) hq.2).trans k4; go_simp; first | done | rfl); simp only [Act.put, List.setIfInBounds_toArray, List.set_cons_zero, List.set_cons_succ])
          change wpSeq _ _ _ _ _ _ _
          refine wpSeq_step rfl (fun K hK => ?_)
          go_simp
          refine hK _ _ ⟨⟨HB1.out, HB2.out⟩, HB3.out⟩ ?_
          clear hK K
          try simp only [Act.put, List.setIfInBounds_toArray, List.set_cons_zero, List.set_cons_succ]
          first
            | change Exit.then _ _ Exit.normal _ _
            | change Exit.inBlock _ _ Exit.normal _ _
          clear hup c13 hkV4
          go_upto_region 21 with fail
          refine wp_region_seq (fun w' => w'.heap[w.heap.size]? = W.heap[w.heap.size]? ∧ w'.heap[g]? = W.heap[g]?) 9 2 (by kernel_rfl) rfl (by kernel_rfl) (by intro _ _ d _ _ h; cases d <;> exact h) ⟨HB1.out, HB2.out⟩ ?_
          simp only [List.take_succ_cons, List.take_zero, List.drop_succ_cons, List.drop_zero, List.cons_append, List.nil_append]
          repeat (refine wpHeld_step rfl ?_; apply Exists.intro; refine ⟨fun wq hq => ?_, ?_⟩; (have qx0 := (World.cell?_of_block (a := ⟨w.heap.size, 0, none⟩) hq.1).trans x0; have qx1 := (World.cell?_of_block (a := ⟨w.heap.size, 1, none⟩) hq.1).trans x1; have qx2 := (World.cell?_of_block (a := ⟨w.heap.size, 2, none⟩) hq.1).trans x2; have qk2 := (World.cell?_of_block (a := ⟨g, off + 2, none⟩) hq.2).trans k2; go_simp; first | done | rfl); simp only [Act.put, List.setIfInBounds_toArray, List.set_cons_zero, List.set_cons_succ])
          change wpSeq _ _ _ _ _ _ _
          refine wpSeq_step rfl (fun K hK => ?_)
          go_simp
          have hbVB : Below V2.heap.size V2 (V2.alloc (.cells #[.pointer (some ⟨kg, koff, none⟩)] 66)).drew := ((Below.refl _ _).alloc (Nat.le_refl _) _).drew
          have hkVB : Blk (V2.alloc (.cells #[.pointer (some ⟨kg, koff, none⟩)] 66)).drew V2.heap.size [.pointer (some ⟨kg, koff, none⟩)] 66 := Blk.new' (W := V2) _ _ rfl
          obtain ⟨VB, eVB⟩ : ∃ VB, VB = (V2.alloc (.cells #[.pointer (some ⟨kg, koff, none⟩)] 66)).drew := ⟨_, rfl⟩
          rw [← eVB] at hbVB hkVB ⊢
          have HLVB := Lib.hid hbVB
          have HKVB := Lib.hid hkVB
          clear hbVB hkVB eVB
          have hv1 : w.heap.size < V2.heap.size := by have := HS2.out; have := HZ2.out; omega
          have hv2 : g < V2.heap.size := by omega
          refine hK _ _ ⟨(HLVB.out.block _ hv1).trans HB1.out, (HLVB.out.block _ hv2).trans HB2.out⟩ ?_
          clear hK K
          try simp only [Act.put, List.setIfInBounds_toArray, List.set_cons_zero, List.set_cons_succ]
          refine wpSeq_step rfl (fun K hK => ?_)
          go_simp
          refine (push_gone (n := 1) HM.out HSB.out.1 HGS.out HLVB.out HI.out false (docs_nth HDS.out 0 (by have := HN1.out; omega)) (HOK.out.kid (List.getElem_mem _)) HKVB.out (Nat.le_refl _) rfl (by have := wt_nth d 0 (by have := HN1.out; omega); have := HWT.out; show s.weight + _ ≤ _; omega)).mono ?_
          rintro e w9 ⟨rfl, t9, m9, a9, g9, f9⟩
          have HM9 := Lib.hid m9
          have HA9 := Lib.hid a9
          have HG9 := Lib.hid g9
          refine hK _ _ ⟨(f9 _ (by have := HLVB.out.size; omega) HX.out).trans ((HLVB.out.block _ hv1).trans HB1.out), (f9 _ (by have := HLVB.out.size; omega) HFG.out.2).trans ((HLVB.out.block _ hv2).trans HB2.out)⟩ ?_
          clear m9 a9 g9 f9
          clear hK K
          try simp only [Act.put, List.setIfInBounds_toArray, List.set_cons_zero, List.set_cons_succ]
          first
            | change Exit.then _ _ Exit.normal _ _
            | change Exit.inBlock _ _ Exit.normal _ _
          go_wp2_with fail
          go_end0
          rw [HR.out]
          exact ⟨rfl, t9, HM9.out, HA9.out, HG9.out⟩
        · have HR : Hid (doM ov.o s.mach ⟨ind, false, d⟩ = some (pushM s.mach ind false [d.kids[0]])) := Lib.hid (by rw [HR1.out, if_neg hid]; rfl)
          go_upto_region 21 with fail
          refine wp_region_seq (fun w' => w'.heap[w.heap.size]? = W.heap[w.heap.size]? ∧ w'.heap[g]? = W.heap[g]?) 9 2 (by kernel_rfl) rfl (by kernel_rfl) (by intro _ _ d _ _ h; cases d <;> exact h) ⟨HW1.out.block _ hWs, HW1.out.block _ hgW⟩ ?_
          simp only [List.take_succ_cons, List.take_zero, List.drop_succ_cons, List.drop_zero, List.cons_append, List.nil_append]
          repeat (refine wpHeld_step rfl ?_; apply Exists.intro; refine ⟨fun wq hq => ?_, ?_⟩; (have qx0 := (World.cell?_of_block (a := ⟨w.heap.size, 0, none⟩) hq.1).trans x0; have qx1 := (World.cell?_of_block (a := ⟨w.heap.size, 1, none⟩) hq.1).trans x1; have qx2 := (World.cell?_of_block (a := ⟨w.heap.size, 2, none⟩) hq.1).trans x2; have qk2 := (World.cell?_of_block (a := ⟨g, off + 2, none⟩) hq.2).trans k2; go_simp; first | done | rfl); simp only [Act.put, List.setIfInBounds_toArray, List.set_cons_zero, List.set_cons_succ])
          change wpSeq _ _ _ _ _ _ _
          refine wpSeq_step rfl (fun K hK => ?_)
          go_simp
          have hbVB : Below w1.heap.size w1 (w1.alloc (.cells #[.pointer (some ⟨kg, koff, none⟩)] 66)).drew := ((Below.refl _ _).alloc (Nat.le_refl _) _).drew
          have hkVB : Blk (w1.alloc (.cells #[.pointer (some ⟨kg, koff, none⟩)] 66)).drew w1.heap.size [.pointer (some ⟨kg, koff, none⟩)] 66 := Blk.new' (W := w1) _ _ rfl
          obtain ⟨VB, eVB⟩ : ∃ VB, VB = (w1.alloc (.cells #[.pointer (some ⟨kg, koff, none⟩)] 66)).drew := ⟨_, rfl⟩
          rw [← eVB] at hbVB hkVB  ⊢
          have HKVB := Lib.hid hkVB
          have HLVB := Lib.hid hbVB
          have HWVB : Hid (Below W.heap.size W VB) := Lib.hid (HW1.out.trans (hbVB.mono HW1.out.size))
          clear hbVB eVB hkVB
          refine hK _ _ ⟨HWVB.out.block _ hWs, HWVB.out.block _ hgW⟩ ?_
          clear hK K
          try simp only [Act.put, List.setIfInBounds_toArray, List.set_cons_zero, List.set_cons_succ]
          refine wpSeq_step rfl (fun K hK => ?_)
          go_simp
          refine (push_new (n := 1) HM.out (HBW.out.trans (HWVB.out.mono HBW.out.size)) ((Goes.of_below (b := b) (mb := mb) (s := s) (HBW.out.trans (HWVB.out.mono HBW.out.size))).ind HI.out) false (docs_nth HDS.out 0 (by have := HN1.out; omega)) (HOK.out.kid (List.getElem_mem _)) HKVB.out (by have := HW1.out.size; have := HSZ.out; omega) rfl (by have := wt_nth d 0 (by have := HN1.out; omega); have := HWT.out; omega)).mono ?_
          rintro e w9 ⟨rfl, t9, m9, a9, g9, f9⟩
          have HM9 := Lib.hid m9
          have HA9 := Lib.hid a9
          have HG9 := Lib.hid g9
          refine hK _ _ ⟨(f9 _ (by have := HWVB.out.size; omega) HX.out).trans (HWVB.out.block _ hWs), (f9 _ (by have := HWVB.out.size; omega) HFG.out.2).trans (HWVB.out.block _ hgW)⟩ ?_
          clear m9 a9 g9 f9
          clear hK K
          try simp only [Act.put, List.setIfInBounds_toArray, List.set_cons_zero, List.set_cons_succ]
          first
            | change Exit.then _ _ Exit.normal _ _
            | change Exit.inBlock _ _ Exit.normal _ _
          go_wp2_with fail
          go_end0
          rw [HR.out]
          exact ⟨rfl, t9, HM9.out, HA9.out, HG9.out⟩
      · go_enter Tryd.func37, Tryd.ntmps37
        go_upto_region 1 with fail
        rw [← HWW.out]
        go_wp2_with fail
        refine (fits_is ((HFA.out.next ((Below.refl W.heap.size W).alloc (Nat.le_refl _) (.cells #[.pointer (some ⟨kg, koff, none⟩)] 66))).m) true false (ptrs_at (la := [⟨kg, koff, none⟩]) (by exact Blk.new' (W := W) (g := W.heap.size) [.pointer (some ⟨kg, koff, none⟩)] 66 rfl) (by simp) rfl 1) ((HFA.out.next ((Below.refl W.heap.size W).alloc (Nat.le_refl _) (.cells #[.pointer (some ⟨kg, koff, none⟩)] 66))).docs HM.out (docs_nth HDS.out 0 (by have := HN1.out; omega))) (ok_nth HOK.out.shape HOK.out.bulk 0 (by have := HN1.out; omega)) (by have := wt_nth d 0 (by have := HN1.out; omega); have := HWT.out; omega)).mono ?_
        rintro e w1 ⟨rfl, hb1⟩
        have HW1 : Hid (Below W.heap.size W w1) := Lib.hid (((Below.refl W.heap.size W).alloc (Nat.le_refl _) (.cells #[.pointer (some ⟨kg, koff, none⟩)] 66)).trans (hb1.mono (by simp)))
        clear hb1
        rw [HYF.out]
        go_upto_region 19 with fail
        have hkV4 := (HW1.out.cell (p := ⟨g, off + 4, none⟩) hgW).trans k4
        have HR1 : Hid (doM ov.o s.mach ⟨ind, false, d⟩ = some (pushM { s.mach with brk := if 0 < ii then (fun j => if j = ii then false else s.brk j) else s.brk } ind true [d.kids[0]])) := Lib.hid HRF.out
        by_cases hid : 0 < ii
        · have HR : Hid (doM ov.o s.mach ⟨ind, false, d⟩ = some (pushM { s.mach with brk := fun j => if j = ii then false else s.brk j } ind true [d.kids[0]])) := Lib.hid (by rw [HR1.out, if_pos hid])
          have hmV := (HFA.out.next HW1.out).m
          have c13 := hmV.cells.2.2.2.2.2.2.2.1
          obtain ⟨es2, ck2, hup, hbr⟩ := update_brk (w := w1.drew) hmV.map hmV.brk ii false
          have hsb := (hmV.below (w' := w1.drew) (Below.refl w1.heap.size w1).drew).setBrk es2 ck2 _ hbr
          have hmw : mb < w.heap.size := HM.out.X_lt (.inr (.inl rfl))
          have hmg : g ≠ mb := fun e => HFG.out.2 (.inr (.inl e))
          have hmb : b ≠ mb := hmV.ne.1
          obtain ⟨V2, eV2⟩ : ∃ V2, V2 = { w1.drew with heap := w1.drew.heap.setIfInBounds mb (.map es2 ck2) } := ⟨_, rfl⟩
          have hb1 : V2.heap[w.heap.size]? = W.heap[w.heap.size]? := by rw [eV2]; exact (set_map (by omega)).trans (HW1.out.block _ hWs)
          have hb2 : V2.heap[g]? = W.heap[g]? := by rw [eV2]; exact (set_map hmg).trans (HW1.out.block _ hgW)
          have hb3 : V2.cell? ⟨b, 13, none⟩ = some (.map (some mb)) := (World.cell?_of_block (w := w1) (a := ⟨b, 13, none⟩) (by rw [eV2]; exact set_map hmb)).trans c13
          have hsz2 : V2.heap.size = w1.heap.size := by rw [eV2]; simp
          rw [← eV2] at hup hsb
          have HSB := Lib.hid hsb
          have HGS := Lib.hid (((HFA.out.next HW1.out).g.trans (Goes.of_below (Below.refl w1.heap.size w1).drew)).trans hsb.2)
          have HB1 := Lib.hid hb1
          have HB2 := Lib.hid hb2
          have HB3 := Lib.hid hb3
          have HS2 := Lib.hid hsz2
          have HZ2 := Lib.hid HW1.out.size
          clear hmV hsb hbr hb1 hb2 hb3 hsz2 hmw hmg hmb eV2
          go_upto_region 20 with fail
          refine wp_region_seq (fun w' => (w'.heap[w.heap.size]? = W.heap[w.heap.size]? ∧ w'.heap[g]? = W.heap[g]?) ∧ w'.cell? ⟨b, 13, none⟩ = some (.map (some mb))) 10 1 (by kernel_rfl) rfl (by kernel_rfl) (by intro _ _ d _ _ h; cases d <;> exact h) ⟨⟨HW1.out.block _ hWs, HW1.out.block _ hgW⟩, c13⟩ ?_
          simp only [List.take_succ_cons, List.take_zero, List.drop_succ_cons, List.drop_zero, List.cons_append, List.nil_append]
          repeat (refine wpHeld_step rfl ?_; apply Exists.intro; refine ⟨fun wq hq' => ?_, ?_⟩; (obtain ⟨hq, qc⟩ := hq'; have qx0 := (World.cell?_of_block (a := ⟨w.heap.size, 0, none⟩) hq.1).trans x0; have qx1 := (World.cell?_of_block (a := ⟨w.heap.size, 1, none⟩) hq.1).trans x1; have qx2 := (World.cell?_of_block (a := ⟨w.heap.size, 2, none⟩) hq.1).trans x2; have qk2 := (World.cell?_of_block (a := ⟨g, off + 2, none⟩) hq.2).trans k2; have qk4 := (World.cell?_of_block (a := ⟨g, off + 4, none⟩) hq.2).trans k4; go_simp; first | done | rfl); simp only [Act.put, List.setIfInBounds_toArray, List.set_cons_zero, List.set_cons_succ])
          change wpSeq _ _ _ _ _ _ _
          refine wpSeq_step rfl (fun K hK => ?_)
          go_simp
          refine hK _ _ ⟨⟨HB1.out, HB2.out⟩, HB3.out⟩ ?_
          clear hK K
          try simp only [Act.put, List.setIfInBounds_toArray, List.set_cons_zero, List.set_cons_succ]
          first
            | change Exit.then _ _ Exit.normal _ _
            | change Exit.inBlock _ _ Exit.normal _ _
          clear hup c13 hkV4
          go_upto_region 21 with fail
          refine wp_region_seq (fun w' => w'.heap[w.heap.size]? = W.heap[w.heap.size]? ∧ w'.heap[g]? = W.heap[g]?) 9 2 (by kernel_rfl) rfl (by kernel_rfl) (by intro _ _ d _ _ h; cases d <;> exact h) ⟨HB1.out, HB2.out⟩ ?_
          simp only [List.take_succ_cons, List.take_zero, List.drop_succ_cons, List.drop_zero, List.cons_append, List.nil_append]
          repeat (refine wpHeld_step rfl ?_; apply Exists.intro; refine ⟨fun wq hq => ?_, ?_⟩; (have qx0 := (World.cell?_of_block (a := ⟨w.heap.size, 0, none⟩) hq.1).trans x0; have qx1 := (World.cell?_of_block (a := ⟨w.heap.size, 1, none⟩) hq.1).trans x1; have qx2 := (World.cell?_of_block (a := ⟨w.heap.size, 2, none⟩) hq.1).trans x2; have qk2 := (World.cell?_of_block (a := ⟨g, off + 2, none⟩) hq.2).trans k2; go_simp; first | done | rfl); simp only [Act.put, List.setIfInBounds_toArray, List.set_cons_zero, List.set_cons_succ])
          change wpSeq _ _ _ _ _ _ _
          refine wpSeq_step rfl (fun K hK => ?_)
          go_simp
          have hbVB : Below V2.heap.size V2 (V2.alloc (.cells #[.pointer (some ⟨kg, koff, none⟩)] 66)).drew := ((Below.refl _ _).alloc (Nat.le_refl _) _).drew
          have hkVB : Blk (V2.alloc (.cells #[.pointer (some ⟨kg, koff, none⟩)] 66)).drew V2.heap.size [.pointer (some ⟨kg, koff, none⟩)] 66 := Blk.new' (W := V2) _ _ rfl
          obtain ⟨VB, eVB⟩ : ∃ VB, VB = (V2.alloc (.cells #[.pointer (some ⟨kg, koff, none⟩)] 66)).drew := ⟨_, rfl⟩
          rw [← eVB] at hbVB hkVB ⊢
          have HLVB := Lib.hid hbVB
          have HKVB := Lib.hid hkVB
          clear hbVB hkVB eVB
          have hv1 : w.heap.size < V2.heap.size := by have := HS2.out; have := HZ2.out; omega
          have hv2 : g < V2.heap.size := by omega
          refine hK _ _ ⟨(HLVB.out.block _ hv1).trans HB1.out, (HLVB.out.block _ hv2).trans HB2.out⟩ ?_
          clear hK K
          try simp only [Act.put, List.setIfInBounds_toArray, List.set_cons_zero, List.set_cons_succ]
          refine wpSeq_step rfl (fun K hK => ?_)
          go_simp
          refine (push_gone (n := 1) HM.out HSB.out.1 HGS.out HLVB.out HI.out true (docs_nth HDS.out 0 (by have := HN1.out; omega)) (HOK.out.kid (List.getElem_mem _)) HKVB.out (Nat.le_refl _) rfl (by have := wt_nth d 0 (by have := HN1.out; omega); have := HWT.out; show s.weight + _ ≤ _; omega)).mono ?_
          rintro e w9 ⟨rfl, t9, m9, a9, g9, f9⟩
          have HM9 := Lib.hid m9
          have HA9 := Lib.hid a9
          have HG9 := Lib.hid g9
          refine hK _ _ ⟨(f9 _ (by have := HLVB.out.size; omega) HX.out).trans ((HLVB.out.block _ hv1).trans HB1.out), (f9 _ (by have := HLVB.out.size; omega) HFG.out.2).trans ((HLVB.out.block _ hv2).trans HB2.out)⟩ ?_
          clear m9 a9 g9 f9
          clear hK K
          try simp only [Act.put, List.setIfInBounds_toArray, List.set_cons_zero, List.set_cons_succ]
          first
            | change Exit.then _ _ Exit.normal _ _
            | change Exit.inBlock _ _ Exit.normal _ _
          go_wp2_with fail
          go_end0
          rw [HR.out]
          exact ⟨rfl, t9, HM9.out, HA9.out, HG9.out⟩
        · have HR : Hid (doM ov.o s.mach ⟨ind, false, d⟩ = some (pushM s.mach ind true [d.kids[0]])) := Lib.hid (by rw [HR1.out, if_neg hid]; rfl)
          go_upto_region 21 with fail
          refine wp_region_seq (fun w' => w'.heap[w.heap.size]? = W.heap[w.heap.size]? ∧ w'.heap[g]? = W.heap[g]?) 9 2 (by kernel_rfl) rfl (by kernel_rfl) (by intro _ _ d _ _ h; cases d <;> exact h) ⟨HW1.out.block _ hWs, HW1.out.block _ hgW⟩ ?_
          simp only [List.take_succ_cons, List.take_zero, List.drop_succ_cons, List.drop_zero, List.cons_append, List.nil_append]
          repeat (refine wpHeld_step rfl ?_; apply Exists.intro; refine ⟨fun wq hq => ?_, ?_⟩; (have qx0 := (World.cell?_of_block (a := ⟨w.heap.size, 0, none⟩) hq.1).trans x0; have qx1 := (World.cell?_of_block (a := ⟨w.heap.size, 1, none⟩) hq.1).trans x1; have qx2 := (World.cell?_of_block (a := ⟨w.heap.size, 2, none⟩) hq.1).trans x2; have qk2 := (World.cell?_of_block (a := ⟨g, off + 2, none⟩) hq.2).trans k2; go_simp; first | done | rfl); simp only [Act.put, List.setIfInBounds_toArray, List.set_cons_zero, List.set_cons_succ])
          change wpSeq _ _ _ _ _ _ _
          refine wpSeq_step rfl (fun K hK => ?_)
          go_simp
          have hbVB : Below w1.heap.size w1 (w1.alloc (.cells #[.pointer (some ⟨kg, koff, none⟩)] 66)).drew := ((Below.refl _ _).alloc (Nat.le_refl _) _).drew
          have hkVB : Blk (w1.alloc (.cells #[.pointer (some ⟨kg, koff, none⟩)] 66)).drew w1.heap.size [.pointer (some ⟨kg, koff, none⟩)] 66 := Blk.new' (W := w1) _ _ rfl
          obtain ⟨VB, eVB⟩ : ∃ VB, VB = (w1.alloc (.cells #[.pointer (some ⟨kg, koff, none⟩)] 66)).drew := ⟨_, rfl⟩
          rw [← eVB] at hbVB hkVB  ⊢
          have HKVB := Lib.hid hkVB
          have HLVB := Lib.hid hbVB
          have HWVB : Hid (Below W.heap.size W VB) := Lib.hid (HW1.out.trans (hbVB.mono HW1.out.size))
          clear hbVB eVB hkVB
          refine hK _ _ ⟨HWVB.out.block _ hWs, HWVB.out.block _ hgW⟩ ?_
          clear hK K
          try simp only [Act.put, List.setIfInBounds_toArray, List.set_cons_zero, List.set_cons_succ]
          refine wpSeq_step rfl (fun K hK => ?_)
          go_simp
          refine (push_new (n := 1) HM.out (HBW.out.trans (HWVB.out.mono HBW.out.size)) ((Goes.of_below (b := b) (mb := mb) (s := s) (HBW.out.trans (HWVB.out.mono HBW.out.size))).ind HI.out) true (docs_nth HDS.out 0 (by have := HN1.out; omega)) (HOK.out.kid (List.getElem_mem _)) HKVB.out (by have := HW1.out.size; have := HSZ.out; omega) rfl (by have := wt_nth d 0 (by have := HN1.out; omega); have := HWT.out; omega)).mono ?_
          rintro e w9 ⟨rfl, t9, m9, a9, g9, f9⟩
          have HM9 := Lib.hid m9
          have HA9 := Lib.hid a9
          have HG9 := Lib.hid g9
          refine hK _ _ ⟨(f9 _ (by have := HWVB.out.size; omega) HX.out).trans (HWVB.out.block _ hWs), (f9 _ (by have := HWVB.out.size; omega) HFG.out.2).trans (HWVB.out.block _ hgW)⟩ ?_
          clear m9 a9 g9 f9
          clear hK K
          try simp only [Act.put, List.setIfInBounds_toArray, List.set_cons_zero, List.set_cons_succ]
          first
            | change Exit.then _ _ Exit.normal _ _
            | change Exit.inBlock _ _ Exit.normal _ _
          go_wp2_with fail
          go_end0
          rw [HR.out]
          exact ⟨rfl, t9, HM9.out, HA9.out, HG9.out⟩
    · go_enter Tryd.func37, Tryd.ntmps37
      go_upto_region 1 with fail
      rw [← HWW.out]
      go_upto_region 19 with fail
      have hkV4 := ((Below.refl W.heap.size W).cell (p := ⟨g, off + 4, none⟩) hgW).trans k4
      have HR1 : Hid (doM ov.o s.mach ⟨ind, false, d⟩ = some (pushM { s.mach with brk := if 0 < ii then (fun j => if j = ii then true else s.brk j) else s.brk } ind false [d.kids[0]])) := Lib.hid HRF.out
      by_cases hid : 0 < ii
      · have HR : Hid (doM ov.o s.mach ⟨ind, false, d⟩ = some (pushM { s.mach with brk := fun j => if j = ii then true else s.brk j } ind false [d.kids[0]])) := Lib.hid (by rw [HR1.out, if_pos hid])
        have hmV := (HFA.out.next (Below.refl W.heap.size W)).m
        have c13 := hmV.cells.2.2.2.2.2.2.2.1
        obtain ⟨es2, ck2, hup, hbr⟩ := update_brk (w := W.drew) hmV.map hmV.brk ii true
        have hsb := (hmV.below (w' := W.drew) (Below.refl W.heap.size W).drew).setBrk es2 ck2 _ hbr
        have hmw : mb < w.heap.size := HM.out.X_lt (.inr (.inl rfl))
        have hmg : g ≠ mb := fun e => HFG.out.2 (.inr (.inl e))
        have hmb : b ≠ mb := hmV.ne.1
        obtain ⟨V2, eV2⟩ : ∃ V2, V2 = { W.drew with heap := W.drew.heap.setIfInBounds mb (.map es2 ck2) } := ⟨_, rfl⟩
        have hb1 : V2.heap[w.heap.size]? = W.heap[w.heap.size]? := by rw [eV2]; exact (set_map (by omega)).trans ((Below.refl W.heap.size W).block _ hWs)
        have hb2 : V2.heap[g]? = W.heap[g]? := by rw [eV2]; exact (set_map hmg).trans ((Below.refl W.heap.size W).block _ hgW)
        have hb3 : V2.cell? ⟨b, 13, none⟩ = some (.map (some mb)) := (World.cell?_of_block (w := W) (a := ⟨b, 13, none⟩) (by rw [eV2]; exact set_map hmb)).trans c13
        have hsz2 : V2.heap.size = W.heap.size := by rw [eV2]; simp
        rw [← eV2] at hup hsb
        have HSB := Lib.hid hsb
        have HGS := Lib.hid (((HFA.out.next (Below.refl W.heap.size W)).g.trans (Goes.of_below (Below.refl W.heap.size W).drew)).trans hsb.2)
        have HB1 := Lib.hid hb1
        have HB2 := Lib.hid hb2
        have HB3 := Lib.hid hb3
        have HS2 := Lib.hid hsz2
        have HZ2 := Lib.hid (Below.refl W.heap.size W).size
        clear hmV hsb hbr hb1 hb2 hb3 hsz2 hmw hmg hmb eV2
        go_upto_region 20 with fail
        refine wp_region_seq (fun w' => (w'.heap[w.heap.size]? = W.heap[w.heap.size]? ∧ w'.heap[g]? = W.heap[g]?) ∧ w'.cell? ⟨b, 13, none⟩ = some (.map (some mb))) 10 1 (by kernel_rfl) rfl (by kernel_rfl) (by intro _ _ d _ _ h; cases d <;> exact h) ⟨⟨(Below.refl W.heap.size W).block _ hWs, (Below.refl W.heap.size W).block _ hgW⟩, c13⟩ ?_
        simp only [List.take_succ_cons, List.take_zero, List.drop_succ_cons, List.drop_zero, List.cons_append, List.nil_append]
        repeat (refine wpHeld_step rfl ?_; apply Exists.intro; refine ⟨fun wq hq' => ?_, ?_⟩; (obtain ⟨hq, qc⟩ := hq'; have qx0 := (World.cell?_of_block (a := ⟨w.heap.size, 0, none⟩) hq.1).trans x0; have qx1 := (World.cell?_of_block (a := ⟨w.heap.size, 1, none⟩) hq.1).trans x1; have qx2 := (World.cell?_of_block (a := ⟨w.heap.size, 2, none⟩) hq.1).trans x2; have qk2 := (World.cell?_of_block (a := ⟨g, off + 2, none⟩) hq.2).trans k2; have qk4 := (World.cell?_of_block (a := ⟨g, off + 4, none⟩) hq.2).trans k4; go_simp; first | done | rfl); simp only [Act.put, List.setIfInBounds_toArray, List.set_cons_zero, List.set_cons_succ])
        change wpSeq _ _ _ _ _ _ _
        refine wpSeq_step rfl (fun K hK => ?_)
        go_simp
        refine hK _ _ ⟨⟨HB1.out, HB2.out⟩, HB3.out⟩ ?_
        clear hK K
        try simp only [Act.put, List.setIfInBounds_toArray, List.set_cons_zero, List.set_cons_succ]
        first
          | change Exit.then _ _ Exit.normal _ _
          | change Exit.inBlock _ _ Exit.normal _ _
        clear hup c13 hkV4
        go_upto_region 21 with fail
        refine wp_region_seq (fun w' => w'.heap[w.heap.size]? = W.heap[w.heap.size]? ∧ w'.heap[g]? = W.heap[g]?) 9 2 (by kernel_rfl) rfl (by kernel_rfl) (by intro _ _ d _ _ h; cases d <;> exact h) ⟨HB1.out, HB2.out⟩ ?_
        simp only [List.take_succ_cons, List.take_zero, List.drop_succ_cons, List.drop_zero, List.cons_append, List.nil_append]
        repeat (refine wpHeld_step rfl ?_; apply Exists.intro; refine ⟨fun wq hq => ?_, ?_⟩; (have qx0 := (World.cell?_of_block (a := ⟨w.heap.size, 0, none⟩) hq.1).trans x0; have qx1 := (World.cell?_of_block (a := ⟨w.heap.size, 1, none⟩) hq.1).trans x1; have qx2 := (World.cell?_of_block (a := ⟨w.heap.size, 2, none⟩) hq.1).trans x2; have qk2 := (World.cell?_of_block (a := ⟨g, off + 2, none⟩) hq.2).trans k2; go_simp; first | done | rfl); simp only [Act.put, List.setIfInBounds_toArray, List.set_cons_zero, List.set_cons_succ])
        change wpSeq _ _ _ _ _ _ _
        refine wpSeq_step rfl (fun K hK => ?_)
        go_simp
        have hbVB : Below V2.heap.size V2 (V2.alloc (.cells #[.pointer (some ⟨kg, koff, none⟩)] 66)).drew := ((Below.refl _ _).alloc (Nat.le_refl _) _).drew
        have hkVB : Blk (V2.alloc (.cells #[.pointer (some ⟨kg, koff, none⟩)] 66)).drew V2.heap.size [.pointer (some ⟨kg, koff, none⟩)] 66 := Blk.new' (W := V2) _ _ rfl
        obtain ⟨VB, eVB⟩ : ∃ VB, VB = (V2.alloc (.cells #[.pointer (some ⟨kg, koff, none⟩)] 66)).drew := ⟨_, rfl⟩
        rw [← eVB] at hbVB hkVB ⊢
        have HLVB := Lib.hid hbVB
        have HKVB := Lib.hid hkVB
        clear hbVB hkVB eVB
        have hv1 : w.heap.size < V2.heap.size := by have := HS2.out; have := HZ2.out; omega
        have hv2 : g < V2.heap.size := by omega
        refine hK _ _ ⟨(HLVB.out.block _ hv1).trans HB1.out, (HLVB.out.block _ hv2).trans HB2.out⟩ ?_
        clear hK K
        try simp only [Act.put, List.setIfInBounds_toArray, List.set_cons_zero, List.set_cons_succ]
        refine wpSeq_step rfl (fun K hK => ?_)
        go_simp
        refine (push_gone (n := 1) HM.out HSB.out.1 HGS.out HLVB.out HI.out false (docs_nth HDS.out 0 (by have := HN1.out; omega)) (HOK.out.kid (List.getElem_mem _)) HKVB.out (Nat.le_refl _) rfl (by have := wt_nth d 0 (by have := HN1.out; omega); have := HWT.out; show s.weight + _ ≤ _; omega)).mono ?_
        rintro e w9 ⟨rfl, t9, m9, a9, g9, f9⟩
        have HM9 := Lib.hid m9
        have HA9 := Lib.hid a9
        have HG9 := Lib.hid g9
        refine hK _ _ ⟨(f9 _ (by have := HLVB.out.size; omega) HX.out).trans ((HLVB.out.block _ hv1).trans HB1.out), (f9 _ (by have := HLVB.out.size; omega) HFG.out.2).trans ((HLVB.out.block _ hv2).trans HB2.out)⟩ ?_
        clear m9 a9 g9 f9
        clear hK K
        try simp only [Act.put, List.setIfInBounds_toArray, List.set_cons_zero, List.set_cons_succ]
        first
          | change Exit.then _ _ Exit.normal _ _
          | change Exit.inBlock _ _ Exit.normal _ _
        go_wp2_with fail
        go_end0
        rw [HR.out]
        exact ⟨rfl, t9, HM9.out, HA9.out, HG9.out⟩
      · have HR : Hid (doM ov.o s.mach ⟨ind, false, d⟩ = some (pushM s.mach ind false [d.kids[0]])) := Lib.hid (by rw [HR1.out, if_neg hid]; rfl)
        go_upto_region 21 with fail
        refine wp_region_seq (fun w' => w'.heap[w.heap.size]? = W.heap[w.heap.size]? ∧ w'.heap[g]? = W.heap[g]?) 9 2 (by kernel_rfl) rfl (by kernel_rfl) (by intro _ _ d _ _ h; cases d <;> exact h) ⟨(Below.refl W.heap.size W).block _ hWs, (Below.refl W.heap.size W).block _ hgW⟩ ?_
        simp only [List.take_succ_cons, List.take_zero, List.drop_succ_cons, List.drop_zero, List.cons_append, List.nil_append]
        repeat (refine wpHeld_step rfl ?_; apply Exists.intro; refine ⟨fun wq hq => ?_, ?_⟩; (have qx0 := (World.cell?_of_block (a := ⟨w.heap.size, 0, none⟩) hq.1).trans x0; have qx1 := (World.cell?_of_block (a := ⟨w.heap.size, 1, none⟩) hq.1).trans x1; have qx2 := (World.cell?_of_block (a := ⟨w.heap.size, 2, none⟩) hq.1).trans x2; have qk2 := (World.cell?_of_block (a := ⟨g, off + 2, none⟩) hq.2).trans k2; go_simp; first | done | rfl); simp only [Act.put, List.setIfInBounds_toArray, List.set_cons_zero, List.set_cons_succ])
        change wpSeq _ _ _ _ _ _ _
        refine wpSeq_step rfl (fun K hK => ?_)
        go_simp
        have hbVB : Below W.heap.size W (W.alloc (.cells #[.pointer (some ⟨kg, koff, none⟩)] 66)).drew := ((Below.refl _ _).alloc (Nat.le_refl _) _).drew
        have hkVB : Blk (W.alloc (.cells #[.pointer (some ⟨kg, koff, none⟩)] 66)).drew W.heap.size [.pointer (some ⟨kg, koff, none⟩)] 66 := Blk.new' (W := W) _ _ rfl
        obtain ⟨VB, eVB⟩ : ∃ VB, VB = (W.alloc (.cells #[.pointer (some ⟨kg, koff, none⟩)] 66)).drew := ⟨_, rfl⟩
        rw [← eVB] at hbVB hkVB  ⊢
        have HKVB := Lib.hid hkVB
        have HLVB := Lib.hid hbVB
        have HWVB : Hid (Below W.heap.size W VB) := Lib.hid ((Below.refl W.heap.size W).trans (hbVB.mono (Below.refl W.heap.size W).size))
        clear hbVB eVB hkVB
        refine hK _ _ ⟨HWVB.out.block _ hWs, HWVB.out.block _ hgW⟩ ?_
        clear hK K
        try simp only [Act.put, List.setIfInBounds_toArray, List.set_cons_zero, List.set_cons_succ]
        refine wpSeq_step rfl (fun K hK => ?_)
        go_simp
        refine (push_new (n := 1) HM.out (HBW.out.trans (HWVB.out.mono HBW.out.size)) ((Goes.of_below (b := b) (mb := mb) (s := s) (HBW.out.trans (HWVB.out.mono HBW.out.size))).ind HI.out) false (docs_nth HDS.out 0 (by have := HN1.out; omega)) (HOK.out.kid (List.getElem_mem _)) HKVB.out (by have := (Below.refl W.heap.size W).size; have := HSZ.out; omega) rfl (by have := wt_nth d 0 (by have := HN1.out; omega); have := HWT.out; omega)).mono ?_
        rintro e w9 ⟨rfl, t9, m9, a9, g9, f9⟩
        have HM9 := Lib.hid m9
        have HA9 := Lib.hid a9
        have HG9 := Lib.hid g9
        refine hK _ _ ⟨(f9 _ (by have := HWVB.out.size; omega) HX.out).trans (HWVB.out.block _ hWs), (f9 _ (by have := HWVB.out.size; omega) HFG.out.2).trans (HWVB.out.block _ hgW)⟩ ?_
        clear m9 a9 g9 f9
        clear hK K
        try simp only [Act.put, List.setIfInBounds_toArray, List.set_cons_zero, List.set_cons_succ]
        first
          | change Exit.then _ _ Exit.normal _ _
          | change Exit.inBlock _ _ Exit.normal _ _
        go_wp2_with fail
        go_end0
        rw [HR.out]
        exact ⟨rfl, t9, HM9.out, HA9.out, HG9.out⟩
  · go_enter Tryd.func37, Tryd.ntmps37
    go_upto_region 1 with fail
    rw [← HWW.out]
    go_upto_region 19 with fail
    have hkV4 := ((Below.refl W.heap.size W).cell (p := ⟨g, off + 4, none⟩) hgW).trans k4
    have HR1 : Hid (doM ov.o s.mach ⟨ind, true, d⟩ = some (pushM { s.mach with brk := if 0 < ii then (fun j => if j = ii then false else s.brk j) else s.brk } ind true [d.kids[0]])) := Lib.hid HRF.out
    by_cases hid : 0 < ii
    · have HR : Hid (doM ov.o s.mach ⟨ind, true, d⟩ = some (pushM { s.mach with brk := fun j => if j = ii then false else s.brk j } ind true [d.kids[0]])) := Lib.hid (by rw [HR1.out, if_pos hid])
      have hmV := (HFA.out.next (Below.refl W.heap.size W)).m
      have c13 := hmV.cells.2.2.2.2.2.2.2.1
      obtain ⟨es2, ck2, hup, hbr⟩ := update_brk (w := W.drew) hmV.map hmV.brk ii false
      have hsb := (hmV.below (w' := W.drew) (Below.refl W.heap.size W).drew).setBrk es2 ck2 _ hbr
      have hmw : mb < w.heap.size := HM.out.X_lt (.inr (.inl rfl))
      have hmg : g ≠ mb := fun e => HFG.out.2 (.inr (.inl e))
      have hmb : b ≠ mb := hmV.ne.1
      obtain ⟨V2, eV2⟩ : ∃ V2, V2 = { W.drew with heap := W.drew.heap.setIfInBounds mb (.map es2 ck2) } := ⟨_, rfl⟩
      have hb1 : V2.heap[w.heap.size]? = W.heap[w.heap.size]? := by rw [eV2]; exact (set_map (by omega)).trans ((Below.refl W.heap.size W).block _ hWs)
      have hb2 : V2.heap[g]? = W.heap[g]? := by rw [eV2]; exact (set_map hmg).trans ((Below.refl W.heap.size W).block _ hgW)
      have hb3 : V2.cell? ⟨b, 13, none⟩ = some (.map (some mb)) := (World.cell?_of_block (w := W) (a := ⟨b, 13, none⟩) (by rw [eV2]; exact set_map hmb)).trans c13
      have hsz2 : V2.heap.size = W.heap.size := by rw [eV2]; simp
      rw [← eV2] at hup hsb
      have HSB := Lib.hid hsb
      have HGS := Lib.hid (((HFA.out.next (Below.refl W.heap.size W)).g.trans (Goes.of_below (Below.refl W.heap.size W).drew)).trans hsb.2)
      have HB1 := Lib.hid hb1
      have HB2 := Lib.hid hb2
      have HB3 := Lib.hid hb3
      have HS2 := Lib.hid hsz2
      have HZ2 := Lib.hid (Below.refl W.heap.size W).size
      clear hmV hsb hbr hb1 hb2 hb3 hsz2 hmw hmg hmb eV2
      go_upto_region 20 with fail
      refine wp_region_seq (fun w' => (w'.heap[w.heap.size]? = W.heap[w.heap.size]? ∧ w'.heap[g]? = W.heap[g]?) ∧ w'.cell? ⟨b, 13, none⟩ = some (.map (some mb))) 10 1 (by kernel_rfl) rfl (by kernel_rfl) (by intro _ _ d _ _ h; cases d <;> exact h) ⟨⟨(Below.refl W.heap.size W).block _ hWs, (Below.refl W.heap.size W).block _ hgW⟩, c13⟩ ?_
      simp only [List.take_succ_cons, List.take_zero, List.drop_succ_cons, List.drop_zero, List.cons_append, List.nil_append]
      repeat (refine wpHeld_step rfl ?_; apply Exists.intro; refine ⟨fun wq hq' => ?_, ?_⟩; (obtain ⟨hq, qc⟩ := hq'; have qx0 := (World.cell?_of_block (a := ⟨w.heap.size, 0, none⟩) hq.1).trans x0; have qx1 := (World.cell?_of_block (a := ⟨w.heap.size, 1, none⟩) hq.1).trans x1; have qx2 := (World.cell?_of_block (a := ⟨w.heap.size, 2, none⟩) hq.1).trans x2; have qk2 := (World.cell?_of_block (a := ⟨g, off + 2, none⟩) hq.2).trans k2; have qk4 := (World.cell?_of_block (a := ⟨g, off + 4, none⟩) hq.2).trans k4; go_simp; first | done | rfl); simp only [Act.put, List.setIfInBounds_toArray, List.set_cons_zero, List.set_cons_succ])
      change wpSeq _ _ _ _ _ _ _
      refine wpSeq_step rfl (fun K hK => ?_)
      go_simp
      refine hK _ _ ⟨⟨HB1.out, HB2.out⟩, HB3.out⟩ ?_
      clear hK K
      try simp only [Act.put, List.setIfInBounds_toArray, List.set_cons_zero, List.set_cons_succ]
      first
        | change Exit.then _ _ Exit.normal _ _
        | change Exit.inBlock _ _ Exit.normal _ _
      clear hup c13 hkV4
      go_upto_region 21 with fail
      refine wp_region_seq (fun w' => w'.heap[w.heap.size]? = W.heap[w.heap.size]? ∧ w'.heap[g]? = W.heap[g]?) 9 2 (by kernel_rfl) rfl (by kernel_rfl) (by intro _ _ d _ _ h; cases d <;> exact h) ⟨HB1.out, HB2.out⟩ ?_
      simp only [List.take_succ_cons, List.take_zero, List.drop_succ_cons, List.drop_zero, List.cons_append, List.nil_append]
      repeat (refine wpHeld_step rfl ?_; apply Exists.intro; refine ⟨fun wq hq => ?_, ?_⟩; (have qx0 := (World.cell?_of_block (a := ⟨w.heap.size, 0, none⟩) hq.1).trans x0; have qx1 := (World.cell?_of_block (a := ⟨w.heap.size, 1, none⟩) hq.1).trans x1; have qx2 := (World.cell?_of_block (a := ⟨w.heap.size, 2, none⟩) hq.1).trans x2; have qk2 := (World.cell?_of_block (a := ⟨g, off + 2, none⟩) hq.2).trans k2; go_simp; first | done | rfl); simp only [Act.put, List.setIfInBounds_toArray, List.set_cons_zero, List.set_cons_succ])
      change wpSeq _ _ _ _ _ _ _
      refine wpSeq_step rfl (fun K hK => ?_)
      go_simp
      have hbVB : Below V2.heap.size V2 (V2.alloc (.cells #[.pointer (some ⟨kg, koff, none⟩)] 66)).drew := ((Below.refl _ _).alloc (Nat.le_refl _) _).drew
      have hkVB : Blk (V2.alloc (.cells #[.pointer (some ⟨kg, koff, none⟩)] 66)).drew V2.heap.size [.pointer (some ⟨kg, koff, none⟩)] 66 := Blk.new' (W := V2) _ _ rfl
      obtain ⟨VB, eVB⟩ : ∃ VB, VB = (V2.alloc (.cells #[.pointer (some ⟨kg, koff, none⟩)] 66)).drew := ⟨_, rfl⟩
      rw [← eVB] at hbVB hkVB ⊢
      have HLVB := Lib.hid hbVB
      have HKVB := Lib.hid hkVB
      clear hbVB hkVB eVB
      have hv1 : w.heap.size < V2.heap.size := by have := HS2.out; have := HZ2.out; omega
      have hv2 : g < V2.heap.size := by omega
      refine hK _ _ ⟨(HLVB.out.block _ hv1).trans HB1.out, (HLVB.out.block _ hv2).trans HB2.out⟩ ?_
      clear hK K
      try simp only [Act.put, List.setIfInBounds_toArray, List.set_cons_zero, List.set_cons_succ]
      refine wpSeq_step rfl (fun K hK => ?_)
      go_simp
      refine (push_gone (n := 1) HM.out HSB.out.1 HGS.out HLVB.out HI.out true (docs_nth HDS.out 0 (by have := HN1.out; omega)) (HOK.out.kid (List.getElem_mem _)) HKVB.out (Nat.le_refl _) rfl (by have := wt_nth d 0 (by have := HN1.out; omega); have := HWT.out; show s.weight + _ ≤ _; omega)).mono ?_
      rintro e w9 ⟨rfl, t9, m9, a9, g9, f9⟩
      have HM9 := Lib.hid m9
      have HA9 := Lib.hid a9
      have HG9 := Lib.hid g9
      refine hK _ _ ⟨(f9 _ (by have := HLVB.out.size; omega) HX.out).trans ((HLVB.out.block _ hv1).trans HB1.out), (f9 _ (by have := HLVB.out.size; omega) HFG.out.2).trans ((HLVB.out.block _ hv2).trans HB2.out)⟩ ?_
      clear m9 a9 g9 f9
      clear hK K
      try simp only [Act.put, List.setIfInBounds_toArray, List.set_cons_zero, List.set_cons_succ]
      first
        | change Exit.then _ _ Exit.normal _ _
        | change Exit.inBlock _ _ Exit.normal _ _
      go_wp2_with fail
      go_end0
      rw [HR.out]
      exact ⟨rfl, t9, HM9.out, HA9.out, HG9.out⟩
    · have HR : Hid (doM ov.o s.mach ⟨ind, true, d⟩ = some (pushM s.mach ind true [d.kids[0]])) := Lib.hid (by rw [HR1.out, if_neg hid]; rfl)
      go_upto_region 21 with fail
      refine wp_region_seq (fun w' => w'.heap[w.heap.size]? = W.heap[w.heap.size]? ∧ w'.heap[g]? = W.heap[g]?) 9 2 (by kernel_rfl) rfl (by kernel_rfl) (by intro _ _ d _ _ h; cases d <;> exact h) ⟨(Below.refl W.heap.size W).block _ hWs, (Below.refl W.heap.size W).block _ hgW⟩ ?_
      simp only [List.take_succ_cons, List.take_zero, List.drop_succ_cons, List.drop_zero, List.cons_append, List.nil_append]
      repeat (refine wpHeld_step rfl ?_; apply Exists.intro; refine ⟨fun wq hq => ?_, ?_⟩; (have qx0 := (World.cell?_of_block (a := ⟨w.heap.size, 0, none⟩) hq.1).trans x0; have qx1 := (World.cell?_of_block (a := ⟨w.heap.size, 1, none⟩) hq.1).trans x1; have qx2 := (World.cell?_of_block (a := ⟨w.heap.size, 2, none⟩) hq.1).trans x2; have qk2 := (World.cell?_of_block (a := ⟨g, off + 2, none⟩) hq.2).trans k2; go_simp; first | done | rfl); simp only [Act.put, List.setIfInBounds_toArray, List.set_cons_zero, List.set_cons_succ])
      change wpSeq _ _ _ _ _ _ _
      refine wpSeq_step rfl (fun K hK => ?_)
      go_simp
      have hbVB : Below W.heap.size W (W.alloc (.cells #[.pointer (some ⟨kg, koff, none⟩)] 66)).drew := ((Below.refl _ _).alloc (Nat.le_refl _) _).drew
      have hkVB : Blk (W.alloc (.cells #[.pointer (some ⟨kg, koff, none⟩)] 66)).drew W.heap.size [.pointer (some ⟨kg, koff, none⟩)] 66 := Blk.new' (W := W) _ _ rfl
      obtain ⟨VB, eVB⟩ : ∃ VB, VB = (W.alloc (.cells #[.pointer (some ⟨kg, koff, none⟩)] 66)).drew := ⟨_, rfl⟩
      rw [← eVB] at hbVB hkVB  ⊢
      have HKVB := Lib.hid hkVB
      have HLVB := Lib.hid hbVB
      have HWVB : Hid (Below W.heap.size W VB) := Lib.hid ((Below.refl W.heap.size W).trans (hbVB.mono (Below.refl W.heap.size W).size))
      clear hbVB eVB hkVB
      refine hK _ _ ⟨HWVB.out.block _ hWs, HWVB.out.block _ hgW⟩ ?_
      clear hK K
      try simp only [Act.put, List.setIfInBounds_toArray, List.set_cons_zero, List.set_cons_succ]
      refine wpSeq_step rfl (fun K hK => ?_)
      go_simp
      refine (push_new (n := 1) HM.out (HBW.out.trans (HWVB.out.mono HBW.out.size)) ((Goes.of_below (b := b) (mb := mb) (s := s) (HBW.out.trans (HWVB.out.mono HBW.out.size))).ind HI.out) true (docs_nth HDS.out 0 (by have := HN1.out; omega)) (HOK.out.kid (List.getElem_mem _)) HKVB.out (by have := (Below.refl W.heap.size W).size; have := HSZ.out; omega) rfl (by have := wt_nth d 0 (by have := HN1.out; omega); have := HWT.out; omega)).mono ?_
      rintro e w9 ⟨rfl, t9, m9, a9, g9, f9⟩
      have HM9 := Lib.hid m9
      have HA9 := Lib.hid a9
      have HG9 := Lib.hid g9
      refine hK _ _ ⟨(f9 _ (by have := HWVB.out.size; omega) HX.out).trans (HWVB.out.block _ hWs), (f9 _ (by have := HWVB.out.size; omega) HFG.out.2).trans (HWVB.out.block _ hgW)⟩ ?_
      clear m9 a9 g9 f9
      clear hK K
      try simp only [Act.put, List.setIfInBounds_toArray, List.set_cons_zero, List.set_cons_succ]
      first
        | change Exit.then _ _ Exit.normal _ _
        | change Exit.inBlock _ _ Exit.normal _ _
      go_wp2_with fail
      go_end0
      rw [HR.out]
      exact ⟨rfl, t9, HM9.out, HA9.out, HG9.out⟩
end Go.Proofs.YthljgiimdcbfpaaDoor
