/- Package layout: read, the kinds that push (printed by gen_read.py). -/
import Derived.Test.YthljgiimdcbfpaaDoorMReadA
namespace Go.Proofs.YthljgiimdcbfpaaDoor
open Go.RowKit
set_option maxRecDepth 100000
set_option linter.unusedVariables false
set_option linter.unusedSimpArgs false

theorem docs_kids {B0 b mb : Nat} {ov : OptV} {s : MS} {w0 : World} (hm : MAt B0 b mb ov s w0) {d : Doc} {A : Option Addr} {n cap : Nat} (h : KV w0 0 B0 d (.slice A n cap)) :
    n = d.kids.length ∧ n ≤ cap ∧ ∃ kg koff, (0 < n → A = some ⟨kg, koff, none⟩) ∧ DocsAt w0 B0 (s.F b mb w0) d.kids (kidAddrs kg koff n) := by
  rw [KV_iff] at h
  obtain ⟨a, c, e, hc, hk⟩ := h
  injection e with e1 e2 e3
  subst e1; subst e2; subst e3
  refine ⟨rfl, hc, ?_⟩
  by_cases h0 : 0 < d.kids.length
  · obtain ⟨kg, koff, ha, h1, h2, h3⟩ := hk h0
    refine ⟨kg, koff, fun _ => ha, by simp [kidAddrs], fun j j1 j2 => ?_⟩
    obtain ⟨kv, k6, kk⟩ := (EV_iff.1 h3) j j1
    have hkg : kg < w0.heap.size := Nat.lt_of_lt_of_le h2 hm.low
    exact ⟨kg, koff + j * 6, kv, by simp [kidAddrs], ⟨hkg, fun hx => by have := hm.X_low hx; omega⟩, k6, kk⟩
  · refine ⟨0, 0, fun h => absurd h h0, by simp [kidAddrs], fun j j1 j2 => absurd j1 (by omega)⟩
theorem kid_ok {d : Doc} (hs : d.shape = true) (hb : d.bulk ≤ 4194304) : ∀ x ∈ d.kids, x.shape = true ∧ x.bulk ≤ 4194304 := fun x hx => by
  rw [Doc.shape_eq, Bool.and_eq_true] at hs
  have := Doc.kid_bulk hx
  exact ⟨shapeL_mem hs.2 x hx, by omega⟩
theorem wt_kids (d : Doc) : wtL d.kids ≤ d.wt := by
  have h : ∀ ks : List Doc, wtL ks ≤ 2 * nodesL ks := by
    intro ks
    induction ks with
    | nil => simp [wtL]
    | cons a l ih =>
      rw [wtL_cons]
      simp only [nodesL]
      unfold Doc.wt
      omega
  have := h d.kids
  unfold Doc.wt
  rw [Doc.nodes_eq]
  omega
theorem ptrs_at {w : World} {F : Nat → Prop} {g n : Nat} {la : List Addr} (h : Blk w g (ptrs la) 66) (hF : F g) (hn : n = la.length) (c : Nat) : PtrsAt w F (.slice (some ⟨g, 0, none⟩) n c) la := by
  subst hn
  refine ⟨g, 0, c, fun _ => hF, ⟨_, rfl, fun _ => rfl⟩, fun j hj => ?_⟩
  rw [Nat.zero_add, h.cell j]
  unfold ptrs
  rw [List.getElem?_map, List.getElem?_eq_getElem hj]
  rfl
theorem kidAddrs_len (g off n : Nat) : (kidAddrs g off n).length = n := by simp [kidAddrs]
/-- What the closure's push leaves, in the words of the walk. -/
theorem push_end {B0 b mb : Nat} {ov : OptV} {s : MS} {N rb bx gp : Nat} {left : Int} {put alone : Bool} {l : List Cm} {rs : Value} {w0 w : World} (hm : MAt B0 b mb ov s w0) (h : RAt B0 b mb s N rb left put alone l rs w0 w) (flat : Bool) {ds : List Doc} {la : List Addr} {n c : Nat}
    (hx : w.cell? ⟨bx, 0, none⟩ = some (.pointer (some ⟨rb, 0, none⟩))) (hxN : N ≤ bx) (hxr : rb < bx) (hxs : ∀ q, bx ≤ q → rs.ownBlock ≠ some q)
    (hb : Blk w gp (ptrs la) 66) (hgp : bx ≤ gp) (hn : n = la.length) (hd : DocsAt w0 B0 (s.F b mb w0) ds la) (hok : ∀ d ∈ ds, d.shape = true ∧ d.bulk ≤ 4194304) (hw : (l.map fun c => c.d.wt).sum + wtL ds ≤ 16777216) :
    Calls Tryd.prog 66 #[.bool flat, .slice (some ⟨gp, 0, none⟩) n c, .pointer (some ⟨bx, 0, none⟩)] w fun e w' => e = .returned (.tuple #[]) ∧ (∃ rs' l', l'.map (fun c => (c.flat, c.d)) = (ds.map fun d => (flat, d)).reverse ∧ RAt B0 b mb s N rb left put alone (l ++ l') rs' w0 w') ∧ (∀ q, q < N → w'.heap[q]? = w.heap[q]?) ∧ (∀ q, bx ≤ q → q < w.heap.size → w'.heap[q]? = w.heap[q]?) :=
  (rpush_is hm h flat hx hxN (by omega) (hxs bx (Nat.le_refl _)) (ptrs_at hb ⟨hb.lt, by omega, hxs gp hgp⟩ hn c) hd hok hw).mono fun e w' ⟨he, rs', l', h1, h2, h3⟩ =>
    ⟨he, ⟨rs', l', h1, h2⟩, fun q hq => h3 q (by have := h.below.size; have := h.low; omega) (by have := h.lowb; omega) (fun e => by have := (h.row.lt q e).1; omega), fun q hq hl => h3 q hl (by omega) (hxs q hq)⟩
theorem kids_len_bulk {d : Doc} (hb : d.bulk ≤ 4194304) : d.kids.length ≤ 4194304 := by have := d.kids_len; omega

set_option maxHeartbeats 16000000 in
theorem read_text {B0 b mb : Nat} {ov : OptV} {s : MS} {N rb : Nat} {left : Int} {put alone : Bool} {l : List Cm} {rs : Value} {w0 w : World} (hm : MAt B0 b mb ov s w0) (h : RAt B0 b mb s N rb left put alone l rs w0 w) (p : Option Addr) (flat : Bool) {d : Doc} {a : Addr} (hd : DocAt w0 B0 (s.F b mb w0) d a) (hsh : d.shape = true) (hbk : d.bulk ≤ 4194304) (hwt : (l.map fun c => c.d.wt).sum + d.wt ≤ 16777216) (hk : d.kind = 1) :
    Calls Tryd.prog 59 #[.pointer (some ⟨rb, 0, none⟩), .agg #[.pointer p, .bool flat, .pointer (some a)]] w fun e w' => ReadEnds B0 b mb s N rb alone l w0 (readS alone s.brk d flat left put) e w' := by
  have hrb := rb_new h p flat a
  have hlw := h.left0
  have hlw1 := h.left1
  have hr0 := hrb.r
  obtain ⟨g, off, kv, rfl, hFg, h6, hkv⟩ := hr0.doc hm hd
  obtain ⟨A, cap, hkvs⟩ := hkv.slice
  have k0 := h6.kind
  have k1 := h6.text
  have k2 := h6.kids
  have k3 := h6.brk
  have k4 := h6.id
  rw [hk] at k0
  rw [hkvs] at k2 hkv
  have x0 := hrb.x
  have y1 := hrb.p1
  have y2 := hrb.p2
  have r1 : _ = some (Value.int .i64 left) := hr0.blk.cell 1
  have r3 : _ = some (Value.bool put) := hr0.blk.cell 3
  have r4 : _ = some (Value.bool alone) := hr0.blk.cell 4
  have g1 := hr0.blk.frozen 1
  have g3 := hr0.blk.frozen 3
  have HRB := Lib.hid hrb
  have HR0 := Lib.hid hr0
  have HM := Lib.hid hm
  have HKV := Lib.hid hkv
  have HSH := Lib.hid hsh
  have HBK := Lib.hid hbk
  have HWT := Lib.hid hwt
  have HD := Lib.hid hd
  have HK := Lib.hid hk
  obtain ⟨hgN, hhk⟩ := kids_at hr0 hd k2
  have HHK := Lib.hid hhk
  clear h hm hd hsh hbk hwt hrb hr0 hkv h6 hFg hkvs hk hhk
  have HR : Hid (readS alone s.brk d flat left put = (if left - (widthB d.text : Int) < 0 then (.done false, []) else (.go (left - (widthB d.text : Int)) put, []))) := Lib.hid (by unfold readS; rw [HK.out]; rfl)
  obtain ⟨W, hW⟩ : ∃ W, W = (w.alloc (.cells #[.pointer (some ⟨rb, 0, none⟩)] 100)).alloc (.cells #[.pointer p, .bool flat, .pointer (some ⟨g, off, none⟩)] 69) := ⟨_, rfl⟩
  have HWW := Lib.hid hW
  rw [← hW] at HRB HR0
  clear hW
  have hrr := HRB.out.rx
  have hts : d.text.size ≤ 4194304 := by have := HBK.out; rw [Doc.bulk_eq] at this; omega
  have hwd : (widthB d.text : Int) ≤ 8388608 := by
    have := widthRest_le d.text 0 (Nat.zero_le _)
    unfold widthB
    omega
  generalize hy : (widthB d.text : Int) = y at *
  have HWI := Lib.hid (fun (W : World) => width_any d.text W (by omega))
  rw [hy] at HWI
  have hy0 : 0 ≤ y := by rw [← hy]; omega
  have hwr : IntKind.i64.wrap (left - y) = left - y := by rw [IntKind.wrap_i64]; omega
  have hne : ∀ q, (⟨w.heap.size, q, none⟩ : Addr).block ≠ rb := fun q => by show w.heap.size ≠ rb; omega
  have hrl := HR0.out.blk.lt
  have hxl := HRB.out.lt
  have hNW : N ≤ W.heap.size := by have := HRB.out.lx; omega
  clear k2 k3 k4 r3 r4 y1 hy
  go_enter Tryd.func59, Tryd.ntmps59
  go_upto_region 5 with fail
  rw [← HWW.out] at k0 k1 x0 r1 g1 ⊢
  have HW1 := Lib.hid (fun (wt : World) (hb : Below W.heap.size W wt) => HR0.out.next hb)
  refine wp_region_chain2 (fun w' => w'.cell? ⟨w.heap.size, 0, none⟩ = some (.pointer (some ⟨rb, 0, none⟩)) ∧ w'.cell? ⟨rb, 1, none⟩ = some (.int .i64 left) ∧ w'.cell? ⟨g, off + 1, none⟩ = some (.string d.text)) 8 4 _ (by kernel_rfl) rfl (by kernel_rfl) (by kernel_rfl) (by intro _ _ d _ _ h; cases d <;> exact h) ⟨x0, r1, k1⟩ ?_
  simp only [List.take_succ_cons, List.take_zero, List.drop_succ_cons, List.drop_zero, List.cons_append, List.nil_append]
  repeat (refine wpHeld_step rfl ?_; apply Exists.intro; refine ⟨fun wq hq => ?_, ?_⟩; (obtain ⟨q1, q2, q3⟩ := hq; go_simp; first | done | rfl); simp only [Act.put, List.setIfInBounds_toArray, List.set_cons_zero, List.set_cons_succ])
  change wpSeq _ _ _ _ _ _ _
  refine wpSeq_step rfl (fun K hK => ?_)
  go_simp
  go_at_call 32
  refine (HWI.out _).mono ?_
  rintro e wt ⟨rfl, hbt⟩
  have hbt' : Below W.heap.size W wt := (Below.refl _ W).drew.trans (hbt : Below W.heap.size W.drew wt)
  have d0 := (hbt'.cell (p := ⟨w.heap.size, 0, none⟩) (by simp; omega)).trans x0
  have d1 := (hbt'.cell (p := ⟨rb, 1, none⟩) hrl).trans r1
  have dk := (hbt'.cell (p := ⟨g, off + 1, none⟩) (by simp; omega)).trans k1
  have df := (hbt'.frozen (p := ⟨rb, 1, none⟩) hrl).trans g1
  refine hK _ _ ⟨d0, d1, dk⟩ ?_
  clear hK K
  try simp only [Act.put, List.setIfInBounds_toArray, List.set_cons_zero, List.set_cons_succ]
  refine wpSeq_step rfl (fun K hK => ?_)
  go_simp
  refine hK _ _ ⟨d0, d1, dk⟩ ?_
  clear hK K
  try simp only [Act.put, List.setIfInBounds_toArray, List.set_cons_zero, List.set_cons_succ]
  refine wpSeq_step rfl (fun K hK => ?_)
  go_simp
  refine hK _ _ ⟨d0, d1, dk⟩ ?_
  clear hK K
  try simp only [Act.put, List.setIfInBounds_toArray, List.set_cons_zero, List.set_cons_succ]
  refine wpSeq_step rfl (fun K hK => ?_)
  go_simp
  refine hK _ _ ⟨d0, d1, dk⟩ ?_
  clear hK K
  try simp only [Act.put, List.setIfInBounds_toArray, List.set_cons_zero, List.set_cons_succ]
  change Oper.wp _ _ _ _ _ _
  go_simp
  have HRT := Lib.hid (HR0.out.next hbt')
  have HBT := Lib.hid (HRT.out.below.setCell (p := ⟨rb, 1, none⟩) HRT.out.lowb (.int .i64 (left - y)))
  have e1 := (HRT.out.blk.set 1 (.int .i64 (left - y))).cell 1
  simp only [List.set_cons_succ, List.set_cons_zero, List.getElem?_cons_zero, List.getElem?_cons_succ] at e1
  have e0 := (World.cell?_of_block (w := wt) (w' := wt.setCell ⟨rb, 1, none⟩ (.int .i64 (left - y))) (a := ⟨w.heap.size, 0, none⟩) (Below.heap_setCell wt _ _ _ (hne 0))).trans d0
  clear hbt hbt' x0 r1 k1 k0 d0 d1 dk df g1
  go_wp2_with fail
  go_quiet (fail)
  go_wp2_with fail
  go_ret2
  rw [HR.out]
  by_cases hl : left - y < 0
  · have HDL : Hid (decide (left - y < 0) = true) := Lib.hid (by simpa using hl)
    rw [if_pos hl]
    exact ⟨by show Ending.returned (.tuple #[.bool false, .bool (decide (left - y < 0))]) = _; rw [HDL.out], HBT.out.trans ⟨rfl, rfl, rfl, Nat.le_refl _, fun _ _ => rfl⟩⟩
  · have HDL : Hid (decide (left - y < 0) = false) := Lib.hid (by simpa using hl)
    rw [if_neg hl]
    exact ⟨by show Ending.returned (.tuple #[.bool false, .bool (decide (left - y < 0))]) = _; rw [HDL.out], rs, [], rfl, by rw [List.append_nil]; exact (HRT.out.setLeft (left - y) (by omega) (by omega)).next ⟨rfl, rfl, rfl, Nat.le_refl _, fun _ _ => rfl⟩⟩

set_option maxHeartbeats 16000000 in
theorem read_concat {B0 b mb : Nat} {ov : OptV} {s : MS} {N rb : Nat} {left : Int} {put alone : Bool} {l : List Cm} {rs : Value} {w0 w : World} (hm : MAt B0 b mb ov s w0) (h : RAt B0 b mb s N rb left put alone l rs w0 w) (p : Option Addr) (flat : Bool) {d : Doc} {a : Addr} (hd : DocAt w0 B0 (s.F b mb w0) d a) (hsh : d.shape = true) (hbk : d.bulk ≤ 4194304) (hwt : (l.map fun c => c.d.wt).sum + d.wt ≤ 16777216) (hk : d.kind = 2) :
    Calls Tryd.prog 59 #[.pointer (some ⟨rb, 0, none⟩), .agg #[.pointer p, .bool flat, .pointer (some a)]] w fun e w' => ReadEnds B0 b mb s N rb alone l w0 (readS alone s.brk d flat left put) e w' := by
  have hrb := rb_new h p flat a
  have hlw := h.left0
  have hlw1 := h.left1
  have hr0 := hrb.r
  obtain ⟨g, off, kv, rfl, hFg, h6, hkv⟩ := hr0.doc hm hd
  obtain ⟨A, cap, hkvs⟩ := hkv.slice
  have k0 := h6.kind
  have k1 := h6.text
  have k2 := h6.kids
  have k3 := h6.brk
  have k4 := h6.id
  rw [hk] at k0
  rw [hkvs] at k2 hkv
  have x0 := hrb.x
  have y1 := hrb.p1
  have y2 := hrb.p2
  have r1 : _ = some (Value.int .i64 left) := hr0.blk.cell 1
  have r3 : _ = some (Value.bool put) := hr0.blk.cell 3
  have r4 : _ = some (Value.bool alone) := hr0.blk.cell 4
  have g1 := hr0.blk.frozen 1
  have g3 := hr0.blk.frozen 3
  have HRB := Lib.hid hrb
  have HR0 := Lib.hid hr0
  have HM := Lib.hid hm
  have HKV := Lib.hid hkv
  have HSH := Lib.hid hsh
  have HBK := Lib.hid hbk
  have HWT := Lib.hid hwt
  have HD := Lib.hid hd
  have HK := Lib.hid hk
  obtain ⟨hgN, hhk⟩ := kids_at hr0 hd k2
  have HHK := Lib.hid hhk
  clear h hm hd hsh hbk hwt hrb hr0 hkv h6 hFg hkvs hk hhk
  have HR : Hid (readS alone s.brk d flat left put = (.go left put, d.kids.map fun x => (flat, x))) := Lib.hid (by unfold readS; rw [HK.out]; rfl)
  obtain ⟨W, hW⟩ : ∃ W, W = (w.alloc (.cells #[.pointer (some ⟨rb, 0, none⟩)] 100)).alloc (.cells #[.pointer p, .bool flat, .pointer (some ⟨g, off, none⟩)] 69) := ⟨_, rfl⟩
  have HWW := Lib.hid hW
  rw [← hW] at HRB HR0
  clear hW
  have hrr := HRB.out.rx
  have hrl := HR0.out.blk.lt
  have hxl := HRB.out.lt
  have hNx := HRB.out.lx
  obtain ⟨hn, hnc, kg, koff, hA, hds⟩ := docs_kids HM.out HHK.out
  clear hn
  have hnl := kids_len_bulk HBK.out
  have HDS := Lib.hid hds
  have HKI := Lib.hid (fun (W : World) => kids_is A kg koff d.kids.length cap W hnl hnc hA)
  have HOX := Lib.hid HRB.out.ox
  have hlow2 : ∀ q, rs.ownBlock = some q → N ≤ q := fun q hq => (HR0.out.row.lt q hq).1
  have HLO := Lib.hid hlow2
  have HDL : Hid (decide (left < 0) = false) := Lib.hid (by simp; omega)
  clear k1 k3 k4 r1 r3 r4 hds hlow2 hA hnc
  go_enter Tryd.func59, Tryd.ntmps59
  go_upto_region 11 with fail
  rw [← HWW.out] at k0 k2 x0 y1 ⊢
  refine wp_region_seq (fun w' => w'.cell? ⟨w.heap.size + 1, 1, none⟩ = some (.bool flat) ∧ w'.cell? ⟨g, off + 2, none⟩ = some (.slice A d.kids.length cap)) 7 2 (by kernel_rfl) rfl (by kernel_rfl) (by intro _ _ d _ _ h; cases d <;> exact h) ⟨y1, k2⟩ ?_
  simp only [List.take_succ_cons, List.take_zero, List.drop_succ_cons, List.drop_zero, List.cons_append, List.nil_append]
  repeat (refine wpHeld_step rfl ?_; apply Exists.intro; refine ⟨fun wq hq => ?_, ?_⟩; (obtain ⟨q1, q2⟩ := hq; go_simp; first | done | rfl); simp only [Act.put, List.setIfInBounds_toArray, List.set_cons_zero, List.set_cons_succ])
  change wpSeq _ _ _ _ _ _ _
  refine wpSeq_step rfl (fun K hK => ?_)
  go_simp
  go_at_call 47
  refine (HKI.out _).mono ?_
  rintro e wt ⟨rfl, hbt, hpb⟩
  have hbt' : Below W.heap.size W wt := (Below.refl _ W).drew.trans (hbt : Below W.heap.size W.drew wt)
  have dy := (hbt'.cell (p := ⟨w.heap.size + 1, 1, none⟩) (by simp; omega)).trans y1
  have dk := (hbt'.cell (p := ⟨g, off + 2, none⟩) (by simp; omega)).trans k2
  have dx := (hbt'.cell (p := ⟨w.heap.size, 0, none⟩) (by simp; omega)).trans x0
  refine hK _ _ ⟨dy, dk⟩ ?_
  clear hK K
  try simp only [Act.put, List.setIfInBounds_toArray, List.set_cons_zero, List.set_cons_succ]
  refine wpSeq_step rfl (fun K hK => ?_)
  go_simp
  refine (push_end HM.out (HR0.out.next hbt') flat dx hNx hrr HOX.out hpb (by show w.heap.size ≤ W.heap.size; omega) (kidAddrs_len _ _ _).symm HDS.out (kid_ok HSH.out HBK.out) (by have := wt_kids d; have := HWT.out; omega)).mono ?_
  rintro e w3 ⟨rfl, ⟨rs', l', hl', hr3⟩, hf1, hf2⟩
  have ey := (World.cell?_of_block (w := wt) (w' := w3) (a := ⟨w.heap.size + 1, 1, none⟩) (hf2 _ (by show w.heap.size ≤ w.heap.size + 1; omega) (by show w.heap.size + 1 < wt.heap.size; have := hbt'.size; omega))).trans dy
  have ek := (World.cell?_of_block (w := wt) (w' := w3) (a := ⟨g, off + 2, none⟩) (hf1 _ hgN)).trans dk
  have ex := (World.cell?_of_block (w := wt) (w' := w3) (a := ⟨w.heap.size, 0, none⟩) (hf2 _ (Nat.le_refl _) (by show w.heap.size < wt.heap.size; have := hbt'.size; omega))).trans dx
  have er := hr3.blk.cell 1
  simp only [List.getElem?_cons_zero, List.getElem?_cons_succ] at er
  have HR3 := Lib.hid hr3
  have HL3 := Lib.hid hl'
  refine hK _ _ ⟨ey, ek⟩ ?_
  clear hK K hr3 hl' hf1 hf2 hbt hbt' hpb dy dk dx ey ek y1 k2 k0 x0
  try simp only [Act.put, List.setIfInBounds_toArray, List.set_cons_zero, List.set_cons_succ]
  change Exit.inBlock _ _ Exit.normal _ _
  go_wp2_with fail
  go_quiet (fail)
  go_wp2_with fail
  go_ret2
  rw [HR.out]
  exact ⟨by show Ending.returned (.tuple #[.bool false, .bool (decide (left < 0))]) = _; rw [HDL.out], rs', l', HL3.out, HR3.out.next ⟨rfl, rfl, rfl, Nat.le_refl _, fun _ _ => rfl⟩⟩

set_option maxHeartbeats 16000000 in
theorem read_fill {B0 b mb : Nat} {ov : OptV} {s : MS} {N rb : Nat} {left : Int} {put alone : Bool} {l : List Cm} {rs : Value} {w0 w : World} (hm : MAt B0 b mb ov s w0) (h : RAt B0 b mb s N rb left put alone l rs w0 w) (p : Option Addr) (flat : Bool) {d : Doc} {a : Addr} (hd : DocAt w0 B0 (s.F b mb w0) d a) (hsh : d.shape = true) (hbk : d.bulk ≤ 4194304) (hwt : (l.map fun c => c.d.wt).sum + d.wt ≤ 16777216) (hk : d.kind = 9) :
    Calls Tryd.prog 59 #[.pointer (some ⟨rb, 0, none⟩), .agg #[.pointer p, .bool flat, .pointer (some a)]] w fun e w' => ReadEnds B0 b mb s N rb alone l w0 (readS alone s.brk d flat left put) e w' := by
  have hrb := rb_new h p flat a
  have hlw := h.left0
  have hlw1 := h.left1
  have hr0 := hrb.r
  obtain ⟨g, off, kv, rfl, hFg, h6, hkv⟩ := hr0.doc hm hd
  obtain ⟨A, cap, hkvs⟩ := hkv.slice
  have k0 := h6.kind
  have k1 := h6.text
  have k2 := h6.kids
  have k3 := h6.brk
  have k4 := h6.id
  rw [hk] at k0
  rw [hkvs] at k2 hkv
  have x0 := hrb.x
  have y1 := hrb.p1
  have y2 := hrb.p2
  have r1 : _ = some (Value.int .i64 left) := hr0.blk.cell 1
  have r3 : _ = some (Value.bool put) := hr0.blk.cell 3
  have r4 : _ = some (Value.bool alone) := hr0.blk.cell 4
  have g1 := hr0.blk.frozen 1
  have g3 := hr0.blk.frozen 3
  have HRB := Lib.hid hrb
  have HR0 := Lib.hid hr0
  have HM := Lib.hid hm
  have HKV := Lib.hid hkv
  have HSH := Lib.hid hsh
  have HBK := Lib.hid hbk
  have HWT := Lib.hid hwt
  have HD := Lib.hid hd
  have HK := Lib.hid hk
  obtain ⟨hgN, hhk⟩ := kids_at hr0 hd k2
  have HHK := Lib.hid hhk
  clear h hm hd hsh hbk hwt hrb hr0 hkv h6 hFg hkvs hk hhk
  have HR : Hid (readS alone s.brk d flat left put = (.go left put, d.kids.map fun x => (flat, x))) := Lib.hid (by unfold readS; rw [HK.out]; rfl)
  obtain ⟨W, hW⟩ : ∃ W, W = (w.alloc (.cells #[.pointer (some ⟨rb, 0, none⟩)] 100)).alloc (.cells #[.pointer p, .bool flat, .pointer (some ⟨g, off, none⟩)] 69) := ⟨_, rfl⟩
  have HWW := Lib.hid hW
  rw [← hW] at HRB HR0
  clear hW
  have hrr := HRB.out.rx
  have hrl := HR0.out.blk.lt
  have hxl := HRB.out.lt
  have hNx := HRB.out.lx
  obtain ⟨hn, hnc, kg, koff, hA, hds⟩ := docs_kids HM.out HHK.out
  clear hn
  have hnl := kids_len_bulk HBK.out
  have HDS := Lib.hid hds
  have HKI := Lib.hid (fun (W : World) => kids_is A kg koff d.kids.length cap W hnl hnc hA)
  have HOX := Lib.hid HRB.out.ox
  have hlow2 : ∀ q, rs.ownBlock = some q → N ≤ q := fun q hq => (HR0.out.row.lt q hq).1
  have HLO := Lib.hid hlow2
  have HDL : Hid (decide (left < 0) = false) := Lib.hid (by simp; omega)
  clear k1 k3 k4 r1 r3 r4 hds hlow2 hA hnc
  go_enter Tryd.func59, Tryd.ntmps59
  go_upto_region 11 with fail
  rw [← HWW.out] at k0 k2 x0 y1 ⊢
  refine wp_region_seq (fun w' => w'.cell? ⟨w.heap.size + 1, 1, none⟩ = some (.bool flat) ∧ w'.cell? ⟨g, off + 2, none⟩ = some (.slice A d.kids.length cap)) 7 2 (by kernel_rfl) rfl (by kernel_rfl) (by intro _ _ d _ _ h; cases d <;> exact h) ⟨y1, k2⟩ ?_
  simp only [List.take_succ_cons, List.take_zero, List.drop_succ_cons, List.drop_zero, List.cons_append, List.nil_append]
  repeat (refine wpHeld_step rfl ?_; apply Exists.intro; refine ⟨fun wq hq => ?_, ?_⟩; (obtain ⟨q1, q2⟩ := hq; go_simp; first | done | rfl); simp only [Act.put, List.setIfInBounds_toArray, List.set_cons_zero, List.set_cons_succ])
  change wpSeq _ _ _ _ _ _ _
  refine wpSeq_step rfl (fun K hK => ?_)
  go_simp
  go_at_call 47
  refine (HKI.out _).mono ?_
  rintro e wt ⟨rfl, hbt, hpb⟩
  have hbt' : Below W.heap.size W wt := (Below.refl _ W).drew.trans (hbt : Below W.heap.size W.drew wt)
  have dy := (hbt'.cell (p := ⟨w.heap.size + 1, 1, none⟩) (by simp; omega)).trans y1
  have dk := (hbt'.cell (p := ⟨g, off + 2, none⟩) (by simp; omega)).trans k2
  have dx := (hbt'.cell (p := ⟨w.heap.size, 0, none⟩) (by simp; omega)).trans x0
  refine hK _ _ ⟨dy, dk⟩ ?_
  clear hK K
  try simp only [Act.put, List.setIfInBounds_toArray, List.set_cons_zero, List.set_cons_succ]
  refine wpSeq_step rfl (fun K hK => ?_)
  go_simp
  refine (push_end HM.out (HR0.out.next hbt') flat dx hNx hrr HOX.out hpb (by show w.heap.size ≤ W.heap.size; omega) (kidAddrs_len _ _ _).symm HDS.out (kid_ok HSH.out HBK.out) (by have := wt_kids d; have := HWT.out; omega)).mono ?_
  rintro e w3 ⟨rfl, ⟨rs', l', hl', hr3⟩, hf1, hf2⟩
  have ey := (World.cell?_of_block (w := wt) (w' := w3) (a := ⟨w.heap.size + 1, 1, none⟩) (hf2 _ (by show w.heap.size ≤ w.heap.size + 1; omega) (by show w.heap.size + 1 < wt.heap.size; have := hbt'.size; omega))).trans dy
  have ek := (World.cell?_of_block (w := wt) (w' := w3) (a := ⟨g, off + 2, none⟩) (hf1 _ hgN)).trans dk
  have ex := (World.cell?_of_block (w := wt) (w' := w3) (a := ⟨w.heap.size, 0, none⟩) (hf2 _ (Nat.le_refl _) (by show w.heap.size < wt.heap.size; have := hbt'.size; omega))).trans dx
  have er := hr3.blk.cell 1
  simp only [List.getElem?_cons_zero, List.getElem?_cons_succ] at er
  have HR3 := Lib.hid hr3
  have HL3 := Lib.hid hl'
  refine hK _ _ ⟨ey, ek⟩ ?_
  clear hK K hr3 hl' hf1 hf2 hbt hbt' hpb dy dk dx ey ek y1 k2 k0 x0
  try simp only [Act.put, List.setIfInBounds_toArray, List.set_cons_zero, List.set_cons_succ]
  change Exit.inBlock _ _ Exit.normal _ _
  go_wp2_with fail
  go_quiet (fail)
  go_wp2_with fail
  go_ret2
  rw [HR.out]
  exact ⟨by show Ending.returned (.tuple #[.bool false, .bool (decide (left < 0))]) = _; rw [HDL.out], rs', l', HL3.out, HR3.out.next ⟨rfl, rfl, rfl, Nat.le_refl _, fun _ _ => rfl⟩⟩

set_option maxHeartbeats 16000000 in
theorem read_indent {B0 b mb : Nat} {ov : OptV} {s : MS} {N rb : Nat} {left : Int} {put alone : Bool} {l : List Cm} {rs : Value} {w0 w : World} (hm : MAt B0 b mb ov s w0) (h : RAt B0 b mb s N rb left put alone l rs w0 w) (p : Option Addr) (flat : Bool) {d : Doc} {a : Addr} (hd : DocAt w0 B0 (s.F b mb w0) d a) (hsh : d.shape = true) (hbk : d.bulk ≤ 4194304) (hwt : (l.map fun c => c.d.wt).sum + d.wt ≤ 16777216) (hk : d.kind = 11) :
    Calls Tryd.prog 59 #[.pointer (some ⟨rb, 0, none⟩), .agg #[.pointer p, .bool flat, .pointer (some a)]] w fun e w' => ReadEnds B0 b mb s N rb alone l w0 (readS alone s.brk d flat left put) e w' := by
  have hrb := rb_new h p flat a
  have hlw := h.left0
  have hlw1 := h.left1
  have hr0 := hrb.r
  obtain ⟨g, off, kv, rfl, hFg, h6, hkv⟩ := hr0.doc hm hd
  obtain ⟨A, cap, hkvs⟩ := hkv.slice
  have k0 := h6.kind
  have k1 := h6.text
  have k2 := h6.kids
  have k3 := h6.brk
  have k4 := h6.id
  rw [hk] at k0
  rw [hkvs] at k2 hkv
  have x0 := hrb.x
  have y1 := hrb.p1
  have y2 := hrb.p2
  have r1 : _ = some (Value.int .i64 left) := hr0.blk.cell 1
  have r3 : _ = some (Value.bool put) := hr0.blk.cell 3
  have r4 : _ = some (Value.bool alone) := hr0.blk.cell 4
  have g1 := hr0.blk.frozen 1
  have g3 := hr0.blk.frozen 3
  have HRB := Lib.hid hrb
  have HR0 := Lib.hid hr0
  have HM := Lib.hid hm
  have HKV := Lib.hid hkv
  have HSH := Lib.hid hsh
  have HBK := Lib.hid hbk
  have HWT := Lib.hid hwt
  have HD := Lib.hid hd
  have HK := Lib.hid hk
  obtain ⟨hgN, hhk⟩ := kids_at hr0 hd k2
  have HHK := Lib.hid hhk
  clear h hm hd hsh hbk hwt hrb hr0 hkv h6 hFg hkvs hk hhk
  have HR : Hid (readS alone s.brk d flat left put = (.go left put, d.kids.map fun x => (flat, x))) := Lib.hid (by unfold readS; rw [HK.out]; rfl)
  obtain ⟨W, hW⟩ : ∃ W, W = (w.alloc (.cells #[.pointer (some ⟨rb, 0, none⟩)] 100)).alloc (.cells #[.pointer p, .bool flat, .pointer (some ⟨g, off, none⟩)] 69) := ⟨_, rfl⟩
  have HWW := Lib.hid hW
  rw [← hW] at HRB HR0
  clear hW
  have hrr := HRB.out.rx
  have hrl := HR0.out.blk.lt
  have hxl := HRB.out.lt
  have hNx := HRB.out.lx
  obtain ⟨hn, hnc, kg, koff, hA, hds⟩ := docs_kids HM.out HHK.out
  clear hn
  have hnl := kids_len_bulk HBK.out
  have HDS := Lib.hid hds
  have HKI := Lib.hid (fun (W : World) => kids_is A kg koff d.kids.length cap W hnl hnc hA)
  have HOX := Lib.hid HRB.out.ox
  have hlow2 : ∀ q, rs.ownBlock = some q → N ≤ q := fun q hq => (HR0.out.row.lt q hq).1
  have HLO := Lib.hid hlow2
  have HDL : Hid (decide (left < 0) = false) := Lib.hid (by simp; omega)
  clear k1 k3 k4 r1 r3 r4 hds hlow2 hA hnc
  go_enter Tryd.func59, Tryd.ntmps59
  go_upto_region 11 with fail
  rw [← HWW.out] at k0 k2 x0 y1 ⊢
  refine wp_region_seq (fun w' => w'.cell? ⟨w.heap.size + 1, 1, none⟩ = some (.bool flat) ∧ w'.cell? ⟨g, off + 2, none⟩ = some (.slice A d.kids.length cap)) 7 2 (by kernel_rfl) rfl (by kernel_rfl) (by intro _ _ d _ _ h; cases d <;> exact h) ⟨y1, k2⟩ ?_
  simp only [List.take_succ_cons, List.take_zero, List.drop_succ_cons, List.drop_zero, List.cons_append, List.nil_append]
  repeat (refine wpHeld_step rfl ?_; apply Exists.intro; refine ⟨fun wq hq => ?_, ?_⟩; (obtain ⟨q1, q2⟩ := hq; go_simp; first | done | rfl); simp only [Act.put, List.setIfInBounds_toArray, List.set_cons_zero, List.set_cons_succ])
  change wpSeq _ _ _ _ _ _ _
  refine wpSeq_step rfl (fun K hK => ?_)
  go_simp
  go_at_call 47
  refine (HKI.out _).mono ?_
  rintro e wt ⟨rfl, hbt, hpb⟩
  have hbt' : Below W.heap.size W wt := (Below.refl _ W).drew.trans (hbt : Below W.heap.size W.drew wt)
  have dy := (hbt'.cell (p := ⟨w.heap.size + 1, 1, none⟩) (by simp; omega)).trans y1
  have dk := (hbt'.cell (p := ⟨g, off + 2, none⟩) (by simp; omega)).trans k2
  have dx := (hbt'.cell (p := ⟨w.heap.size, 0, none⟩) (by simp; omega)).trans x0
  refine hK _ _ ⟨dy, dk⟩ ?_
  clear hK K
  try simp only [Act.put, List.setIfInBounds_toArray, List.set_cons_zero, List.set_cons_succ]
  refine wpSeq_step rfl (fun K hK => ?_)
  go_simp
  refine (push_end HM.out (HR0.out.next hbt') flat dx hNx hrr HOX.out hpb (by show w.heap.size ≤ W.heap.size; omega) (kidAddrs_len _ _ _).symm HDS.out (kid_ok HSH.out HBK.out) (by have := wt_kids d; have := HWT.out; omega)).mono ?_
  rintro e w3 ⟨rfl, ⟨rs', l', hl', hr3⟩, hf1, hf2⟩
  have ey := (World.cell?_of_block (w := wt) (w' := w3) (a := ⟨w.heap.size + 1, 1, none⟩) (hf2 _ (by show w.heap.size ≤ w.heap.size + 1; omega) (by show w.heap.size + 1 < wt.heap.size; have := hbt'.size; omega))).trans dy
  have ek := (World.cell?_of_block (w := wt) (w' := w3) (a := ⟨g, off + 2, none⟩) (hf1 _ hgN)).trans dk
  have ex := (World.cell?_of_block (w := wt) (w' := w3) (a := ⟨w.heap.size, 0, none⟩) (hf2 _ (Nat.le_refl _) (by show w.heap.size < wt.heap.size; have := hbt'.size; omega))).trans dx
  have er := hr3.blk.cell 1
  simp only [List.getElem?_cons_zero, List.getElem?_cons_succ] at er
  have HR3 := Lib.hid hr3
  have HL3 := Lib.hid hl'
  refine hK _ _ ⟨ey, ek⟩ ?_
  clear hK K hr3 hl' hf1 hf2 hbt hbt' hpb dy dk dx ey ek y1 k2 k0 x0
  try simp only [Act.put, List.setIfInBounds_toArray, List.set_cons_zero, List.set_cons_succ]
  change Exit.inBlock _ _ Exit.normal _ _
  go_wp2_with fail
  go_quiet (fail)
  go_wp2_with fail
  go_ret2
  rw [HR.out]
  exact ⟨by show Ending.returned (.tuple #[.bool false, .bool (decide (left < 0))]) = _; rw [HDL.out], rs', l', HL3.out, HR3.out.next ⟨rfl, rfl, rfl, Nat.le_refl _, fun _ _ => rfl⟩⟩

set_option maxHeartbeats 16000000 in
theorem read_align {B0 b mb : Nat} {ov : OptV} {s : MS} {N rb : Nat} {left : Int} {put alone : Bool} {l : List Cm} {rs : Value} {w0 w : World} (hm : MAt B0 b mb ov s w0) (h : RAt B0 b mb s N rb left put alone l rs w0 w) (p : Option Addr) (flat : Bool) {d : Doc} {a : Addr} (hd : DocAt w0 B0 (s.F b mb w0) d a) (hsh : d.shape = true) (hbk : d.bulk ≤ 4194304) (hwt : (l.map fun c => c.d.wt).sum + d.wt ≤ 16777216) (hk : d.kind = 13) :
    Calls Tryd.prog 59 #[.pointer (some ⟨rb, 0, none⟩), .agg #[.pointer p, .bool flat, .pointer (some a)]] w fun e w' => ReadEnds B0 b mb s N rb alone l w0 (readS alone s.brk d flat left put) e w' := by
  have hrb := rb_new h p flat a
  have hlw := h.left0
  have hlw1 := h.left1
  have hr0 := hrb.r
  obtain ⟨g, off, kv, rfl, hFg, h6, hkv⟩ := hr0.doc hm hd
  obtain ⟨A, cap, hkvs⟩ := hkv.slice
  have k0 := h6.kind
  have k1 := h6.text
  have k2 := h6.kids
  have k3 := h6.brk
  have k4 := h6.id
  rw [hk] at k0
  rw [hkvs] at k2 hkv
  have x0 := hrb.x
  have y1 := hrb.p1
  have y2 := hrb.p2
  have r1 : _ = some (Value.int .i64 left) := hr0.blk.cell 1
  have r3 : _ = some (Value.bool put) := hr0.blk.cell 3
  have r4 : _ = some (Value.bool alone) := hr0.blk.cell 4
  have g1 := hr0.blk.frozen 1
  have g3 := hr0.blk.frozen 3
  have HRB := Lib.hid hrb
  have HR0 := Lib.hid hr0
  have HM := Lib.hid hm
  have HKV := Lib.hid hkv
  have HSH := Lib.hid hsh
  have HBK := Lib.hid hbk
  have HWT := Lib.hid hwt
  have HD := Lib.hid hd
  have HK := Lib.hid hk
  obtain ⟨hgN, hhk⟩ := kids_at hr0 hd k2
  have HHK := Lib.hid hhk
  clear h hm hd hsh hbk hwt hrb hr0 hkv h6 hFg hkvs hk hhk
  have HR : Hid (readS alone s.brk d flat left put = (.go left put, d.kids.map fun x => (flat, x))) := Lib.hid (by unfold readS; rw [HK.out]; rfl)
  obtain ⟨W, hW⟩ : ∃ W, W = (w.alloc (.cells #[.pointer (some ⟨rb, 0, none⟩)] 100)).alloc (.cells #[.pointer p, .bool flat, .pointer (some ⟨g, off, none⟩)] 69) := ⟨_, rfl⟩
  have HWW := Lib.hid hW
  rw [← hW] at HRB HR0
  clear hW
  have hrr := HRB.out.rx
  have hrl := HR0.out.blk.lt
  have hxl := HRB.out.lt
  have hNx := HRB.out.lx
  obtain ⟨hn, hnc, kg, koff, hA, hds⟩ := docs_kids HM.out HHK.out
  clear hn
  have hnl := kids_len_bulk HBK.out
  have HDS := Lib.hid hds
  have HKI := Lib.hid (fun (W : World) => kids_is A kg koff d.kids.length cap W hnl hnc hA)
  have HOX := Lib.hid HRB.out.ox
  have hlow2 : ∀ q, rs.ownBlock = some q → N ≤ q := fun q hq => (HR0.out.row.lt q hq).1
  have HLO := Lib.hid hlow2
  have HDL : Hid (decide (left < 0) = false) := Lib.hid (by simp; omega)
  clear k1 k3 k4 r1 r3 r4 hds hlow2 hA hnc
  go_enter Tryd.func59, Tryd.ntmps59
  go_upto_region 11 with fail
  rw [← HWW.out] at k0 k2 x0 y1 ⊢
  refine wp_region_seq (fun w' => w'.cell? ⟨w.heap.size + 1, 1, none⟩ = some (.bool flat) ∧ w'.cell? ⟨g, off + 2, none⟩ = some (.slice A d.kids.length cap)) 7 2 (by kernel_rfl) rfl (by kernel_rfl) (by intro _ _ d _ _ h; cases d <;> exact h) ⟨y1, k2⟩ ?_
  simp only [List.take_succ_cons, List.take_zero, List.drop_succ_cons, List.drop_zero, List.cons_append, List.nil_append]
  repeat (refine wpHeld_step rfl ?_; apply Exists.intro; refine ⟨fun wq hq => ?_, ?_⟩; (obtain ⟨q1, q2⟩ := hq; go_simp; first | done | rfl); simp only [Act.put, List.setIfInBounds_toArray, List.set_cons_zero, List.set_cons_succ])
  change wpSeq _ _ _ _ _ _ _
  refine wpSeq_step rfl (fun K hK => ?_)
  go_simp
  go_at_call 47
  refine (HKI.out _).mono ?_
  rintro e wt ⟨rfl, hbt, hpb⟩
  have hbt' : Below W.heap.size W wt := (Below.refl _ W).drew.trans (hbt : Below W.heap.size W.drew wt)
  have dy := (hbt'.cell (p := ⟨w.heap.size + 1, 1, none⟩) (by simp; omega)).trans y1
  have dk := (hbt'.cell (p := ⟨g, off + 2, none⟩) (by simp; omega)).trans k2
  have dx := (hbt'.cell (p := ⟨w.heap.size, 0, none⟩) (by simp; omega)).trans x0
  refine hK _ _ ⟨dy, dk⟩ ?_
  clear hK K
  try simp only [Act.put, List.setIfInBounds_toArray, List.set_cons_zero, List.set_cons_succ]
  refine wpSeq_step rfl (fun K hK => ?_)
  go_simp
  refine (push_end HM.out (HR0.out.next hbt') flat dx hNx hrr HOX.out hpb (by show w.heap.size ≤ W.heap.size; omega) (kidAddrs_len _ _ _).symm HDS.out (kid_ok HSH.out HBK.out) (by have := wt_kids d; have := HWT.out; omega)).mono ?_
  rintro e w3 ⟨rfl, ⟨rs', l', hl', hr3⟩, hf1, hf2⟩
  have ey := (World.cell?_of_block (w := wt) (w' := w3) (a := ⟨w.heap.size + 1, 1, none⟩) (hf2 _ (by show w.heap.size ≤ w.heap.size + 1; omega) (by show w.heap.size + 1 < wt.heap.size; have := hbt'.size; omega))).trans dy
  have ek := (World.cell?_of_block (w := wt) (w' := w3) (a := ⟨g, off + 2, none⟩) (hf1 _ hgN)).trans dk
  have ex := (World.cell?_of_block (w := wt) (w' := w3) (a := ⟨w.heap.size, 0, none⟩) (hf2 _ (Nat.le_refl _) (by show w.heap.size < wt.heap.size; have := hbt'.size; omega))).trans dx
  have er := hr3.blk.cell 1
  simp only [List.getElem?_cons_zero, List.getElem?_cons_succ] at er
  have HR3 := Lib.hid hr3
  have HL3 := Lib.hid hl'
  refine hK _ _ ⟨ey, ek⟩ ?_
  clear hK K hr3 hl' hf1 hf2 hbt hbt' hpb dy dk dx ey ek y1 k2 k0 x0
  try simp only [Act.put, List.setIfInBounds_toArray, List.set_cons_zero, List.set_cons_succ]
  change Exit.inBlock _ _ Exit.normal _ _
  go_wp2_with fail
  go_quiet (fail)
  go_wp2_with fail
  go_ret2
  rw [HR.out]
  exact ⟨by show Ending.returned (.tuple #[.bool false, .bool (decide (left < 0))]) = _; rw [HDL.out], rs', l', HL3.out, HR3.out.next ⟨rfl, rfl, rfl, Nat.le_refl _, fun _ _ => rfl⟩⟩

set_option maxHeartbeats 16000000 in
theorem read_indentif {B0 b mb : Nat} {ov : OptV} {s : MS} {N rb : Nat} {left : Int} {put alone : Bool} {l : List Cm} {rs : Value} {w0 w : World} (hm : MAt B0 b mb ov s w0) (h : RAt B0 b mb s N rb left put alone l rs w0 w) (p : Option Addr) (flat : Bool) {d : Doc} {a : Addr} (hd : DocAt w0 B0 (s.F b mb w0) d a) (hsh : d.shape = true) (hbk : d.bulk ≤ 4194304) (hwt : (l.map fun c => c.d.wt).sum + d.wt ≤ 16777216) (hk : d.kind = 12) :
    Calls Tryd.prog 59 #[.pointer (some ⟨rb, 0, none⟩), .agg #[.pointer p, .bool flat, .pointer (some a)]] w fun e w' => ReadEnds B0 b mb s N rb alone l w0 (readS alone s.brk d flat left put) e w' := by
  have hrb := rb_new h p flat a
  have hlw := h.left0
  have hlw1 := h.left1
  have hr0 := hrb.r
  obtain ⟨g, off, kv, rfl, hFg, h6, hkv⟩ := hr0.doc hm hd
  obtain ⟨A, cap, hkvs⟩ := hkv.slice
  have k0 := h6.kind
  have k1 := h6.text
  have k2 := h6.kids
  have k3 := h6.brk
  have k4 := h6.id
  rw [hk] at k0
  rw [hkvs] at k2 hkv
  have x0 := hrb.x
  have y1 := hrb.p1
  have y2 := hrb.p2
  have r1 : _ = some (Value.int .i64 left) := hr0.blk.cell 1
  have r3 : _ = some (Value.bool put) := hr0.blk.cell 3
  have r4 : _ = some (Value.bool alone) := hr0.blk.cell 4
  have g1 := hr0.blk.frozen 1
  have g3 := hr0.blk.frozen 3
  have HRB := Lib.hid hrb
  have HR0 := Lib.hid hr0
  have HM := Lib.hid hm
  have HKV := Lib.hid hkv
  have HSH := Lib.hid hsh
  have HBK := Lib.hid hbk
  have HWT := Lib.hid hwt
  have HD := Lib.hid hd
  have HK := Lib.hid hk
  obtain ⟨hgN, hhk⟩ := kids_at hr0 hd k2
  have HHK := Lib.hid hhk
  clear h hm hd hsh hbk hwt hrb hr0 hkv h6 hFg hkvs hk hhk
  have HR : Hid (readS alone s.brk d flat left put = (.go left put, d.kids.map fun x => (flat, x))) := Lib.hid (by unfold readS; rw [HK.out]; rfl)
  obtain ⟨W, hW⟩ : ∃ W, W = (w.alloc (.cells #[.pointer (some ⟨rb, 0, none⟩)] 100)).alloc (.cells #[.pointer p, .bool flat, .pointer (some ⟨g, off, none⟩)] 69) := ⟨_, rfl⟩
  have HWW := Lib.hid hW
  rw [← hW] at HRB HR0
  clear hW
  have hrr := HRB.out.rx
  have hrl := HR0.out.blk.lt
  have hxl := HRB.out.lt
  have hNx := HRB.out.lx
  obtain ⟨hn, hnc, kg, koff, hA, hds⟩ := docs_kids HM.out HHK.out
  clear hn
  have hnl := kids_len_bulk HBK.out
  have HDS := Lib.hid hds
  have HKI := Lib.hid (fun (W : World) => kids_is A kg koff d.kids.length cap W hnl hnc hA)
  have HOX := Lib.hid HRB.out.ox
  have hlow2 : ∀ q, rs.ownBlock = some q → N ≤ q := fun q hq => (HR0.out.row.lt q hq).1
  have HLO := Lib.hid hlow2
  have HDL : Hid (decide (left < 0) = false) := Lib.hid (by simp; omega)
  clear k1 k3 k4 r1 r3 r4 hds hlow2 hA hnc
  go_enter Tryd.func59, Tryd.ntmps59
  go_upto_region 11 with fail
  rw [← HWW.out] at k0 k2 x0 y1 ⊢
  refine wp_region_seq (fun w' => w'.cell? ⟨w.heap.size + 1, 1, none⟩ = some (.bool flat) ∧ w'.cell? ⟨g, off + 2, none⟩ = some (.slice A d.kids.length cap)) 7 2 (by kernel_rfl) rfl (by kernel_rfl) (by intro _ _ d _ _ h; cases d <;> exact h) ⟨y1, k2⟩ ?_
  simp only [List.take_succ_cons, List.take_zero, List.drop_succ_cons, List.drop_zero, List.cons_append, List.nil_append]
  repeat (refine wpHeld_step rfl ?_; apply Exists.intro; refine ⟨fun wq hq => ?_, ?_⟩; (obtain ⟨q1, q2⟩ := hq; go_simp; first | done | rfl); simp only [Act.put, List.setIfInBounds_toArray, List.set_cons_zero, List.set_cons_succ])
  change wpSeq _ _ _ _ _ _ _
  refine wpSeq_step rfl (fun K hK => ?_)
  go_simp
  go_at_call 47
  refine (HKI.out _).mono ?_
  rintro e wt ⟨rfl, hbt, hpb⟩
  have hbt' : Below W.heap.size W wt := (Below.refl _ W).drew.trans (hbt : Below W.heap.size W.drew wt)
  have dy := (hbt'.cell (p := ⟨w.heap.size + 1, 1, none⟩) (by simp; omega)).trans y1
  have dk := (hbt'.cell (p := ⟨g, off + 2, none⟩) (by simp; omega)).trans k2
  have dx := (hbt'.cell (p := ⟨w.heap.size, 0, none⟩) (by simp; omega)).trans x0
  refine hK _ _ ⟨dy, dk⟩ ?_
  clear hK K
  try simp only [Act.put, List.setIfInBounds_toArray, List.set_cons_zero, List.set_cons_succ]
  refine wpSeq_step rfl (fun K hK => ?_)
  go_simp
  refine (push_end HM.out (HR0.out.next hbt') flat dx hNx hrr HOX.out hpb (by show w.heap.size ≤ W.heap.size; omega) (kidAddrs_len _ _ _).symm HDS.out (kid_ok HSH.out HBK.out) (by have := wt_kids d; have := HWT.out; omega)).mono ?_
  rintro e w3 ⟨rfl, ⟨rs', l', hl', hr3⟩, hf1, hf2⟩
  have ey := (World.cell?_of_block (w := wt) (w' := w3) (a := ⟨w.heap.size + 1, 1, none⟩) (hf2 _ (by show w.heap.size ≤ w.heap.size + 1; omega) (by show w.heap.size + 1 < wt.heap.size; have := hbt'.size; omega))).trans dy
  have ek := (World.cell?_of_block (w := wt) (w' := w3) (a := ⟨g, off + 2, none⟩) (hf1 _ hgN)).trans dk
  have ex := (World.cell?_of_block (w := wt) (w' := w3) (a := ⟨w.heap.size, 0, none⟩) (hf2 _ (Nat.le_refl _) (by show w.heap.size < wt.heap.size; have := hbt'.size; omega))).trans dx
  have er := hr3.blk.cell 1
  simp only [List.getElem?_cons_zero, List.getElem?_cons_succ] at er
  have HR3 := Lib.hid hr3
  have HL3 := Lib.hid hl'
  refine hK _ _ ⟨ey, ek⟩ ?_
  clear hK K hr3 hl' hf1 hf2 hbt hbt' hpb dy dk dx ey ek y1 k2 k0 x0
  try simp only [Act.put, List.setIfInBounds_toArray, List.set_cons_zero, List.set_cons_succ]
  change Exit.inBlock _ _ Exit.normal _ _
  go_wp2_with fail
  go_quiet (fail)
  go_wp2_with fail
  go_ret2
  rw [HR.out]
  exact ⟨by show Ending.returned (.tuple #[.bool false, .bool (decide (left < 0))]) = _; rw [HDL.out], rs', l', HL3.out, HR3.out.next ⟨rfl, rfl, rfl, Nat.le_refl _, fun _ _ => rfl⟩⟩
end Go.Proofs.YthljgiimdcbfpaaDoor
