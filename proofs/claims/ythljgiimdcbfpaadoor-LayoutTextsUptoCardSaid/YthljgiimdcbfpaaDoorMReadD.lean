/- Package layout: read, the kinds that choose (printed by gen_read.py). -/
import Derived.Test.YthljgiimdcbfpaaDoorMReadC
import Derived.Test.YthljgiimdcbfpaaDoorMReadA
import Derived.Test.YthljgiimdcbfpaaDoorMReadB
namespace Go.Proofs.YthljgiimdcbfpaaDoor
section
open Go.RowKit
set_option maxRecDepth 100000
set_option linter.unusedVariables false
set_option linter.unusedSimpArgs false

set_option maxHeartbeats 16000000 in
theorem read_cond {B0 b mb : Nat} {ov : OptV} {s : MS} {N rb : Nat} {left : Int} {put alone : Bool} {l : List Cm} {rs : Value} {w0 w : World} (hm : MAt B0 b mb ov s w0) (h : RAt B0 b mb s N rb left put alone l rs w0 w) (p : Option Addr) (flat : Bool) {d : Doc} {a : Addr} (hd : DocAt w0 B0 (s.F b mb w0) d a) (hsh : d.shape = true) (hbk : d.bulk ≤ 4194304) (hwt : (l.map fun c => c.d.wt).sum + d.wt ≤ 16777216) (hk : d.kind = 8) :
    Calls Tryd.prog 59 #[.pointer (some ⟨rb, 0, none⟩), .agg #[.pointer p, .bool flat, .pointer (some a)]] w fun e w' => ReadEnds B0 b mb s N rb alone l w0 (readS alone s.brk d flat left put) e w' := by
  have hrb := rb_new h p flat a
  have hlw := h.left0
  have hlw1 := h.left1
  have hr0 := hrb.r
  obtain ⟨g, off, kv, rfl, hFg, h6, hkv⟩ := hr0.doc hm hd
  obtain ⟨A, cap, hkvs⟩ := hkv.slice
  have k0 := h6.kind
  have k1 := h6.text
  have k2 := h6.kids
  have k3 := h6.brk
  have k4 := h6.id
  rw [hk] at k0
  rw [hkvs] at k2 hkv
  have x0 := hrb.x
  have y1 := hrb.p1
  have y2 := hrb.p2
  have r1 : _ = some (Value.int .i64 left) := hr0.blk.cell 1
  have r3 : _ = some (Value.bool put) := hr0.blk.cell 3
  have r4 : _ = some (Value.bool alone) := hr0.blk.cell 4
  have g1 := hr0.blk.frozen 1
  have g3 := hr0.blk.frozen 3
  have HRB := Lib.hid hrb
  have HR0 := Lib.hid hr0
  have HM := Lib.hid hm
  have HKV := Lib.hid hkv
  have HSH := Lib.hid hsh
  have HBK := Lib.hid hbk
  have HWT := Lib.hid hwt
  have HD := Lib.hid hd
  have HK := Lib.hid hk
  obtain ⟨hgN, hhk⟩ := kids_at hr0 hd k2
  have HHK := Lib.hid hhk
  clear h hm hd hsh hbk hwt hrb hr0 hkv h6 hFg hkvs hk hhk
  obtain ⟨W, hW⟩ : ∃ W, W = (w.alloc (.cells #[.pointer (some ⟨rb, 0, none⟩)] 100)).alloc (.cells #[.pointer p, .bool flat, .pointer (some ⟨g, off, none⟩)] 69) := ⟨_, rfl⟩
  have HWW := Lib.hid hW
  rw [← hW] at HRB HR0
  clear hW
  have hn1 := kids_8 HSH.out HK.out
  have hrr := HRB.out.rx
  have hrl := HR0.out.blk.lt
  have hxl := HRB.out.lt
  have hNx := HRB.out.lx
  obtain ⟨hn, hnc, kg, koff, hA, hds⟩ := docs_kids HM.out HHK.out
  clear hn
  have hnl := kids_len_bulk HBK.out
  obtain rfl := hA (by omega)
  have HDS := Lib.hid hds
  have HOX := Lib.hid HRB.out.ox
  have HDL : Hid (decide (left < 0) = false) := Lib.hid (by simp; omega)
  clear k1 k4 r1 r3 hds hA
  obtain ⟨n, hn⟩ : ∃ n, d.kids.length = n + 1 := ⟨d.kids.length - 1, by omega⟩
  rw [hn] at k2 hnc hnl
  cases hb : d.brk
  · rw [hb] at k3
    have HBR := Lib.hid hb
    clear hb
    have HR : Hid (readS alone s.brk d flat left put = (.go left put, [d.kids[0]'(by omega)].map fun x => (flat, x))) := Lib.hid (by unfold readS; rw [HK.out, HBR.out, kid0_nth (by omega)]; rfl)
    go_enter Tryd.func59, Tryd.ntmps59
    go_upto_region 17 with fail
    rw [← HWW.out] at k0 k2 k3 x0 y1 ⊢
    refine wp_region_seq (fun w' => w'.cell? ⟨w.heap.size + 1, 1, none⟩ = some (.bool flat) ∧ w'.cell? ⟨g, off + 2, none⟩ = some (.slice (some ⟨kg, koff, none⟩) (n + 1) cap) ∧ w'.cell? ⟨g, off + 3, none⟩ = some (.bool false)) 8 2 (by kernel_rfl) rfl (by kernel_rfl) (by intro _ _ d _ _ h; cases d <;> exact h) ⟨y1, k2, k3⟩ ?_
    simp only [List.take_succ_cons, List.take_zero, List.drop_succ_cons, List.drop_zero, List.cons_append, List.nil_append]
    repeat (first
      | (refine wpHeld_step rfl ?_; apply Exists.intro; refine ⟨fun wq hq => ?_, ?_⟩; (obtain ⟨q1, q2, q3⟩ := hq; go_simp; first | done | rfl); simp only [Act.put, List.setIfInBounds_toArray, List.set_cons_zero, List.set_cons_succ])
      | (refine held_want (by rfl) ?_; apply Exists.intro; refine ⟨fun wq hq => ?_, ?_⟩; (obtain ⟨q1, q2, q3⟩ := hq; go_simp; first | done | rfl); simp only [Act.put, List.setIfInBounds_toArray, List.set_cons_zero, List.set_cons_succ])
      | (refine held_out (by rfl) ?_; simp only [Act.put, List.setIfInBounds_toArray, List.set_cons_zero, List.set_cons_succ]))
    change wpSeq _ _ _ _ _ _ _
    have hjk : 0 < d.kids.length := by omega
    refine wpSeq_step rfl (fun K hK => ?_)
    go_simp
    have hbt : Below W.heap.size W (W.alloc (.cells #[.pointer (some ⟨kg, koff, none⟩)] 66)).drew := ((Below.refl _ W).alloc (Nat.le_refl _) _).drew
    have hpb : Blk (W.alloc (.cells #[.pointer (some ⟨kg, koff, none⟩)] 66)).drew W.heap.size (ptrs [⟨kg, koff, none⟩]) 66 := Blk.new' (W := W) _ _ rfl
    have HBT := Lib.hid hbt
    have HPB := Lib.hid hpb
    obtain ⟨wt, hwt⟩ : ∃ wt, wt = (W.alloc (.cells #[.pointer (some ⟨kg, koff, none⟩)] 66)).drew := ⟨_, rfl⟩
    rw [← hwt] at HBT HPB ⊢
    clear hbt hpb hwt
    have hbt' := HBT.out
    have hpb := HPB.out
    have dy := (hbt'.cell (p := ⟨w.heap.size + 1, 1, none⟩) (by simp; omega)).trans y1
    have dk := (hbt'.cell (p := ⟨g, off + 2, none⟩) (by simp; omega)).trans k2
    have dq := (hbt'.cell (p := ⟨g, off + 3, none⟩) (by simp; omega)).trans k3
    have dx := (hbt'.cell (p := ⟨w.heap.size, 0, none⟩) (by simp; omega)).trans x0
    refine hK _ _ ⟨dy, dk, dq⟩ ?_
    clear hK K
    try simp only [Act.put, List.setIfInBounds_toArray, List.set_cons_zero, List.set_cons_succ]
    refine wpSeq_step rfl (fun K hK => ?_)
    go_simp
    refine (push_end HM.out (HR0.out.next hbt') flat dx hNx hrr HOX.out hpb (by show w.heap.size ≤ W.heap.size; omega) rfl (by have := docs_nth HDS.out 0 hjk; simpa using this) (ok_nth HSH.out HBK.out 0 hjk) (by have := wt_nth d 0 hjk; have := HWT.out; omega)).mono ?_
    rintro e w3 ⟨rfl, ⟨rs', l', hl', hr3⟩, hf1, hf2⟩
    have ey := (World.cell?_of_block (w := wt) (w' := w3) (a := ⟨w.heap.size + 1, 1, none⟩) (hf2 _ (by show w.heap.size ≤ w.heap.size + 1; omega) (by show w.heap.size + 1 < wt.heap.size; have := hbt'.size; omega))).trans dy
    have ek := (World.cell?_of_block (w := wt) (w' := w3) (a := ⟨g, off + 2, none⟩) (hf1 _ hgN)).trans dk
    have eq := (World.cell?_of_block (w := wt) (w' := w3) (a := ⟨g, off + 3, none⟩) (hf1 _ hgN)).trans dq
    have ex := (World.cell?_of_block (w := wt) (w' := w3) (a := ⟨w.heap.size, 0, none⟩) (hf2 _ (Nat.le_refl _) (by show w.heap.size < wt.heap.size; have := hbt'.size; omega))).trans dx
    have er := hr3.blk.cell 1
    simp only [List.getElem?_cons_zero, List.getElem?_cons_succ] at er
    have HR3 := Lib.hid hr3
    have HL3 := Lib.hid hl'
    refine hK _ _ ⟨ey, ek, eq⟩ ?_
    clear hK K hr3 hl' hf1 hf2 HBT hbt' hpb dy dk dq dx ey ek eq y1 k2 k3 k0 x0
    try simp only [Act.put, List.setIfInBounds_toArray, List.set_cons_zero, List.set_cons_succ]
    change Exit.inBlock _ _ Exit.normal _ _
    go_wp2_with fail
    go_quiet (fail)
    go_wp2_with fail
    go_ret2
    rw [HR.out]
    exact ⟨by show Ending.returned (.tuple #[.bool false, .bool (decide (left < 0))]) = _; rw [HDL.out], rs', l', HL3.out, HR3.out.next ⟨rfl, rfl, rfl, Nat.le_refl _, fun _ _ => rfl⟩⟩
  · rw [hb] at k3
    have HBR := Lib.hid hb
    have hwn : IntKind.i64.wrap (n : Int) = n := by rw [IntKind.wrap_i64]; omega
    have hlt1 : (n : Int) < (n : Int) + 1 := by omega
    clear hb
    cases alone
    · have HR : Hid (readS false s.brk d flat left put = (.go left put, [d.kids[n]'(by omega)].map fun x => (false, x))) := Lib.hid (by unfold readS; rw [HK.out, HBR.out, lastD_nth (by omega)]; simp [hn])
      go_enter Tryd.func59, Tryd.ntmps59
      go_upto_region 21 with fail
      rw [← HWW.out] at k0 k2 k3 x0 y1 ⊢
      refine wp_region_seq (fun w' => w'.cell? ⟨w.heap.size + 1, 1, none⟩ = some (.bool flat) ∧ w'.cell? ⟨g, off + 2, none⟩ = some (.slice (some ⟨kg, koff, none⟩) (n + 1) cap) ∧ w'.cell? ⟨g, off + 3, none⟩ = some (.bool true)) 12 2 (by kernel_rfl) rfl (by kernel_rfl) (by intro _ _ d _ _ h; cases d <;> exact h) ⟨y1, k2, k3⟩ ?_
      simp only [List.take_succ_cons, List.take_zero, List.drop_succ_cons, List.drop_zero, List.cons_append, List.nil_append]
      repeat (first
        | (refine wpHeld_step rfl ?_; apply Exists.intro; refine ⟨fun wq hq => ?_, ?_⟩; (obtain ⟨q1, q2, q3⟩ := hq; go_simp; first | done | rfl); simp only [Act.put, List.setIfInBounds_toArray, List.set_cons_zero, List.set_cons_succ])
        | (refine held_want (by rfl) ?_; apply Exists.intro; refine ⟨fun wq hq => ?_, ?_⟩; (obtain ⟨q1, q2, q3⟩ := hq; go_simp; first | done | rfl); simp only [Act.put, List.setIfInBounds_toArray, List.set_cons_zero, List.set_cons_succ])
        | (refine held_out (by rfl) ?_; simp only [Act.put, List.setIfInBounds_toArray, List.set_cons_zero, List.set_cons_succ]))
      change wpSeq _ _ _ _ _ _ _
      have hjk : n < d.kids.length := by omega
      refine wpSeq_step rfl (fun K hK => ?_)
      go_simp
      have hbt : Below W.heap.size W (W.alloc (.cells #[.pointer (some ⟨kg, koff + n * 6, none⟩)] 66)).drew := ((Below.refl _ W).alloc (Nat.le_refl _) _).drew
      have hpb : Blk (W.alloc (.cells #[.pointer (some ⟨kg, koff + n * 6, none⟩)] 66)).drew W.heap.size (ptrs [⟨kg, koff + n * 6, none⟩]) 66 := Blk.new' (W := W) _ _ rfl
      have HBT := Lib.hid hbt
      have HPB := Lib.hid hpb
      obtain ⟨wt, hwt⟩ : ∃ wt, wt = (W.alloc (.cells #[.pointer (some ⟨kg, koff + n * 6, none⟩)] 66)).drew := ⟨_, rfl⟩
      rw [← hwt] at HBT HPB ⊢
      clear hbt hpb hwt
      have hbt' := HBT.out
      have hpb := HPB.out
      have dy := (hbt'.cell (p := ⟨w.heap.size + 1, 1, none⟩) (by simp; omega)).trans y1
      have dk := (hbt'.cell (p := ⟨g, off + 2, none⟩) (by simp; omega)).trans k2
      have dq := (hbt'.cell (p := ⟨g, off + 3, none⟩) (by simp; omega)).trans k3
      have dx := (hbt'.cell (p := ⟨w.heap.size, 0, none⟩) (by simp; omega)).trans x0
      refine hK _ _ ⟨dy, dk, dq⟩ ?_
      clear hK K
      try simp only [Act.put, List.setIfInBounds_toArray, List.set_cons_zero, List.set_cons_succ]
      refine wpSeq_step rfl (fun K hK => ?_)
      go_simp
      refine (push_end HM.out (HR0.out.next hbt') false dx hNx hrr HOX.out hpb (by show w.heap.size ≤ W.heap.size; omega) rfl (docs_nth HDS.out n hjk) (ok_nth HSH.out HBK.out n hjk) (by have := wt_nth d n hjk; have := HWT.out; omega)).mono ?_
      rintro e w3 ⟨rfl, ⟨rs', l', hl', hr3⟩, hf1, hf2⟩
      have ey := (World.cell?_of_block (w := wt) (w' := w3) (a := ⟨w.heap.size + 1, 1, none⟩) (hf2 _ (by show w.heap.size ≤ w.heap.size + 1; omega) (by show w.heap.size + 1 < wt.heap.size; have := hbt'.size; omega))).trans dy
      have ek := (World.cell?_of_block (w := wt) (w' := w3) (a := ⟨g, off + 2, none⟩) (hf1 _ hgN)).trans dk
      have eq := (World.cell?_of_block (w := wt) (w' := w3) (a := ⟨g, off + 3, none⟩) (hf1 _ hgN)).trans dq
      have ex := (World.cell?_of_block (w := wt) (w' := w3) (a := ⟨w.heap.size, 0, none⟩) (hf2 _ (Nat.le_refl _) (by show w.heap.size < wt.heap.size; have := hbt'.size; omega))).trans dx
      have er := hr3.blk.cell 1
      simp only [List.getElem?_cons_zero, List.getElem?_cons_succ] at er
      have HR3 := Lib.hid hr3
      have HL3 := Lib.hid hl'
      refine hK _ _ ⟨ey, ek, eq⟩ ?_
      clear hK K hr3 hl' hf1 hf2 HBT hbt' hpb dy dk dq dx ey ek eq y1 k2 k3 k0 x0
      try simp only [Act.put, List.setIfInBounds_toArray, List.set_cons_zero, List.set_cons_succ]
      change Exit.inBlock _ _ Exit.normal _ _
      go_wp2_with fail
      go_quiet (fail)
      go_wp2_with fail
      go_ret2
      rw [HR.out]
      exact ⟨by show Ending.returned (.tuple #[.bool false, .bool (decide (left < 0))]) = _; rw [HDL.out], rs', l', HL3.out, HR3.out.next ⟨rfl, rfl, rfl, Nat.le_refl _, fun _ _ => rfl⟩⟩
    · have HX := True.intro
      have HR : Hid (readS true s.brk d flat left put = (.done false, [])) := Lib.hid (by unfold readS; rw [HK.out, HBR.out]; rfl)
      go_enter Tryd.func59, Tryd.ntmps59
      go_wp2_with fail
      go_ret2
      rw [HR.out]
      exact ⟨rfl, by rw [HWW.out] at HR0; exact HR0.out.below⟩

set_option maxHeartbeats 16000000 in
theorem read_ifbreak {B0 b mb : Nat} {ov : OptV} {s : MS} {N rb : Nat} {left : Int} {put alone : Bool} {l : List Cm} {rs : Value} {w0 w : World} (hm : MAt B0 b mb ov s w0) (h : RAt B0 b mb s N rb left put alone l rs w0 w) (p : Option Addr) (flat : Bool) {d : Doc} {a : Addr} (hd : DocAt w0 B0 (s.F b mb w0) d a) (hsh : d.shape = true) (hbk : d.bulk ≤ 4194304) (hwt : (l.map fun c => c.d.wt).sum + d.wt ≤ 16777216) (hk : d.kind = 10) :
    Calls Tryd.prog 59 #[.pointer (some ⟨rb, 0, none⟩), .agg #[.pointer p, .bool flat, .pointer (some a)]] w fun e w' => ReadEnds B0 b mb s N rb alone l w0 (readS alone s.brk d flat left put) e w' := by
  have hrb := rb_new h p flat a
  have hlw := h.left0
  have hlw1 := h.left1
  have hr0 := hrb.r
  obtain ⟨g, off, kv, rfl, hFg, h6, hkv⟩ := hr0.doc hm hd
  obtain ⟨A, cap, hkvs⟩ := hkv.slice
  have k0 := h6.kind
  have k1 := h6.text
  have k2 := h6.kids
  have k3 := h6.brk
  have k4 := h6.id
  rw [hk] at k0
  rw [hkvs] at k2 hkv
  have x0 := hrb.x
  have y1 := hrb.p1
  have y2 := hrb.p2
  have r1 : _ = some (Value.int .i64 left) := hr0.blk.cell 1
  have r3 : _ = some (Value.bool put) := hr0.blk.cell 3
  have r4 : _ = some (Value.bool alone) := hr0.blk.cell 4
  have g1 := hr0.blk.frozen 1
  have g3 := hr0.blk.frozen 3
  have HRB := Lib.hid hrb
  have HR0 := Lib.hid hr0
  have HM := Lib.hid hm
  have HKV := Lib.hid hkv
  have HSH := Lib.hid hsh
  have HBK := Lib.hid hbk
  have HWT := Lib.hid hwt
  have HD := Lib.hid hd
  have HK := Lib.hid hk
  obtain ⟨hgN, hhk⟩ := kids_at hr0 hd k2
  have HHK := Lib.hid hhk
  clear h hm hd hsh hbk hwt hrb hr0 hkv h6 hFg hkvs hk hhk
  obtain ⟨W, hW⟩ : ∃ W, W = (w.alloc (.cells #[.pointer (some ⟨rb, 0, none⟩)] 100)).alloc (.cells #[.pointer p, .bool flat, .pointer (some ⟨g, off, none⟩)] 69) := ⟨_, rfl⟩
  have HWW := Lib.hid hW
  rw [← hW] at HRB HR0
  clear hW
  have hn1 := kids_10 HSH.out HK.out
  have hrr := HRB.out.rx
  have hrl := HR0.out.blk.lt
  have hxl := HRB.out.lt
  have hNx := HRB.out.lx
  obtain ⟨hn, hnc, kg, koff, hA, hds⟩ := docs_kids HM.out HHK.out
  clear hn
  have hnl := kids_len_bulk HBK.out
  obtain rfl := hA (by omega)
  have HDS := Lib.hid hds
  have HOX := Lib.hid HRB.out.ox
  have HDL : Hid (decide (left < 0) = false) := Lib.hid (by simp; omega)
  rw [hn1] at k2 hnc
  have r0 : _ = some (Value.pointer (some ⟨b, 0, none⟩)) := HR0.out.blk.cell 0
  have HMD := Lib.hid (fun (W' : World) (hb : Below W.heap.size W W') => mode_is ((HR0.out.next hb).mat HM.out) d.id flat)
  generalize hmy : modeB s.brk d.id flat = y at *
  have HMY := Lib.hid hmy
  clear k1 k3 r1 r3 hds hA hnc hmy
  go_enter Tryd.func59, Tryd.ntmps59
  go_upto_region 24 with fail
  rw [← HWW.out] at k0 k2 k4 x0 y1 ⊢
  refine wp_region_seq (fun w' => w'.cell? ⟨w.heap.size, 0, none⟩ = some (.pointer (some ⟨rb, 0, none⟩)) ∧ w'.cell? ⟨rb, 0, none⟩ = some (.pointer (some ⟨b, 0, none⟩)) ∧ w'.cell? ⟨g, off + 4, none⟩ = some (.int .i64 d.id) ∧ w'.cell? ⟨w.heap.size + 1, 1, none⟩ = some (.bool flat)) 10 1 (by kernel_rfl) rfl (by kernel_rfl) (by intro _ _ d _ _ h; cases d <;> exact h) ⟨x0, r0, k4, y1⟩ ?_
  simp only [List.take_succ_cons, List.take_zero, List.drop_succ_cons, List.drop_zero, List.cons_append, List.nil_append]
  repeat (first
    | (refine wpHeld_step rfl ?_; apply Exists.intro; refine ⟨fun wq hq => ?_, ?_⟩; (obtain ⟨q1, q2, q3, q4⟩ := hq; go_simp; first | done | rfl); simp only [Act.put, List.setIfInBounds_toArray, List.set_cons_zero, List.set_cons_succ])
    | (refine held_want (by rfl) ?_; apply Exists.intro; refine ⟨fun wq hq => ?_, ?_⟩; (obtain ⟨q1, q2, q3, q4⟩ := hq; go_simp; first | done | rfl); simp only [Act.put, List.setIfInBounds_toArray, List.set_cons_zero, List.set_cons_succ])
    | (refine held_out (by rfl) ?_; simp only [Act.put, List.setIfInBounds_toArray, List.set_cons_zero, List.set_cons_succ]))
  change wpSeq _ _ _ _ _ _ _
  refine wpSeq_step rfl (fun K hK => ?_)
  go_simp
  refine (HMD.out _ (Below.refl _ W).drew).mono ?_
  rintro e wt ⟨rfl, rfl⟩
  refine hK _ _ ⟨x0, r0, k4, y1⟩ ?_
  clear hK K
  try simp only [Act.put, List.setIfInBounds_toArray, List.set_cons_zero, List.set_cons_succ]
  change Exit.then _ _ Exit.normal _ _
  cases y
  · have HR : Hid (readS alone s.brk d flat left put = (.go left put, [d.kids[0]'(by omega)].map fun x => (flat, x))) := Lib.hid (by unfold readS; rw [HK.out, HMY.out, kid0_nth (by omega)]; rfl)
    have hjk : 0 < d.kids.length := by omega
    go_wp2_with fail
    have hbt : Below W.heap.size W (W.alloc (.cells #[.pointer (some ⟨kg, koff, none⟩)] 66)).drew := ((Below.refl _ W).alloc (Nat.le_refl _) _).drew
    have hpb : Blk (W.alloc (.cells #[.pointer (some ⟨kg, koff, none⟩)] 66)).drew W.heap.size (ptrs [⟨kg, koff, none⟩]) 66 := Blk.new' (W := W) _ _ rfl
    have HBT := Lib.hid hbt
    have HPB := Lib.hid hpb
    obtain ⟨wt, hwt⟩ : ∃ wt, wt = (W.alloc (.cells #[.pointer (some ⟨kg, koff, none⟩)] 66)).drew := ⟨_, rfl⟩
    rw [← hwt] at HBT HPB ⊢
    clear hbt hpb hwt
    have hbt' := HBT.out
    have hpb := HPB.out
    have dx := (hbt'.cell (p := ⟨w.heap.size, 0, none⟩) (by simp; omega)).trans x0
    refine (push_end HM.out (HR0.out.next hbt') flat dx hNx hrr HOX.out hpb (by show w.heap.size ≤ W.heap.size; omega) rfl (by have := docs_nth HDS.out 0 hjk; simpa using this) (ok_nth HSH.out HBK.out 0 hjk) (by have := wt_nth d 0 hjk; have := HWT.out; omega)).mono ?_
    rintro e w3 ⟨rfl, ⟨rs', l', hl', hr3⟩, hf1, hf2⟩
    have ex := (World.cell?_of_block (w := wt) (w' := w3) (a := ⟨w.heap.size, 0, none⟩) (hf2 _ (Nat.le_refl _) (by show w.heap.size < wt.heap.size; have := hbt'.size; omega))).trans dx
    have er := hr3.blk.cell 1
    simp only [List.getElem?_cons_zero, List.getElem?_cons_succ] at er
    have HR3 := Lib.hid hr3
    have HL3 := Lib.hid hl'
    clear hr3 hl' hf1 hf2 HBT hbt' hpb dx y1 k2 k4 k0 x0 r0
    go_wp2_with fail
    go_quiet (fail)
    go_wp2_with fail
    go_ret2
    rw [HR.out]
    exact ⟨by show Ending.returned (.tuple #[.bool false, .bool (decide (left < 0))]) = _; rw [HDL.out], rs', l', HL3.out, HR3.out.next ⟨rfl, rfl, rfl, Nat.le_refl _, fun _ _ => rfl⟩⟩
  · have HR : Hid (readS alone s.brk d flat left put = (.go left put, [d.kids[1]'(by omega)].map fun x => (flat, x))) := Lib.hid (by unfold readS; rw [HK.out, HMY.out, kid1_nth (by omega)]; rfl)
    have hjk : 1 < d.kids.length := by omega
    go_wp2_with fail
    have hbt : Below W.heap.size W (W.alloc (.cells #[.pointer (some ⟨kg, koff + 6, none⟩)] 66)).drew := ((Below.refl _ W).alloc (Nat.le_refl _) _).drew
    have hpb : Blk (W.alloc (.cells #[.pointer (some ⟨kg, koff + 6, none⟩)] 66)).drew W.heap.size (ptrs [⟨kg, koff + 6, none⟩]) 66 := Blk.new' (W := W) _ _ rfl
    have HBT := Lib.hid hbt
    have HPB := Lib.hid hpb
    obtain ⟨wt, hwt⟩ : ∃ wt, wt = (W.alloc (.cells #[.pointer (some ⟨kg, koff + 6, none⟩)] 66)).drew := ⟨_, rfl⟩
    rw [← hwt] at HBT HPB ⊢
    clear hbt hpb hwt
    have hbt' := HBT.out
    have hpb := HPB.out
    have dx := (hbt'.cell (p := ⟨w.heap.size, 0, none⟩) (by simp; omega)).trans x0
    refine (push_end HM.out (HR0.out.next hbt') flat dx hNx hrr HOX.out hpb (by show w.heap.size ≤ W.heap.size; omega) rfl (by have := docs_nth HDS.out 1 hjk; simpa using this) (ok_nth HSH.out HBK.out 1 hjk) (by have := wt_nth d 1 hjk; have := HWT.out; omega)).mono ?_
    rintro e w3 ⟨rfl, ⟨rs', l', hl', hr3⟩, hf1, hf2⟩
    have ex := (World.cell?_of_block (w := wt) (w' := w3) (a := ⟨w.heap.size, 0, none⟩) (hf2 _ (Nat.le_refl _) (by show w.heap.size < wt.heap.size; have := hbt'.size; omega))).trans dx
    have er := hr3.blk.cell 1
    simp only [List.getElem?_cons_zero, List.getElem?_cons_succ] at er
    have HR3 := Lib.hid hr3
    have HL3 := Lib.hid hl'
    clear hr3 hl' hf1 hf2 HBT hbt' hpb dx y1 k2 k4 k0 x0 r0
    go_wp2_with fail
    go_quiet (fail)
    go_wp2_with fail
    go_ret2
    rw [HR.out]
    exact ⟨by show Ending.returned (.tuple #[.bool false, .bool (decide (left < 0))]) = _; rw [HDL.out], rs', l', HL3.out, HR3.out.next ⟨rfl, rfl, rfl, Nat.le_refl _, fun _ _ => rfl⟩⟩
end

section
open Go.RowKit
set_option maxRecDepth 100000
set_option linter.unusedVariables false
set_option linter.unusedSimpArgs false
theorem kind_16 {d : Doc} (h : d.shape = true) : 1 ≤ d.kind ∧ d.kind ≤ 16 := by
  rw [Doc.shape_eq, Bool.and_eq_true] at h
  have h1 := h.1
  unfold Doc.formed at h1
  by_cases hk : 1 ≤ d.kind ∧ d.kind ≤ 16
  · exact hk
  · rw [formedF_other _ hk] at h1
    cases h1
theorem read_is {B0 b mb : Nat} {ov : OptV} {s : MS} {N rb : Nat} {left : Int} {put alone : Bool} {l : List Cm} {rs : Value} {w0 w : World} (hm : MAt B0 b mb ov s w0) (h : RAt B0 b mb s N rb left put alone l rs w0 w) (p : Option Addr) (flat : Bool) {d : Doc} {a : Addr} (hd : DocAt w0 B0 (s.F b mb w0) d a) (hsh : d.shape = true) (hbk : d.bulk ≤ 4194304) (hwt : (l.map fun c => c.d.wt).sum + d.wt ≤ 16777216) :
    Calls Tryd.prog 59 #[.pointer (some ⟨rb, 0, none⟩), .agg #[.pointer p, .bool flat, .pointer (some a)]] w fun e w' => ReadEnds B0 b mb s N rb alone l w0 (readS alone s.brk d flat left put) e w' := by
  obtain ⟨k1, k2⟩ := kind_16 hsh
  have hk : d.kind = 1 ∨ d.kind = 2 ∨ d.kind = 3 ∨ d.kind = 4 ∨ d.kind = 5 ∨ d.kind = 6 ∨ d.kind = 7 ∨ d.kind = 8 ∨ d.kind = 9 ∨ d.kind = 10 ∨ d.kind = 11 ∨ d.kind = 12 ∨ d.kind = 13 ∨ d.kind = 14 ∨ d.kind = 15 ∨ d.kind = 16 := by omega
  rcases hk with hk | hk | hk | hk | hk | hk | hk | hk | hk | hk | hk | hk | hk | hk | hk | hk
  · exact read_text hm h p flat hd hsh hbk hwt hk
  · exact read_concat hm h p flat hd hsh hbk hwt hk
  · exact read_line hm h p flat hd hsh hbk hwt hk
  · exact read_soft hm h p flat hd hsh hbk hwt hk
  · exact read_hard hm h p flat hd hsh hbk hwt hk
  · exact read_literal hm h p flat hd hsh hbk hwt hk
  · exact read_group hm h p flat hd hsh hbk hwt hk
  · exact read_cond hm h p flat hd hsh hbk hwt hk
  · exact read_fill hm h p flat hd hsh hbk hwt hk
  · exact read_ifbreak hm h p flat hd hsh hbk hwt hk
  · exact read_indent hm h p flat hd hsh hbk hwt hk
  · exact read_indentif hm h p flat hd hsh hbk hwt hk
  · exact read_align hm h p flat hd hsh hbk hwt hk
  · exact read_suffix hm h p flat hd hsh hbk hwt hk
  · exact read_boundary hm h p flat hd hsh hbk hwt hk
  · exact read_break hm h p flat hd hsh hbk hwt hk
end

section
open Go.RowKit
set_option maxRecDepth 100000
set_option linter.unusedVariables false
set_option linter.unusedSimpArgs false
theorem wtL_sub {a b : List Doc} (h : a.Sublist b) : wtL a ≤ wtL b := by
  induction h with
  | slnil => simp
  | cons x h ih => rw [wtL_cons]; omega
  | cons_cons x h ih => rw [wtL_cons, wtL_cons]; omega
theorem wt_kids1 (d : Doc) : wtL d.kids + 1 ≤ d.wt := by
  have h : ∀ ks : List Doc, wtL ks ≤ 2 * nodesL ks := by
    intro ks
    induction ks with
    | nil => simp [wtL]
    | cons a l ih =>
      rw [wtL_cons]
      simp only [nodesL]
      unfold Doc.wt
      omega
  have := h d.kids
  unfold Doc.wt
  rw [Doc.nodes_eq]
  omega
theorem lastD_sub (ks : List Doc) : (lastD ks).Sublist ks := by
  cases ks with
  | nil => exact List.nil_sublist _
  | cons a l =>
    rw [lastD_nth (by simp)]
    exact List.singleton_sublist.2 (List.getElem_mem _)
def Pushes (d : Doc) (R : Scan × List (Bool × Doc)) : Prop := ∃ (fl : Bool) (ks : List Doc), R.2 = ks.map (fun x => (fl, x)) ∧ ks.Sublist d.kids
theorem readS_kids (alone : Bool) (brk : Int → Bool) (d : Doc) (flat : Bool) (left : Int) (put : Bool) : Pushes d (readS alone brk d flat left put) := by
  have hk0 : (kid0 d.kids).Sublist d.kids := List.take_sublist _ _
  have hk1 : (kid1 d.kids).Sublist d.kids := (List.take_sublist _ _).trans (List.drop_sublist _ _)
  have hz := lastD_sub d.kids
  have hn : ∀ x : Scan, Pushes d (x, []) := fun x => ⟨flat, [], rfl, List.nil_sublist _⟩
  have hm : ∀ (x : Scan) (f : Bool) (ks : List Doc), ks.Sublist d.kids → Pushes d (x, ks.map fun x => (f, x)) := fun x f ks h => ⟨f, ks, rfl, h⟩
  have h10 : (if modeB brk d.id flat then kid1 d.kids else kid0 d.kids).Sublist d.kids := by split <;> assumption
  unfold readS
  repeat' (first
    | exact hn _
    | exact hm _ _ _ (List.Sublist.refl _)
    | exact hm _ _ _ hk0
    | exact hm _ _ _ hz
    | exact hm _ _ _ h10
    | refine iteInduction (fun _ => ?_) (fun _ => ?_))
def wts (l : List Cm) : Nat := (l.map fun c => c.d.wt).sum
theorem wts_app (a b : List Cm) : wts (a ++ b) = wts a + wts b := by unfold wts; rw [List.map_append, List.sum_append]
def prs (l : List Cm) : List (Bool × Doc) := (l.map fun c => (c.flat, c.d)).reverse
theorem prs_app (a b : List Cm) : prs (a ++ b) = prs b ++ prs a := by unfold prs; rw [List.map_append, List.reverse_append]
theorem wts_of {l : List Cm} {x : List (Bool × Doc)} (h : l.map (fun c => (c.flat, c.d)) = x.reverse) : wts l = wtL (x.map Prod.snd) := by
  have e2 : l.map (fun c => c.d.wt) = ((l.map fun c => (c.flat, c.d)).map fun x => x.2.wt) := by rw [List.map_map]; rfl
  unfold wts
  rw [e2, h, List.map_reverse, List.sum_reverse]
  unfold wtL
  rw [List.map_map]
  rfl
theorem read_wts {l : List Cm} {alone : Bool} {brk : Int → Bool} {d : Doc} {flat : Bool} {left : Int} {put : Bool} (h : l.map (fun c => (c.flat, c.d)) = (readS alone brk d flat left put).2.reverse) : wts l + 1 ≤ d.wt := by
  obtain ⟨fl, ks, e, hs⟩ := readS_kids alone brk d flat left put
  rw [wts_of h, e]
  have h1 := wtL_sub hs
  have h2 := wt_kids1 d
  rw [List.map_map]
  show wtL (List.map id ks) + 1 ≤ _
  rw [List.map_id]
  omega
section
variable {B0 b mb : Nat} {ov : OptV} {s : MS} {N rb : Nat} {left : Int} {put alone : Bool} {l : List Cm} {rs : Value} {w0 w w' : World}
theorem RAt.pop {c : Cm} {A : Option Addr} {cap : Nat} (h : RAt B0 b mb s N rb left put alone (l ++ [c]) (.slice A (l.length + 1) cap) w0 w) :
    RAt B0 b mb s N rb left put alone l (.slice A l.length cap) w0 (w.setCell ⟨rb, 2, none⟩ (.slice A l.length cap)) := by
  have hne : ∀ k, (Value.slice A l.length cap).ownBlock = some k → k ≠ rb := fun k hk e => h.ne (by rw [← e, ← hk]; cases A <;> rfl)
  have hr := h.row
  rw [List.length_append, List.length_singleton] at hr
  have ht := own_take hr (k := l.length) (by omega)
  rw [cmCells_snoc, List.take_left' (cmCells_len l)] at ht
  have hl := h.len
  rw [List.map_append, List.sum_append] at hl
  exact { below := h.below.setCell (p := ⟨rb, 2, none⟩) h.lowb _, blk := h.blk.set 2 _, row := own_setCell ht _ _ hne, lowb := h.lowb, low := h.low, good := fun x hx => h.good x (by simp [hx]), ne := fun e => hne rb e rfl, left0 := h.left0, left1 := h.left1, len := by omega }
theorem rat_new (hb : Below w.heap.size w w') (hk : Blk w' w.heap.size [.pointer (some ⟨b, 0, none⟩), .int .i64 left, .slice none 0 0, .bool false, .bool alone] 102) (h0 : 0 ≤ left) (h1 : left ≤ 10000) :
    RAt B0 b mb s w.heap.size w.heap.size left false alone [] (.slice none 0 0) w w' :=
  { below := hb, blk := hk, row := w'.ownsRow_nil _ _ _, lowb := Nat.le_refl _, low := rfl, good := fun _ h => (by cases h), ne := (by intro h; cases h), left0 := h0, left1 := h1, len := by simp }
end
/-- What is still to be read of what is behind. -/
def bhd (s : MS) (alone : Bool) (j : Nat) : List (Bool × Doc) := if alone then [] else prs (s.stk.take j)
theorem bhd_all (s : MS) (alone : Bool) : bhd s alone s.stk.length = behind s.mach alone := by
  unfold bhd behind prs MS.mach
  rw [List.take_length]
  simp only [← List.map_reverse, List.map_map]
  rfl
theorem bhd_step {s : MS} {j : Nat} (hj : j < s.stk.length) : bhd s false (j + 1) = ((s.stk[j]).flat, (s.stk[j]).d) :: bhd s false j := by
  unfold bhd
  simp only [Bool.false_eq_true, if_false]
  rw [List.take_succ_eq_append_getElem hj, prs_app]
  rfl
theorem wts_step {l : List Cm} {j : Nat} (hj : j < l.length) : wts (l.take (j + 1)) = wts (l.take j) + (l[j]).d.wt := by
  rw [List.take_succ_eq_append_getElem hj, wts_app]
  simp [wts]
theorem wts_take (l : List Cm) (j : Nat) : wts (l.take j) ≤ wts l := by
  have := wts_app (l.take j) (l.drop j)
  rw [List.take_append_drop] at this
  omega
theorem wt_pos (d : Doc) : 1 ≤ d.wt := by
  have := d.nodes_pos
  unfold Doc.wt
  omega
/-- One step of reading on, as the machine's rows have it. -/
theorem fits_go {alone : Bool} {brk : Int → Bool} {flat : Bool} {d : Doc} {rest : List (Bool × Doc)} {left l2 : Int} {put p2 : Bool} {y : Bool} (h : (scanS alone brk ((flat, d) :: rest) left put).fits = y) (hr : (readS alone brk d flat left put).1 = .go l2 p2) :
    (scanS alone brk ((readS alone brk d flat left put).2 ++ rest) l2 p2).fits = y := by
  rw [scanS_step] at h
  unfold thenS at h
  rw [hr] at h
  exact h
theorem fits_done {alone : Bool} {brk : Int → Bool} {flat : Bool} {d : Doc} {rest : List (Bool × Doc)} {left : Int} {put x : Bool} {y : Bool} (h : (scanS alone brk ((flat, d) :: rest) left put).fits = y) (hr : (readS alone brk d flat left put).1 = .done x) : y = x := by
  rw [scanS_step] at h
  unfold thenS at h
  rw [hr] at h
  exact h.symm
end
end Go.Proofs.YthljgiimdcbfpaaDoor
