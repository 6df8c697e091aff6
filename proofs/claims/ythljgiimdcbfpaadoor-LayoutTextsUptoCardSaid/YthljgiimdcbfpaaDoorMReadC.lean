/- Package layout: read, the kinds that push one kid (printed by gen_read.py). -/
import Derived.Test.YthljgiimdcbfpaaDoorMReadB
namespace Go.Proofs.YthljgiimdcbfpaaDoor
open Go.RowKit
set_option maxRecDepth 100000
set_option linter.unusedVariables false
set_option linter.unusedSimpArgs false

theorem held_want {P : Program} {ops : Array Oper} {S : World → Prop} {K : Act → Prop} {a : Act} {o : Oper} {rest : List Oper} (hg : Region.wanted o (yielded ops a.tmps) = true) (h : ∃ v, (∀ w, S w → (execOp a.eval o).run P w = .ok (.value v) w) ∧ wpHeld P ops S K rest (a.put o.dst v)) : wpHeld P ops S K (o :: rest) a := by
  obtain ⟨v, hy, h⟩ := h
  exact ⟨v, .inl ⟨hg, hy⟩, h⟩
theorem held_out {P : Program} {ops : Array Oper} {S : World → Prop} {K : Act → Prop} {a : Act} {o : Oper} {rest : List Oper} (hg : Region.wanted o (yielded ops a.tmps) = false) (h : wpHeld P ops S K rest (a.put o.dst undef)) : wpHeld P ops S K (o :: rest) a :=
  ⟨undef, .inr ⟨hg, rfl⟩, h⟩
theorem docs_nth {w : World} {B0 : Nat} {F : Nat → Prop} {ds : List Doc} {g off n : Nat} (h : DocsAt w B0 F ds (kidAddrs g off n)) (j : Nat) (hj : j < ds.length) : DocsAt w B0 F [ds[j]] [⟨g, off + j * 6, none⟩] := by
  refine ⟨rfl, fun i h1 h2 => ?_⟩
  have h1' : i < 1 := h1
  obtain rfl : i = 0 := by omega
  have := h.2 j hj (by rw [← h.1]; exact hj)
  simpa [kidAddrs] using this
theorem wt_nth (d : Doc) (j : Nat) (hj : j < d.kids.length) : wtL [d.kids[j]] ≤ d.wt := by
  have h1 := wt_kids d
  have h2 := wtL_drop d.kids j
  rw [List.drop_eq_getElem_cons hj, wtL_cons] at h2
  have : wtL [d.kids[j]] = d.kids[j].wt := by simp [wtL]
  omega
theorem ok_nth {d : Doc} (hs : d.shape = true) (hb : d.bulk ≤ 4194304) (j : Nat) (hj : j < d.kids.length) : ∀ x ∈ [d.kids[j]], x.shape = true ∧ x.bulk ≤ 4194304 := fun x hx => by
  rw [List.mem_singleton] at hx
  exact kid_ok hs hb x (by rw [hx]; exact List.getElem_mem hj)
theorem kid0_nth {ks : List Doc} (h : 0 < ks.length) : kid0 ks = [ks[0]] := by
  cases ks with
  | nil => exact absurd h (by simp)
  | cons a l => rfl
theorem kid1_nth {ks : List Doc} (h : 1 < ks.length) : kid1 ks = [ks[1]] := by
  match ks, h with
  | a :: b :: l, _ => rfl
theorem lastD_nth {ks : List Doc} (h : 0 < ks.length) : lastD ks = [ks[ks.length - 1]'(by omega)] := by
  unfold lastD
  rw [List.getLast?_eq_getElem?, List.getElem?_eq_getElem (by omega)]
  rfl
theorem kids_7 {d : Doc} (hs : d.shape = true) (hk : d.kind = 7) : d.kids.length = 1 := by
  rw [Doc.shape_eq, Bool.and_eq_true] at hs
  have := hs.1
  unfold Doc.formed at this
  rw [hk] at this
  simp [formedF] at this
  omega
theorem kids_8 {d : Doc} (hs : d.shape = true) (hk : d.kind = 8) : 1 ≤ d.kids.length := by
  rw [Doc.shape_eq, Bool.and_eq_true] at hs
  have := hs.1
  unfold Doc.formed at this
  rw [hk] at this
  simp [formedF] at this
  omega
theorem kids_10 {d : Doc} (hs : d.shape = true) (hk : d.kind = 10) : d.kids.length = 2 := by
  rw [Doc.shape_eq, Bool.and_eq_true] at hs
  have := hs.1
  unfold Doc.formed at this
  rw [hk] at this
  simp [formedF] at this
  omega

set_option maxHeartbeats 16000000 in
theorem read_group {B0 b mb : Nat} {ov : OptV} {s : MS} {N rb : Nat} {left : Int} {put alone : Bool} {l : List Cm} {rs : Value} {w0 w : World} (hm : MAt B0 b mb ov s w0) (h : RAt B0 b mb s N rb left put alone l rs w0 w) (p : Option Addr) (flat : Bool) {d : Doc} {a : Addr} (hd : DocAt w0 B0 (s.F b mb w0) d a) (hsh : d.shape = true) (hbk : d.bulk ≤ 4194304) (hwt : (l.map fun c => c.d.wt).sum + d.wt ≤ 16777216) (hk : d.kind = 7) :
    Calls Tryd.prog 59 #[.pointer (some ⟨rb, 0, none⟩), .agg #[.pointer p, .bool flat, .pointer (some a)]] w fun e w' => ReadEnds B0 b mb s N rb alone l w0 (readS alone s.brk d flat left put) e w' := by
  have hrb := rb_new h p flat a
  have hlw := h.left0
  have hlw1 := h.left1
  have hr0 := hrb.r
  obtain ⟨g, off, kv, rfl, hFg, h6, hkv⟩ := hr0.doc hm hd
  obtain ⟨A, cap, hkvs⟩ := hkv.slice
  have k0 := h6.kind
  have k1 := h6.text
  have k2 := h6.kids
  have k3 := h6.brk
  have k4 := h6.id
  rw [hk] at k0
  rw [hkvs] at k2 hkv
  have x0 := hrb.x
  have y1 := hrb.p1
  have y2 := hrb.p2
  have r1 : _ = some (Value.int .i64 left) := hr0.blk.cell 1
  have r3 : _ = some (Value.bool put) := hr0.blk.cell 3
  have r4 : _ = some (Value.bool alone) := hr0.blk.cell 4
  have g1 := hr0.blk.frozen 1
  have g3 := hr0.blk.frozen 3
  have HRB := Lib.hid hrb
  have HR0 := Lib.hid hr0
  have HM := Lib.hid hm
  have HKV := Lib.hid hkv
  have HSH := Lib.hid hsh
  have HBK := Lib.hid hbk
  have HWT := Lib.hid hwt
  have HD := Lib.hid hd
  have HK := Lib.hid hk
  obtain ⟨hgN, hhk⟩ := kids_at hr0 hd k2
  have HHK := Lib.hid hhk
  clear h hm hd hsh hbk hwt hrb hr0 hkv h6 hFg hkvs hk hhk
  obtain ⟨W, hW⟩ : ∃ W, W = (w.alloc (.cells #[.pointer (some ⟨rb, 0, none⟩)] 100)).alloc (.cells #[.pointer p, .bool flat, .pointer (some ⟨g, off, none⟩)] 69) := ⟨_, rfl⟩
  have HWW := Lib.hid hW
  rw [← hW] at HRB HR0
  clear hW
  have hn1 := kids_7 HSH.out HK.out
  have hrr := HRB.out.rx
  have hrl := HR0.out.blk.lt
  have hxl := HRB.out.lt
  have hNx := HRB.out.lx
  obtain ⟨hn, hnc, kg, koff, hA, hds⟩ := docs_kids HM.out HHK.out
  clear hn
  have hnl := kids_len_bulk HBK.out
  obtain rfl := hA (by omega)
  have HDS := Lib.hid hds
  have HOX := Lib.hid HRB.out.ox
  have HDL : Hid (decide (left < 0) = false) := Lib.hid (by simp; omega)
  rw [hn1] at k2 hnc
  clear k1 k4 r1 r3 hds hA hnc
  cases hb : d.brk
  · rw [hb] at k3
    have HBR := Lib.hid hb
    clear hb
    cases flat
    · have HR : Hid (readS alone s.brk d false left put = (.go left put, [d.kids[0]'(by omega)].map fun x => (false, x))) := Lib.hid (by unfold readS; rw [HK.out, HBR.out, kid0_nth (by omega)]; rfl)
      go_enter Tryd.func59, Tryd.ntmps59
      go_upto_region 15 with fail
      rw [← HWW.out] at k0 k2 k3 x0 y1 ⊢
      refine wp_region_seq (fun w' => w'.cell? ⟨w.heap.size + 1, 1, none⟩ = some (.bool false) ∧ w'.cell? ⟨g, off + 2, none⟩ = some (.slice (some ⟨kg, koff, none⟩) 1 cap) ∧ w'.cell? ⟨g, off + 3, none⟩ = some (.bool false)) 15 2 (by kernel_rfl) rfl (by kernel_rfl) (by intro _ _ d _ _ h; cases d <;> exact h) ⟨y1, k2, k3⟩ ?_
      simp only [List.take_succ_cons, List.take_zero, List.drop_succ_cons, List.drop_zero, List.cons_append, List.nil_append]
      repeat (first
        | (refine wpHeld_step rfl ?_; apply Exists.intro; refine ⟨fun wq hq => ?_, ?_⟩; (obtain ⟨q1, q2, q3⟩ := hq; go_simp; first | done | rfl); simp only [Act.put, List.setIfInBounds_toArray, List.set_cons_zero, List.set_cons_succ])
        | (refine held_want (by rfl) ?_; apply Exists.intro; refine ⟨fun wq hq => ?_, ?_⟩; (obtain ⟨q1, q2, q3⟩ := hq; go_simp; first | done | rfl); simp only [Act.put, List.setIfInBounds_toArray, List.set_cons_zero, List.set_cons_succ])
        | (refine held_out (by rfl) ?_; simp only [Act.put, List.setIfInBounds_toArray, List.set_cons_zero, List.set_cons_succ]))
      change wpSeq _ _ _ _ _ _ _
      have hjk : 0 < d.kids.length := by omega
      refine wpSeq_step rfl (fun K hK => ?_)
      go_simp
      have hbt : Below W.heap.size W (W.alloc (.cells #[.pointer (some ⟨kg, koff, none⟩)] 66)).drew := ((Below.refl _ W).alloc (Nat.le_refl _) _).drew
      have hpb : Blk (W.alloc (.cells #[.pointer (some ⟨kg, koff, none⟩)] 66)).drew W.heap.size (ptrs [⟨kg, koff, none⟩]) 66 := Blk.new' (W := W) _ _ rfl
      have HBT := Lib.hid hbt
      have HPB := Lib.hid hpb
      obtain ⟨wt, hwt⟩ : ∃ wt, wt = (W.alloc (.cells #[.pointer (some ⟨kg, koff, none⟩)] 66)).drew := ⟨_, rfl⟩
      rw [← hwt] at HBT HPB ⊢
      clear hbt hpb hwt
      have hbt' := HBT.out
      have hpb := HPB.out
      have dy := (hbt'.cell (p := ⟨w.heap.size + 1, 1, none⟩) (by simp; omega)).trans y1
      have dk := (hbt'.cell (p := ⟨g, off + 2, none⟩) (by simp; omega)).trans k2
      have dq := (hbt'.cell (p := ⟨g, off + 3, none⟩) (by simp; omega)).trans k3
      have dx := (hbt'.cell (p := ⟨w.heap.size, 0, none⟩) (by simp; omega)).trans x0
      refine hK _ _ ⟨dy, dk, dq⟩ ?_
      clear hK K
      try simp only [Act.put, List.setIfInBounds_toArray, List.set_cons_zero, List.set_cons_succ]
      refine wpSeq_step rfl (fun K hK => ?_)
      go_simp
      refine (push_end HM.out (HR0.out.next hbt') false dx hNx hrr HOX.out hpb (by show w.heap.size ≤ W.heap.size; omega) rfl (by have := docs_nth HDS.out 0 hjk; simpa using this) (ok_nth HSH.out HBK.out 0 hjk) (by have := wt_nth d 0 hjk; have := HWT.out; omega)).mono ?_
      rintro e w3 ⟨rfl, ⟨rs', l', hl', hr3⟩, hf1, hf2⟩
      have ey := (World.cell?_of_block (w := wt) (w' := w3) (a := ⟨w.heap.size + 1, 1, none⟩) (hf2 _ (by show w.heap.size ≤ w.heap.size + 1; omega) (by show w.heap.size + 1 < wt.heap.size; have := hbt'.size; omega))).trans dy
      have ek := (World.cell?_of_block (w := wt) (w' := w3) (a := ⟨g, off + 2, none⟩) (hf1 _ hgN)).trans dk
      have eq := (World.cell?_of_block (w := wt) (w' := w3) (a := ⟨g, off + 3, none⟩) (hf1 _ hgN)).trans dq
      have ex := (World.cell?_of_block (w := wt) (w' := w3) (a := ⟨w.heap.size, 0, none⟩) (hf2 _ (Nat.le_refl _) (by show w.heap.size < wt.heap.size; have := hbt'.size; omega))).trans dx
      have er := hr3.blk.cell 1
      simp only [List.getElem?_cons_zero, List.getElem?_cons_succ] at er
      have HR3 := Lib.hid hr3
      have HL3 := Lib.hid hl'
      refine hK _ _ ⟨ey, ek, eq⟩ ?_
      clear hK K hr3 hl' hf1 hf2 HBT hbt' hpb dy dk dq dx ey ek eq y1 k2 k3 k0 x0
      try simp only [Act.put, List.setIfInBounds_toArray, List.set_cons_zero, List.set_cons_succ]
      change Exit.inBlock _ _ Exit.normal _ _
      go_wp2_with fail
      go_quiet (fail)
      go_wp2_with fail
      go_ret2
      rw [HR.out]
      exact ⟨by show Ending.returned (.tuple #[.bool false, .bool (decide (left < 0))]) = _; rw [HDL.out], rs', l', HL3.out, HR3.out.next ⟨rfl, rfl, rfl, Nat.le_refl _, fun _ _ => rfl⟩⟩
    · have HR : Hid (readS alone s.brk d true left put = (.go left put, [d.kids[0]'(by omega)].map fun x => (true, x))) := Lib.hid (by unfold readS; rw [HK.out, HBR.out, kid0_nth (by omega)]; rfl)
      go_enter Tryd.func59, Tryd.ntmps59
      go_upto_region 15 with fail
      rw [← HWW.out] at k0 k2 k3 x0 y1 ⊢
      refine wp_region_seq (fun w' => w'.cell? ⟨w.heap.size + 1, 1, none⟩ = some (.bool true) ∧ w'.cell? ⟨g, off + 2, none⟩ = some (.slice (some ⟨kg, koff, none⟩) 1 cap) ∧ w'.cell? ⟨g, off + 3, none⟩ = some (.bool false)) 15 2 (by kernel_rfl) rfl (by kernel_rfl) (by intro _ _ d _ _ h; cases d <;> exact h) ⟨y1, k2, k3⟩ ?_
      simp only [List.take_succ_cons, List.take_zero, List.drop_succ_cons, List.drop_zero, List.cons_append, List.nil_append]
      repeat (first
        | (refine wpHeld_step rfl ?_; apply Exists.intro; refine ⟨fun wq hq => ?_, ?_⟩; (obtain ⟨q1, q2, q3⟩ := hq; go_simp; first | done | rfl); simp only [Act.put, List.setIfInBounds_toArray, List.set_cons_zero, List.set_cons_succ])
        | (refine held_want (by rfl) ?_; apply Exists.intro; refine ⟨fun wq hq => ?_, ?_⟩; (obtain ⟨q1, q2, q3⟩ := hq; go_simp; first | done | rfl); simp only [Act.put, List.setIfInBounds_toArray, List.set_cons_zero, List.set_cons_succ])
        | (refine held_out (by rfl) ?_; simp only [Act.put, List.setIfInBounds_toArray, List.set_cons_zero, List.set_cons_succ]))
      change wpSeq _ _ _ _ _ _ _
      have hjk : 0 < d.kids.length := by omega
      refine wpSeq_step rfl (fun K hK => ?_)
      go_simp
      have hbt : Below W.heap.size W (W.alloc (.cells #[.pointer (some ⟨kg, koff, none⟩)] 66)).drew := ((Below.refl _ W).alloc (Nat.le_refl _) _).drew
      have hpb : Blk (W.alloc (.cells #[.pointer (some ⟨kg, koff, none⟩)] 66)).drew W.heap.size (ptrs [⟨kg, koff, none⟩]) 66 := Blk.new' (W := W) _ _ rfl
      have HBT := Lib.hid hbt
      have HPB := Lib.hid hpb
      obtain ⟨wt, hwt⟩ : ∃ wt, wt = (W.alloc (.cells #[.pointer (some ⟨kg, koff, none⟩)] 66)).drew := ⟨_, rfl⟩
      rw [← hwt] at HBT HPB ⊢
      clear hbt hpb hwt
      have hbt' := HBT.out
      have hpb := HPB.out
      have dy := (hbt'.cell (p := ⟨w.heap.size + 1, 1, none⟩) (by simp; omega)).trans y1
      have dk := (hbt'.cell (p := ⟨g, off + 2, none⟩) (by simp; omega)).trans k2
      have dq := (hbt'.cell (p := ⟨g, off + 3, none⟩) (by simp; omega)).trans k3
      have dx := (hbt'.cell (p := ⟨w.heap.size, 0, none⟩) (by simp; omega)).trans x0
      refine hK _ _ ⟨dy, dk, dq⟩ ?_
      clear hK K
      try simp only [Act.put, List.setIfInBounds_toArray, List.set_cons_zero, List.set_cons_succ]
      refine wpSeq_step rfl (fun K hK => ?_)
      go_simp
      refine (push_end HM.out (HR0.out.next hbt') true dx hNx hrr HOX.out hpb (by show w.heap.size ≤ W.heap.size; omega) rfl (by have := docs_nth HDS.out 0 hjk; simpa using this) (ok_nth HSH.out HBK.out 0 hjk) (by have := wt_nth d 0 hjk; have := HWT.out; omega)).mono ?_
      rintro e w3 ⟨rfl, ⟨rs', l', hl', hr3⟩, hf1, hf2⟩
      have ey := (World.cell?_of_block (w := wt) (w' := w3) (a := ⟨w.heap.size + 1, 1, none⟩) (hf2 _ (by show w.heap.size ≤ w.heap.size + 1; omega) (by show w.heap.size + 1 < wt.heap.size; have := hbt'.size; omega))).trans dy
      have ek := (World.cell?_of_block (w := wt) (w' := w3) (a := ⟨g, off + 2, none⟩) (hf1 _ hgN)).trans dk
      have eq := (World.cell?_of_block (w := wt) (w' := w3) (a := ⟨g, off + 3, none⟩) (hf1 _ hgN)).trans dq
      have ex := (World.cell?_of_block (w := wt) (w' := w3) (a := ⟨w.heap.size, 0, none⟩) (hf2 _ (Nat.le_refl _) (by show w.heap.size < wt.heap.size; have := hbt'.size; omega))).trans dx
      have er := hr3.blk.cell 1
      simp only [List.getElem?_cons_zero, List.getElem?_cons_succ] at er
      have HR3 := Lib.hid hr3
      have HL3 := Lib.hid hl'
      refine hK _ _ ⟨ey, ek, eq⟩ ?_
      clear hK K hr3 hl' hf1 hf2 HBT hbt' hpb dy dk dq dx ey ek eq y1 k2 k3 k0 x0
      try simp only [Act.put, List.setIfInBounds_toArray, List.set_cons_zero, List.set_cons_succ]
      change Exit.inBlock _ _ Exit.normal _ _
      go_wp2_with fail
      go_quiet (fail)
      go_wp2_with fail
      go_ret2
      rw [HR.out]
      exact ⟨by show Ending.returned (.tuple #[.bool false, .bool (decide (left < 0))]) = _; rw [HDL.out], rs', l', HL3.out, HR3.out.next ⟨rfl, rfl, rfl, Nat.le_refl _, fun _ _ => rfl⟩⟩
  · rw [hb] at k3
    have HBR := Lib.hid hb
    clear hb
    cases alone
    · cases flat
      · have HR : Hid (readS false s.brk d false left put = (.go left put, [d.kids[0]'(by omega)].map fun x => (false, x))) := Lib.hid (by unfold readS; rw [HK.out, HBR.out, kid0_nth (by omega)]; rfl)
        go_enter Tryd.func59, Tryd.ntmps59
        go_upto_region 15 with fail
        rw [← HWW.out] at k0 k2 k3 x0 y1 ⊢
        refine wp_region_seq (fun w' => w'.cell? ⟨w.heap.size + 1, 1, none⟩ = some (.bool false) ∧ w'.cell? ⟨g, off + 2, none⟩ = some (.slice (some ⟨kg, koff, none⟩) 1 cap) ∧ w'.cell? ⟨g, off + 3, none⟩ = some (.bool true)) 15 2 (by kernel_rfl) rfl (by kernel_rfl) (by intro _ _ d _ _ h; cases d <;> exact h) ⟨y1, k2, k3⟩ ?_
        simp only [List.take_succ_cons, List.take_zero, List.drop_succ_cons, List.drop_zero, List.cons_append, List.nil_append]
        repeat (first
          | (refine wpHeld_step rfl ?_; apply Exists.intro; refine ⟨fun wq hq => ?_, ?_⟩; (obtain ⟨q1, q2, q3⟩ := hq; go_simp; first | done | rfl); simp only [Act.put, List.setIfInBounds_toArray, List.set_cons_zero, List.set_cons_succ])
          | (refine held_want (by rfl) ?_; apply Exists.intro; refine ⟨fun wq hq => ?_, ?_⟩; (obtain ⟨q1, q2, q3⟩ := hq; go_simp; first | done | rfl); simp only [Act.put, List.setIfInBounds_toArray, List.set_cons_zero, List.set_cons_succ])
          | (refine held_out (by rfl) ?_; simp only [Act.put, List.setIfInBounds_toArray, List.set_cons_zero, List.set_cons_succ]))
        change wpSeq _ _ _ _ _ _ _
        have hjk : 0 < d.kids.length := by omega
        refine wpSeq_step rfl (fun K hK => ?_)
        go_simp
        have hbt : Below W.heap.size W (W.alloc (.cells #[.pointer (some ⟨kg, koff, none⟩)] 66)).drew := ((Below.refl _ W).alloc (Nat.le_refl _) _).drew
        have hpb : Blk (W.alloc (.cells #[.pointer (some ⟨kg, koff, none⟩)] 66)).drew W.heap.size (ptrs [⟨kg, koff, none⟩]) 66 := Blk.new' (W := W) _ _ rfl
        have HBT := Lib.hid hbt
        have HPB := Lib.hid hpb
        obtain ⟨wt, hwt⟩ : ∃ wt, wt = (W.alloc (.cells #[.pointer (some ⟨kg, koff, none⟩)] 66)).drew := ⟨_, rfl⟩
        rw [← hwt] at HBT HPB ⊢
        clear hbt hpb hwt
        have hbt' := HBT.out
        have hpb := HPB.out
        have dy := (hbt'.cell (p := ⟨w.heap.size + 1, 1, none⟩) (by simp; omega)).trans y1
        have dk := (hbt'.cell (p := ⟨g, off + 2, none⟩) (by simp; omega)).trans k2
        have dq := (hbt'.cell (p := ⟨g, off + 3, none⟩) (by simp; omega)).trans k3
        have dx := (hbt'.cell (p := ⟨w.heap.size, 0, none⟩) (by simp; omega)).trans x0
        refine hK _ _ ⟨dy, dk, dq⟩ ?_
        clear hK K
        try simp only [Act.put, List.setIfInBounds_toArray, List.set_cons_zero, List.set_cons_succ]
        refine wpSeq_step rfl (fun K hK => ?_)
        go_simp
        refine (push_end HM.out (HR0.out.next hbt') false dx hNx hrr HOX.out hpb (by show w.heap.size ≤ W.heap.size; omega) rfl (by have := docs_nth HDS.out 0 hjk; simpa using this) (ok_nth HSH.out HBK.out 0 hjk) (by have := wt_nth d 0 hjk; have := HWT.out; omega)).mono ?_
        rintro e w3 ⟨rfl, ⟨rs', l', hl', hr3⟩, hf1, hf2⟩
        have ey := (World.cell?_of_block (w := wt) (w' := w3) (a := ⟨w.heap.size + 1, 1, none⟩) (hf2 _ (by show w.heap.size ≤ w.heap.size + 1; omega) (by show w.heap.size + 1 < wt.heap.size; have := hbt'.size; omega))).trans dy
        have ek := (World.cell?_of_block (w := wt) (w' := w3) (a := ⟨g, off + 2, none⟩) (hf1 _ hgN)).trans dk
        have eq := (World.cell?_of_block (w := wt) (w' := w3) (a := ⟨g, off + 3, none⟩) (hf1 _ hgN)).trans dq
        have ex := (World.cell?_of_block (w := wt) (w' := w3) (a := ⟨w.heap.size, 0, none⟩) (hf2 _ (Nat.le_refl _) (by show w.heap.size < wt.heap.size; have := hbt'.size; omega))).trans dx
        have er := hr3.blk.cell 1
        simp only [List.getElem?_cons_zero, List.getElem?_cons_succ] at er
        have HR3 := Lib.hid hr3
        have HL3 := Lib.hid hl'
        refine hK _ _ ⟨ey, ek, eq⟩ ?_
        clear hK K hr3 hl' hf1 hf2 HBT hbt' hpb dy dk dq dx ey ek eq y1 k2 k3 k0 x0
        try simp only [Act.put, List.setIfInBounds_toArray, List.set_cons_zero, List.set_cons_succ]
        change Exit.inBlock _ _ Exit.normal _ _
        go_wp2_with fail
        go_quiet (fail)
        go_wp2_with fail
        go_ret2
        rw [HR.out]
        exact ⟨by show Ending.returned (.tuple #[.bool false, .bool (decide (left < 0))]) = _; rw [HDL.out], rs', l', HL3.out, HR3.out.next ⟨rfl, rfl, rfl, Nat.le_refl _, fun _ _ => rfl⟩⟩
      · have HR : Hid (readS false s.brk d true left put = (.go left put, [d.kids[0]'(by omega)].map fun x => (false, x))) := Lib.hid (by unfold readS; rw [HK.out, HBR.out, kid0_nth (by omega)]; rfl)
        go_enter Tryd.func59, Tryd.ntmps59
        go_upto_region 15 with fail
        rw [← HWW.out] at k0 k2 k3 x0 y1 ⊢
        refine wp_region_seq (fun w' => w'.cell? ⟨w.heap.size + 1, 1, none⟩ = some (.bool true) ∧ w'.cell? ⟨g, off + 2, none⟩ = some (.slice (some ⟨kg, koff, none⟩) 1 cap) ∧ w'.cell? ⟨g, off + 3, none⟩ = some (.bool true)) 15 2 (by kernel_rfl) rfl (by kernel_rfl) (by intro _ _ d _ _ h; cases d <;> exact h) ⟨y1, k2, k3⟩ ?_
        simp only [List.take_succ_cons, List.take_zero, List.drop_succ_cons, List.drop_zero, List.cons_append, List.nil_append]
        repeat (first
          | (refine wpHeld_step rfl ?_; apply Exists.intro; refine ⟨fun wq hq => ?_, ?_⟩; (obtain ⟨q1, q2, q3⟩ := hq; go_simp; first | done | rfl); simp only [Act.put, List.setIfInBounds_toArray, List.set_cons_zero, List.set_cons_succ])
          | (refine held_want (by rfl) ?_; apply Exists.intro; refine ⟨fun wq hq => ?_, ?_⟩; (obtain ⟨q1, q2, q3⟩ := hq; go_simp; first | done | rfl); simp only [Act.put, List.setIfInBounds_toArray, List.set_cons_zero, List.set_cons_succ])
          | (refine held_out (by rfl) ?_; simp only [Act.put, List.setIfInBounds_toArray, List.set_cons_zero, List.set_cons_succ]))
        change wpSeq _ _ _ _ _ _ _
        have hjk : 0 < d.kids.length := by omega
        refine wpSeq_step rfl (fun K hK => ?_)
        go_simp
        have hbt : Below W.heap.size W (W.alloc (.cells #[.pointer (some ⟨kg, koff, none⟩)] 66)).drew := ((Below.refl _ W).alloc (Nat.le_refl _) _).drew
        have hpb : Blk (W.alloc (.cells #[.pointer (some ⟨kg, koff, none⟩)] 66)).drew W.heap.size (ptrs [⟨kg, koff, none⟩]) 66 := Blk.new' (W := W) _ _ rfl
        have HBT := Lib.hid hbt
        have HPB := Lib.hid hpb
        obtain ⟨wt, hwt⟩ : ∃ wt, wt = (W.alloc (.cells #[.pointer (some ⟨kg, koff, none⟩)] 66)).drew := ⟨_, rfl⟩
        rw [← hwt] at HBT HPB ⊢
        clear hbt hpb hwt
        have hbt' := HBT.out
        have hpb := HPB.out
        have dy := (hbt'.cell (p := ⟨w.heap.size + 1, 1, none⟩) (by simp; omega)).trans y1
        have dk := (hbt'.cell (p := ⟨g, off + 2, none⟩) (by simp; omega)).trans k2
        have dq := (hbt'.cell (p := ⟨g, off + 3, none⟩) (by simp; omega)).trans k3
        have dx := (hbt'.cell (p := ⟨w.heap.size, 0, none⟩) (by simp; omega)).trans x0
        refine hK _ _ ⟨dy, dk, dq⟩ ?_
        clear hK K
        try simp only [Act.put, List.setIfInBounds_toArray, List.set_cons_zero, List.set_cons_succ]
        refine wpSeq_step rfl (fun K hK => ?_)
        go_simp
        refine (push_end HM.out (HR0.out.next hbt') false dx hNx hrr HOX.out hpb (by show w.heap.size ≤ W.heap.size; omega) rfl (by have := docs_nth HDS.out 0 hjk; simpa using this) (ok_nth HSH.out HBK.out 0 hjk) (by have := wt_nth d 0 hjk; have := HWT.out; omega)).mono ?_
        rintro e w3 ⟨rfl, ⟨rs', l', hl', hr3⟩, hf1, hf2⟩
        have ey := (World.cell?_of_block (w := wt) (w' := w3) (a := ⟨w.heap.size + 1, 1, none⟩) (hf2 _ (by show w.heap.size ≤ w.heap.size + 1; omega) (by show w.heap.size + 1 < wt.heap.size; have := hbt'.size; omega))).trans dy
        have ek := (World.cell?_of_block (w := wt) (w' := w3) (a := ⟨g, off + 2, none⟩) (hf1 _ hgN)).trans dk
        have eq := (World.cell?_of_block (w := wt) (w' := w3) (a := ⟨g, off + 3, none⟩) (hf1 _ hgN)).trans dq
        have ex := (World.cell?_of_block (w := wt) (w' := w3) (a := ⟨w.heap.size, 0, none⟩) (hf2 _ (Nat.le_refl _) (by show w.heap.size < wt.heap.size; have := hbt'.size; omega))).trans dx
        have er := hr3.blk.cell 1
        simp only [List.getElem?_cons_zero, List.getElem?_cons_succ] at er
        have HR3 := Lib.hid hr3
        have HL3 := Lib.hid hl'
        refine hK _ _ ⟨ey, ek, eq⟩ ?_
        clear hK K hr3 hl' hf1 hf2 HBT hbt' hpb dy dk dq dx ey ek eq y1 k2 k3 k0 x0
        try simp only [Act.put, List.setIfInBounds_toArray, List.set_cons_zero, List.set_cons_succ]
        change Exit.inBlock _ _ Exit.normal _ _
        go_wp2_with fail
        go_quiet (fail)
        go_wp2_with fail
        go_ret2
        rw [HR.out]
        exact ⟨by show Ending.returned (.tuple #[.bool false, .bool (decide (left < 0))]) = _; rw [HDL.out], rs', l', HL3.out, HR3.out.next ⟨rfl, rfl, rfl, Nat.le_refl _, fun _ _ => rfl⟩⟩
    · have HR : Hid (readS true s.brk d flat left put = (.done false, [])) := Lib.hid (by unfold readS; rw [HK.out, HBR.out]; rfl)
      go_enter Tryd.func59, Tryd.ntmps59
      go_wp2_with fail
      go_ret2
      rw [HR.out]
      exact ⟨rfl, by rw [HWW.out] at HR0; exact HR0.out.below⟩
end Go.Proofs.YthljgiimdcbfpaaDoor
