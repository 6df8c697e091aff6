/- Package layout: fits (printed by gen_fits.py). -/
import Derived.Test.YthljgiimdcbfpaaDoorMReadD
import Derived.Deep.LoopGhost
namespace Go.Proofs.YthljgiimdcbfpaaDoor
open Go.RowKit
set_option maxRecDepth 100000
set_option linter.unusedVariables false
set_option linter.unusedSimpArgs false
set_option maxHeartbeats 16000000 in
theorem fits_is {B0 b mb : Nat} {ov : OptV} {s : MS} {w0 : World} (h : MAt B0 b mb ov s w0) (flat alone : Bool) {v : Value} {ds : List Doc} {la : List Addr} (hp : PtrsAt w0 (fun k => k < w0.heap.size) v la) (hd : DocsAt w0 B0 (s.F b mb w0) ds la) (hok : ∀ d ∈ ds, d.shape = true ∧ d.bulk ≤ 4194304) (hw : wtL ds ≤ 16777216) :
    Calls Tryd.prog 50 #[.pointer (some ⟨b, 0, none⟩), .bool flat, .bool alone, v] w0 fun e w0' => e = .returned (.bool (fitsM ov.o s.mach flat alone ds)) ∧ Below w0.heap.size w0 w0' := by
  obtain ⟨g, off, c, hF, ⟨A, rfl, hA⟩, hcell⟩ := hp
  have hwl : ds.length ≤ wtL ds := by
    clear hok hw hd
    induction ds with
    | nil => simp [wtL]
    | cons a t ih =>
      have := a.nodes_pos
      simp only [wtL, List.length_cons, List.map_cons, List.sum_cons] at *
      unfold Doc.wt at *
      omega
  have hlen : la.length ≤ 16777216 := by have := hd.1; omega
  have c0 := h.cells.1
  have c10 := h.cells.2.2.2.2.1
  have hc0 := h.col0
  have hc1 := h.col1
  obtain ⟨t1, t2, t3, t4⟩ := tab_bd h.opt
  have HM := Lib.hid h
  have HD := Lib.hid hd
  have HOK := Lib.hid hok
  have HW := Lib.hid hw
  have HC := Lib.hid hcell
  have HF := Lib.hid hF
  have HA := Lib.hid hA
  have hbl := h.blk.lt
  clear h hd hok hw hcell hF hA
  obtain ⟨lf, hlf⟩ : ∃ lf, lf = ov.o.width - s.col := ⟨_, rfl⟩
  have hwr : IntKind.i64.wrap (ov.o.width - s.col) = lf := by rw [IntKind.wrap_i64, hlf]; omega
  have HLF := Lib.hid hlf
  have hlf1 : lf ≤ 10000 := by omega
  clear hlf
  by_cases hneg : lf < 0
  · have HR : Hid (fitsM ov.o s.mach flat alone ds = false) := Lib.hid (by unfold fitsM; rw [if_pos (by show ov.o.width - s.col < 0; rw [← HLF.out]; exact hneg)])
    go_enter Tryd.func50, Tryd.ntmps50
    go_upto_region 1 with fail
    refine wp_region_seq (fun w0' => w0'.cell? ⟨b, 0, none⟩ = some (.int .i64 ov.o.width) ∧ w0'.cell? ⟨b, 10, none⟩ = some (.int .i64 s.col)) 13 2 (by kernel_rfl) rfl (by kernel_rfl) (by intro _ _ d _ _ h; cases d <;> exact h) ⟨c0, c10⟩ ?_
    simp only [List.take_succ_cons, List.take_zero, List.drop_succ_cons, List.drop_zero, List.cons_append, List.nil_append]
    repeat (refine wpHeld_step rfl ?_; apply Exists.intro; refine ⟨fun wq hq => ?_, ?_⟩; (obtain ⟨q1, q2⟩ := hq; go_simp; first | done | rfl); simp only [Act.put, List.setIfInBounds_toArray, List.set_cons_zero, List.set_cons_succ])
    change wpSeq _ _ _ _ _ _ _
    refine wpSeq_step rfl (fun K hK => ?_)
    go_simp
    have hbn : Below w0.heap.size w0 (w0.alloc (.cells #[.pointer (some ⟨b, 0, none⟩), .int .i64 lf, .slice none 0 0, .bool false, .bool alone] 102)).drew := ((Below.refl _ w0).alloc (Nat.le_refl _) _).drew
    have hkn : Blk (w0.alloc (.cells #[.pointer (some ⟨b, 0, none⟩), .int .i64 lf, .slice none 0 0, .bool false, .bool alone] 102)).drew w0.heap.size [.pointer (some ⟨b, 0, none⟩), .int .i64 lf, .slice none 0 0, .bool false, .bool alone] 102 := Blk.new' (W := w0) _ _ rfl
    obtain ⟨w, hW⟩ : ∃ w, w = (w0.alloc (.cells #[.pointer (some ⟨b, 0, none⟩), .int .i64 lf, .slice none 0 0, .bool false, .bool alone] 102)).drew := ⟨_, rfl⟩
    rw [← hW] at hbn hkn ⊢
    clear hW
    have d0 := (hbn.cell (p := ⟨b, 0, none⟩) hbl).trans c0
    have d10 := (hbn.cell (p := ⟨b, 10, none⟩) hbl).trans c10
    refine hK _ _ ⟨d0, d10⟩ ?_
    clear hK K
    try simp only [Act.put, List.setIfInBounds_toArray, List.set_cons_zero, List.set_cons_succ]
    refine wpSeq_step rfl (fun K hK => ?_)
    go_simp
    refine hK _ _ ⟨d0, d10⟩ ?_
    clear hK K
    try simp only [Act.put, List.setIfInBounds_toArray, List.set_cons_zero, List.set_cons_succ]
    have r1 := hkn.cell 1
    simp only [List.getElem?_cons_zero, List.getElem?_cons_succ] at r1
    have HBN := Lib.hid hbn
    have HKN := Lib.hid hkn
    clear hbn hkn c0 c10 d0 d10
    change Exit.then _ _ Exit.normal _ _
    go_wp2_with fail
    go_ret
    exact ⟨ret_bool HR.out.symm, HBN.out⟩
  · have hl0 : 0 ≤ lf := by omega
    have HR : Hid (fitsM ov.o s.mach flat alone ds = (scanS alone s.brk (ds.map (fun d => (flat, d)) ++ behind s.mach alone) lf false).fits) := Lib.hid (by unfold fitsM; rw [if_neg (by show ¬ ov.o.width - s.col < 0; rw [← HLF.out]; exact hneg), HLF.out]; rfl)
    go_enter Tryd.func50, Tryd.ntmps50
    go_upto_region 1 with fail
    refine wp_region_seq (fun w0' => w0'.cell? ⟨b, 0, none⟩ = some (.int .i64 ov.o.width) ∧ w0'.cell? ⟨b, 10, none⟩ = some (.int .i64 s.col)) 13 2 (by kernel_rfl) rfl (by kernel_rfl) (by intro _ _ d _ _ h; cases d <;> exact h) ⟨c0, c10⟩ ?_
    simp only [List.take_succ_cons, List.take_zero, List.drop_succ_cons, List.drop_zero, List.cons_append, List.nil_append]
    repeat (refine wpHeld_step rfl ?_; apply Exists.intro; refine ⟨fun wq hq => ?_, ?_⟩; (obtain ⟨q1, q2⟩ := hq; go_simp; first | done | rfl); simp only [Act.put, List.setIfInBounds_toArray, List.set_cons_zero, List.set_cons_succ])
    change wpSeq _ _ _ _ _ _ _
    refine wpSeq_step rfl (fun K hK => ?_)
    go_simp
    have hbn : Below w0.heap.size w0 (w0.alloc (.cells #[.pointer (some ⟨b, 0, none⟩), .int .i64 lf, .slice none 0 0, .bool false, .bool alone] 102)).drew := ((Below.refl _ w0).alloc (Nat.le_refl _) _).drew
    have hkn : Blk (w0.alloc (.cells #[.pointer (some ⟨b, 0, none⟩), .int .i64 lf, .slice none 0 0, .bool false, .bool alone] 102)).drew w0.heap.size [.pointer (some ⟨b, 0, none⟩), .int .i64 lf, .slice none 0 0, .bool false, .bool alone] 102 := Blk.new' (W := w0) _ _ rfl
    obtain ⟨w, hW⟩ : ∃ w, w = (w0.alloc (.cells #[.pointer (some ⟨b, 0, none⟩), .int .i64 lf, .slice none 0 0, .bool false, .bool alone] 102)).drew := ⟨_, rfl⟩
    rw [← hW] at hbn hkn ⊢
    clear hW
    have d0 := (hbn.cell (p := ⟨b, 0, none⟩) hbl).trans c0
    have d10 := (hbn.cell (p := ⟨b, 10, none⟩) hbl).trans c10
    refine hK _ _ ⟨d0, d10⟩ ?_
    clear hK K
    try simp only [Act.put, List.setIfInBounds_toArray, List.set_cons_zero, List.set_cons_succ]
    refine wpSeq_step rfl (fun K hK => ?_)
    go_simp
    refine hK _ _ ⟨d0, d10⟩ ?_
    clear hK K
    try simp only [Act.put, List.setIfInBounds_toArray, List.set_cons_zero, List.set_cons_succ]
    have r1 := hkn.cell 1
    simp only [List.getElem?_cons_zero, List.getElem?_cons_succ] at r1
    have HBN := Lib.hid hbn
    have HKN := Lib.hid hkn
    clear hbn hkn c0 c10 d0 d10
    change Exit.then _ _ Exit.normal _ _
    have hrat := rat_new (B0 := B0) (mb := mb) (s := s) HBN.out HKN.out hl0 hlf1
    have hWs := HBN.out.size
    have HC' : Hid (∀ j (hj : j < la.length), w.cell? ⟨g, off + j, none⟩ = some (.pointer (some (la[j])))) := Lib.hid (fun j hj => (World.cell?_of_block (a := ⟨g, off + j, none⟩) (HBN.out.block g (HF.out (by rintro rfl; simp at hj)))).trans (HC.out j hj))
    obtain ⟨rb, hrb⟩ : ∃ rb, rb = w0.heap.size := ⟨_, rfl⟩
    obtain ⟨N, hN⟩ : ∃ N, N = w0.heap.size := ⟨_, rfl⟩
    obtain ⟨l, hl⟩ : ∃ l : List Cm, l = [] := ⟨_, rfl⟩
    obtain ⟨rs, hrs⟩ : ∃ rs : Value, rs = .slice none 0 0 := ⟨_, rfl⟩
    have hrs2 : w.heap.size > w0.heap.size := by have := (World.cell?_of_block (w := w) (w' := w) (a := ⟨w0.heap.size, 0, none⟩) rfl); have := HKN.out.lt; omega
    have HF' : Hid (la ≠ [] → g < w.heap.size ∧ g ≠ rb ∧ rs.ownBlock ≠ some g) := Lib.hid (fun h => ⟨by have := HF.out h; omega, by have := HF.out h; omega, by rw [hrs]; intro h; cases h⟩)
    rw [← hl, ← hrs] at hrat
    have hrat2 : RAt B0 b mb s N rb lf false alone l rs w0 w := by rw [hN, hrb]; exact hrat
    have HH := Lib.hid hrat2
    have HL0 := Lib.hid hl
    have HRS := Lib.hid hrs
    have HRBN := Lib.hid hrb
    have HNN := Lib.hid hN
    have HW' : Hid ((l.map fun c => c.d.wt).sum + wtL ds ≤ 16777216) := Lib.hid (by rw [hl]; have := HW.out; simpa using this)
    clear hrat hrat2 hl hrs hrb hN HW HF HC
    obtain ⟨HW, HF, HC⟩ := And.intro HW' (And.intro HF' HC')
    clear HW' HF' HC'
    go_wp2_with fail
    rw [← HRBN.out]
    clear r1
    go_loopw [10] (fun i wr => ∃ (k : Nat) (rk : Value) (lk : List Cm), k ≤ la.length ∧ i = .int .i64 ((k : Int) - 1) ∧ lk.map (fun c => (c.flat, c.d)) = ((ds.drop k).map fun d => (flat, d)).reverse ∧ RAt B0 b mb s N rb lf false alone (l ++ lk) rk w0 wr ∧ (∀ q, q < w.heap.size → q ≠ rb → rs.ownBlock ≠ some q → wr.heap[q]? = w.heap[q]?) ∧ (rk.ownBlock = rs.ownBlock ∨ ∃ q, rk.ownBlock = some q ∧ w.heap.size ≤ q) ∧ w.heap.size ≤ wr.heap.size) (fun i _ => (intOf i + 1).toNat)
    case atStart => exact ⟨la.length, rs, [], Nat.le_refl _, rfl, by rw [List.drop_of_length_le (by rw [HD.out.1]; exact Nat.le_refl _)]; rfl, by rw [List.append_nil]; exact HH.out, fun _ _ _ _ => rfl, .inl rfl, Nat.le_refl _⟩
    case round =>
      obtain ⟨k, rk, lk, hk, rfl, hlk, hat, hst, hrk, hsz⟩ := hrel
      have HAT := Lib.hid hat
      have HLK := Lib.hid hlk
      have HST := Lib.hid hst
      have HRK := Lib.hid hrk
      have HSZ := Lib.hid hsz
      by_cases h0 : 0 < k
      · obtain ⟨j, rfl⟩ : ∃ j, k = j + 1 := ⟨k - 1, by omega⟩
        have hjl : j < la.length := by omega
        have hl0 : la ≠ [] := by rintro rfl; simp at hjl
        obtain rfl := HA.out hl0
        have hFg := HF.out hl0
        have c2 := hat.blk.cell 2
        simp only [List.getElem?_cons_zero, List.getElem?_cons_succ] at c2
        have f2 := hat.blk.frozen 2
        have cj : wr.cell? ⟨g, off + j, none⟩ = some (.pointer (some (la[j]))) := (World.cell?_of_block (w := w) (a := ⟨g, off + j, none⟩) (hst g hFg.1 hFg.2.1 hFg.2.2)).trans (HC.out j hjl)
        obtain ⟨a, ha⟩ : ∃ a, a = la[j] := ⟨_, rfl⟩
        rw [← ha] at cj
        have hjd : j < ds.length := by rw [HD.out.1]; exact hjl
        have HCM : Hid (DocAt w0 B0 (s.F b mb w0) ds[j] a ∧ (ds[j]).shape = true ∧ (ds[j]).bulk ≤ 4194304) := Lib.hid ⟨by rw [ha]; exact HD.out.2 j hjd hjl, HOK.out _ (List.getElem_mem hjd)⟩
        have hdrop : ds.drop j = ds[j] :: ds.drop (j + 1) := List.drop_eq_getElem_cons hjd
        have HWT : Hid (((l ++ lk).map fun c => c.d.wt).sum + (ds[j]).wt ≤ 16777216) := Lib.hid (by
          have e1 : (lk.map fun c => c.d.wt).sum = wtL (ds.drop (j + 1)) := by
            have e2 : lk.map (fun c => c.d.wt) = ((lk.map fun c => (c.flat, c.d)).map fun x => x.2.wt) := by rw [List.map_map]; rfl
            rw [e2, HLK.out, List.map_reverse, List.sum_reverse, List.map_map]
            rfl
          have e3 : wtL (ds.drop j) = (ds[j]).wt + wtL (ds.drop (j + 1)) := by rw [hdrop, wtL_cons]
          have e4 := wtL_drop ds j
          have := HW.out
          rw [List.map_append, List.sum_append, e1]
          omega)
        obtain ⟨A2, c2', hvs⟩ := own_slice hat.row
        have hsl := cm_len (l ++ lk)
        have hsl2 := hat.len
        have hneb : rk.ownBlock ≠ some rb := hat.ne
        have hneg : rk.ownBlock ≠ some g := by
          rcases hrk with e | ⟨q, e, hq⟩
          · rw [e]; exact hFg.2.2
          · rw [e]; intro e2; injection e2 with e2; have := hFg.1; omega
        have HNB := Lib.hid hneb
        have HNG := Lib.hid hneg
        have HROW := Lib.hid hat.row
        have hblt := hat.blk.lt
        have hglt : g < wr.heap.size := Nat.lt_of_lt_of_le hFg.1 hsz
        have hlow : N ≤ wr.heap.size := by have := hat.low; have := hat.below.size; omega
        have HLL : Hid ((l ++ lk).length ≤ 16777216) := Lib.hid (by omega)
        rw [hvs] at c2
        have HVS := Lib.hid hvs
        have HFG := Lib.hid hFg
        obtain ⟨i0, hi0, hz0, hs0, hb0⟩ := info_cmd
        have HE := Lib.hid (And.intro hi0 (And.intro hz0 (And.intro hs0 hb0)))
        have e1 : ((j + 1 : Nat) : Int) - 1 = (j : Int) := by omega
        rw [e1]
        have hjl' : (j : Int) < (la.length : Int) := by omega
        have HDR := Lib.hid hdrop
        clear hneb hneg hvs hat hFg ha hi0 hz0 hs0 hb0 e1 h0 hl0 hk hsl hsl2 hlk hst hrk hdrop hsz
        obtain ⟨n2, hn2⟩ : ∃ n2, n2 = (l ++ lk).length := ⟨_, rfl⟩
        have HN2 := Lib.hid hn2
        rw [← hn2] at c2 HROW HVS HLL
        clear hn2
        go_wp2_with fail
        refine wp_region_chain2 (fun w' => w'.cell? ⟨rb, 2, none⟩ = some (.slice A2 n2 c2') ∧ w'.cell? ⟨g, off + j, none⟩ = some (.pointer (some a))) 10 5 _ (by kernel_rfl) rfl (by kernel_rfl) (by kernel_rfl) (by intro _ _ d _ _ h; cases d <;> exact h) ⟨c2, cj⟩ ?_
        simp only [List.take_succ_cons, List.take_zero, List.drop_succ_cons, List.drop_zero, List.cons_append, List.nil_append]
        repeat (refine wpHeld_step rfl ?_; apply Exists.intro; refine ⟨fun wq hq => ?_, ?_⟩; (obtain ⟨q1, q2⟩ := hq; go_simp; first | done | rfl); simp only [Act.put, List.setIfInBounds_toArray, List.set_cons_zero, List.set_cons_succ])
        change wpSeq _ _ _ _ _ _ _
        refine wpSeq_step rfl (fun K hK => ?_)
        go_simp
        refine hK _ _ ⟨c2, cj⟩ ?_
        clear hK K
        try simp only [Act.put, List.setIfInBounds_toArray, List.set_cons_zero, List.set_cons_succ]
        refine wpSeq_step rfl (fun K hK => ?_)
        go_simp
        have d2 := fun o => (alloc_cell wr.drew o ⟨rb, 2, none⟩ hblt).trans c2
        have dj := fun o => (alloc_cell wr.drew o ⟨g, off + j, none⟩ hglt).trans cj
        have df := fun o => (alloc_frozen wr.drew o ⟨rb, 2, none⟩ hblt).trans f2
        refine hK _ _ ⟨d2 _, dj _⟩ ?_
        clear hK K
        try simp only [Act.put, List.setIfInBounds_toArray, List.set_cons_zero, List.set_cons_succ]
        refine wpSeq_step rfl (fun K hK => ?_)
        refine wp_append_lies _ _ _ 62 rfl N 69 i0 (.agg #[.pointer none, .bool false, .pointer none]) 3 24 Tryd.underlying62 HE.out.1 HE.out.2.1 HE.out.2.2.1 HE.out.2.2.2 rfl (by omega) (.slice A2 n2 c2') n2 (cmCells (l ++ lk)) rfl (by rw [← HVS.out]; exact own_below HROW.out ((Below.refl _ wr).drew.alloc (Nat.le_refl _) _)) ⟨wr.heap.size, 0, none⟩ 1 1 [.pointer none, .bool flat, .pointer (some a)] rfl rfl (World.news_of_block (cs := #[.pointer none, .bool flat, .pointer (some a)]) (t := 69) (fr := (0, 0)) (heap_alloc_new wr.drew _)) (by simp [Value.oneCell']) (by omega) (by have := HLL.out; unfold maxLen; omega) (by have := HLL.out; omega) (by simp; omega) (wr.heap.size + 1) (by simp) ?_
        intro gg cap' w2 hown1 hgrow hat hlt
        have nb : ∀ q, (some ({ block := rb, off := q, spot := none } : Addr).block) ≠ (Value.slice A2 n2 c2').ownBlock := fun q => by rw [← HVS.out]; exact Ne.symm HNB.out
        have ng : ∀ q, (some ({ block := g, off := q, spot := none } : Addr).block) ≠ (Value.slice A2 n2 c2').ownBlock := fun q => by rw [← HVS.out]; exact Ne.symm HNG.out
        have e2 := (hgrow.cell_far ⟨rb, 2, none⟩ (by simp; omega) (nb _)).trans (d2 _)
        have ej := (hgrow.cell_far ⟨g, off + j, none⟩ (by simp; omega) (ng _)).trans (dj _)
        have ef := (hgrow.frozen_far ⟨rb, 2, none⟩ (by simp; omega) (nb _)).trans (df _)
        refine hK _ _ ⟨e2, ej⟩ ?_
        clear hK K
        try simp only [Act.put, List.setIfInBounds_toArray, List.set_cons_zero, List.set_cons_succ]
        refine wpSeq_step rfl (fun K hK => ?_)
        go_simp
        refine hK _ _ ⟨e2, ej⟩ ?_
        clear hK K
        try simp only [Act.put, List.setIfInBounds_toArray, List.set_cons_zero, List.set_cons_succ]
        refine wpSeq_step rfl (fun K hK => ?_)
        go_simp
        refine hK _ _ ⟨e2, ej⟩ ?_
        clear hK K
        try simp only [Act.put, List.setIfInBounds_toArray, List.set_cons_zero, List.set_cons_succ]
        change Oper.wp _ _ _ _ _ _
        go_simp
        have HO1 := Lib.hid hown1
        have HG := Lib.hid hgrow
        have HAP := Lib.hid hat
        clear hown1 hgrow hat e2 ej ef d2 dj df nb ng c2 cj
        go_wp2_with fail
        have hone := HAT.out.putOne ⟨[], flat, ds[j], none, a⟩ HCM.out HWT.out (gg := gg) (cap := cap') (W' := w2) (by rw [← HN2.out]; exact HO1.out) (by rw [HVS.out]; exact HG.out) (by rw [HVS.out]; simpa using HAP.out)
        rw [← HN2.out] at hone
        have hgsz := HG.out.size
        have hwsz := HSZ.out
        simp only [World.alloc] at hgsz
        refine ⟨⟨j, _, lk ++ [⟨[], flat, ds[j], none, a⟩], by omega, rfl, ?_, by rw [← List.append_assoc]; exact hone, ?_, ?_, ?_⟩, ?_⟩
        · rw [HDR.out, List.map_append, HLK.out, List.map_cons (f := fun d => (flat, d)), List.reverse_cons]
          rfl
        · intro q hq hqr hqs
          have hqk : some q ≠ (Value.slice A2 n2 c2').ownBlock := by
            rw [← HVS.out]
            rcases HRK.out with e | ⟨x, e, hx⟩
            · rw [e]; exact fun e2 => hqs e2.symm
            · rw [e]; intro e2; injection e2 with e2; omega
          rw [Below.heap_setCell w2 ⟨rb, 2, none⟩ _ q hqr, HG.out.block q (by simp; omega) hqk]
          refine (Below.heap_alloc wr.drew _ q (by show q < wr.heap.size; omega)).trans ?_
          exact HST.out q hq hqr hqs
        · rcases HAP.out with e | e
          · rcases HRK.out with e2 | ⟨x, e2, hx⟩
            · left
              rw [← e2, HVS.out, e]
              rfl
            · right
              rw [HVS.out, e] at e2
              injection e2 with e2
              exact ⟨gg, rfl, by omega⟩
          · exact .inr ⟨gg, rfl, by omega⟩
        · simp at hgsz
          simp [World.setCell]
          omega
        · simp [intOf]
      · obtain rfl : k = 0 := by omega
        obtain ⟨Y, hY⟩ : ∃ Y, Y = fitsM ov.o s.mach flat alone ds := ⟨_, rfl⟩
        have hj0 : (scanS alone s.brk (prs (l ++ lk) ++ bhd s alone s.stk.length) lf false).fits = Y := by
          rw [hY, HR.out, bhd_all, HL0.out, List.nil_append]
          unfold prs
          rw [HLK.out, List.reverse_reverse, List.drop_zero]
        have HJ0 := Lib.hid hj0
        have HYF : Hid (fitsM ov.o s.mach flat alone ds = Y) := Lib.hid hY.symm
        have hmw := hat.mat HM.out
        obtain ⟨A3, c3, hvs⟩ := own_slice hmw.stk
        have c11 := hmw.cells.2.2.2.2.2.1
        have hsl := stk_len hmw
        rw [hvs] at c11
        have HVS := Lib.hid hvs
        clear hat hst hlk hrk hvs hmw hj0 hY HR
        go_wp2_with fail
        obtain ⟨wo, hwo⟩ : ∃ wo, wo = wr := ⟨_, rfl⟩
        clear c11
        go_loopg [11] (wts (l ++ lk) + wts s.stk) (fun k i wr => ∃ (bh : Nat) (left : Int) (put : Bool) (l2 : List Cm) (rs2 : Value), i = .int .i64 (bh : Int) ∧ bh ≤ s.stk.length ∧ k = wts l2 + wts (s.stk.take bh) ∧ RAt B0 b mb s N rb left put alone l2 rs2 w0 wr ∧ (scanS alone s.brk (prs l2 ++ bhd s alone bh) left put).fits = Y)
        case atStart => exact ⟨s.stk.length, lf, false, l ++ lk, rk, rfl, Nat.le_refl _, by rw [List.take_length], HAT.out, HJ0.out⟩
        case round =>
          clear HAT HLK HST HRK HSZ HJ0 HH HC HF HD HA HOK HW HL0 HRS hwo HBN HLF
          obtain ⟨bh, left, put, l2, rs2, rfl, hbh, hgk, hat, hsc⟩ := hrel
          have HGK := Lib.hid hgk
          have HAT := Lib.hid hat
          have HSC := Lib.hid hsc
          have hrl := hat.blk.lt
          have hbl2 := (hat.mat HM.out).blk.lt
          clear hgk hat hsc
          go_upto_region 10 with fail
          have hbW : Below wr.heap.size wr (wr.alloc (.cells #[.pointer none, .bool false, .pointer none] 69)) := (Below.refl _ wr).alloc (Nat.le_refl _) _
          have hkW : Blk (wr.alloc (.cells #[.pointer none, .bool false, .pointer none] 69)) wr.heap.size [.pointer none, .bool false, .pointer none] 69 := Blk.new' (W := wr) _ _ rfl
          obtain ⟨W, hW⟩ : ∃ W, W = wr.alloc (.cells #[.pointer none, .bool false, .pointer none] 69) := ⟨_, rfl⟩
          rw [← hW] at hbW hkW ⊢
          clear hW
          have HATW := Lib.hid (HAT.out.next hbW)
          have hWs : wr.heap.size < W.heap.size := hkW.lt
          have HBW := Lib.hid hbW
          have HKW := Lib.hid hkW
          have r2 := HATW.out.blk.cell 2
          simp only [List.getElem?_cons_zero, List.getElem?_cons_succ] at r2
          clear hbW hkW
          rcases List.eq_nil_or_concat l2 with rfl | ⟨lk2, cm, rfl⟩
          · obtain ⟨A2, c2, hv2⟩ := own_slice HATW.out.row
            rw [hv2] at r2
            clear hv2
            by_cases hend : bh = 0 ∨ alone = true
            · have HY : Hid (Y = true) := Lib.hid (by
                have := HSC.out
                have e : bhd s alone bh = [] := by
                  unfold bhd
                  rcases hend with rfl | rfl
                  · cases alone <;> rfl
                  · rfl
                rw [e] at this
                exact this.symm)
              rcases hend with rfl | rfl
              · go_wp2_with fail
                go_ret
                exact ⟨ret_bool (HYF.out.trans HY.out).symm, by rw [← HNN.out]; exact HATW.out.below⟩
              · by_cases hb0 : bh = 0
                · obtain rfl := hb0
                  go_wp2_with fail
                  go_ret
                  exact ⟨ret_bool (HYF.out.trans HY.out).symm, by rw [← HNN.out]; exact HATW.out.below⟩
                · have hbi : ((bh : Int) = 0) = False := eq_false (by omega)
                  have hbb : ((bh : Int) == 0) = false := by simp; omega
                  have hbd : decide ((bh : Int) = 0) = false := by simp; omega
                  go_wp2_with fail
                  go_ret
                  exact ⟨ret_bool (HYF.out.trans HY.out).symm, by rw [← HNN.out]; exact HATW.out.below⟩
            · obtain ⟨j, rfl⟩ : ∃ j, bh = j + 1 := ⟨bh - 1, by omega⟩
              obtain rfl : alone = false := by
                cases alone
                · rfl
                · exact absurd (.inr rfl) hend
              have hjl : j < s.stk.length := by omega
              have hmW := HATW.out.mat HM.out
              have c11 := hmW.cells.2.2.2.2.2.1
              obtain ⟨g3, cap3, hv3, p0, p1, p2⟩ := row_cm hmW.stk hjl
              rw [hv3] at c11
              obtain ⟨cm, hcm⟩ : ∃ cm, cm = s.stk[j] := ⟨_, rfl⟩
              rw [← hcm] at p0 p1 p2
              have HCM := Lib.hid hcm
              have HGOOD : Hid (Good w0 B0 (s.F b mb w0) cm) := Lib.hid (HM.out.good cm (List.mem_append_left _ (by rw [hcm]; exact List.getElem_mem hjl)))
              have hb0 : ¬ (((j + 1 : Nat) : Int) = 0) := by omega
              have hbb : (((j + 1 : Nat) : Int) == 0) = false := by simp; omega
              have hb1 : ((j + 1 : Nat) : Int) - 1 = (j : Int) := by omega
              have hwj : IntKind.i64.wrap (j : Int) = (j : Int) := by rw [IntKind.wrap_i64]; omega
              have hjli : (j : Int) < (s.stk.length : Int) := by omega
              clear hmW hv3 hcm hend
              have hk0 := HKW.out
              have hk1 := hk0.set 0 (.pointer cm.p)
              have hk2 := hk1.set 1 (.bool cm.flat)
              have hk3 := hk2.set 2 (.pointer (some cm.a))
              simp only [List.set_cons_zero, List.set_cons_succ] at hk1 hk2 hk3
              have hb3 : Below wr.heap.size wr (((W.setCell ⟨wr.heap.size, 0, none⟩ (.pointer cm.p)).setCell ⟨wr.heap.size, 1, none⟩ (.bool cm.flat)).setCell ⟨wr.heap.size, 2, none⟩ (.pointer (some cm.a))) := ((HBW.out.setCell (p := ⟨wr.heap.size, 0, none⟩) (Nat.le_refl _) _).setCell (p := ⟨wr.heap.size, 1, none⟩) (Nat.le_refl _) _).setCell (p := ⟨wr.heap.size, 2, none⟩) (Nat.le_refl _) _
              have z0 := hk0.cell 0
              have z1 := hk1.cell 1
              have z2 := hk2.cell 2
              have f0 := hk0.frozen 0
              have f1 := hk1.frozen 1
              have f2 := hk2.frozen 2
              simp only [List.getElem?_cons_zero, List.getElem?_cons_succ] at z0 z1 z2
              have HB3 := Lib.hid hb3
              have HK3 := Lib.hid hk3
              clear hk0 hk1 hk2 hk3 hb3
              go_upto_region 18 with fail
              obtain ⟨W3, hW3⟩ : ∃ W3, W3 = (((W.setCell ⟨wr.heap.size, 0, none⟩ (.pointer cm.p)).setCell ⟨wr.heap.size, 1, none⟩ (.bool cm.flat)).setCell ⟨wr.heap.size, 2, none⟩ (.pointer (some cm.a))) := ⟨_, rfl⟩
              rw [← hW3] at HB3 HK3 ⊢
              clear hW3 z0 z1 z2 f0 f1 f2 r2 p0 p1 p2
              have HR3 := Lib.hid (HAT.out.next HB3.out)
              have HR4 := HR3
              have b0 := HK3.out.cell 0
              have b1 := HK3.out.cell 1
              have b2 := HK3.out.cell 2
              simp only [List.getElem?_cons_zero, List.getElem?_cons_succ] at b0 b1 b2
              have HGC : Hid (DocAt w0 B0 (s.F b mb w0) cm.d cm.a ∧ cm.d.shape = true ∧ cm.d.bulk ≤ 4194304) := Lib.hid ⟨HGOOD.out.doc, HGOOD.out.ok.shape, HGOOD.out.ok.bulk⟩
              have HSTEP : Hid (wts (s.stk.take (j + 1)) = wts (s.stk.take j) + cm.d.wt) := Lib.hid (by rw [wts_step hjl, ← HCM.out])
              have HWTC : Hid ((([] : List Cm).map fun c => c.d.wt).sum + cm.d.wt ≤ 16777216) := Lib.hid (by
                have h1 := wts_take s.stk (j + 1)
                have h2 := HM.out.weight
                have h3 := HSTEP.out
                unfold MS.weight at h2
                unfold wts at h1 h3
                simp only [List.map_nil, List.sum_nil]
                omega)
              have HSC2 : Hid ((scanS false s.brk ((cm.flat, cm.d) :: bhd s false j) left put).fits = Y) := Lib.hid (by
                have h1 := HSC.out
                rw [bhd_step hjl, ← HCM.out] at h1
                exact h1)
              have HCALL := Lib.hid (read_is HM.out HR4.out cm.p cm.flat HGC.out.1 HGC.out.2.1 HGC.out.2.2 HWTC.out)
              go_wp2_with fail
              refine HCALL.out.mono ?_
              intro e w5 he
              unfold ReadEnds at he
              rcases hRD : (readS false s.brk cm.d cm.flat left put).1 with x | ⟨l5, p5⟩
              · rw [hRD] at he
                obtain ⟨rfl, hb5⟩ := he
                have HYX := Lib.hid (fits_done HSC2.out hRD)
                have HB5 := Lib.hid hb5
                clear hb5 hRD
                go_wp2_with fail
                go_ret
                exact ⟨ret_bool (HYF.out.trans HYX.out).symm, by rw [← HNN.out]; exact HB5.out⟩
              · rw [hRD] at he
                obtain ⟨rfl, rs5, l6, hl6, hr5⟩ := he
                have HSC3 := Lib.hid (fits_go HSC2.out hRD)
                have HL6 := Lib.hid hl6
                have HR5 := Lib.hid hr5
                have HW6 := Lib.hid (read_wts hl6)
                have HP6 : Hid (prs l6 = (readS false s.brk cm.d cm.flat left put).2) := Lib.hid (by unfold prs; rw [hl6, List.reverse_reverse])
                clear hl6 hr5 hRD
                go_wp2_with fail
                go_roundg (wts ([] ++ l6) + wts (s.stk.take j))
                case measure =>
                  rw [HGK.out, HSTEP.out]
                  have := HW6.out
                  rw [wts_app]
                  first | omega | (simp [wts]; omega)
                case rel => exact ⟨j, l5, p5, [] ++ l6, rs5, rfl, by omega, rfl, HR5.out, by rw [prs_app, HP6.out]; have := HSC3.out; simpa [prs] using this⟩
          · simp only [List.concat_eq_append] at *
            obtain ⟨A2, c2, hv2⟩ := own_slice HATW.out.row
            rw [hv2] at r2
            have hrow := HATW.out.row
            have hln : (lk2 ++ [cm]).length = lk2.length + 1 := by simp
            obtain ⟨g3, cap3, hv3, p0, p1, p2⟩ := row_cm hrow (j := lk2.length) (by omega)
            have e3 := hv2.symm.trans hv3
            injection e3 with e31 e32 e33
            rw [e31, e33, hln] at r2
            have hcg : (lk2 ++ [cm])[lk2.length]'(by omega) = cm := by simp
            rw [hcg] at p0 p1 p2
            rw [hln] at hv3
            obtain ⟨m, hm⟩ : ∃ m, m = lk2.length := ⟨_, rfl⟩
            rw [← hm] at r2 p0 p1 p2
            have hml : m ≤ 16777216 := by have := cm_len (lk2 ++ [cm]); have := HATW.out.len; omega
            have HV3 := Lib.hid hv3
            have HMM := Lib.hid hm
            have hm0 : (0 : Int) < ((m + 1 : Nat) : Int) := by omega
            have hm1 : ((m + 1 : Nat) : Int) - 1 = (m : Int) := by omega
            have hwm : IntKind.i64.wrap (m : Int) = (m : Int) := by rw [IntKind.wrap_i64]; omega
            have hlt1 : (m : Int) < (m : Int) + 1 := by omega
            clear hrow hln e31 e32 e33 hcg hv3 hm hv2
            have hk0 := HKW.out
            have hk1 := hk0.set 0 (.pointer cm.p)
            have hk2 := hk1.set 1 (.bool cm.flat)
            have hk3 := hk2.set 2 (.pointer (some cm.a))
            simp only [List.set_cons_zero, List.set_cons_succ] at hk1 hk2 hk3
            have hb3 : Below wr.heap.size wr (((W.setCell ⟨wr.heap.size, 0, none⟩ (.pointer cm.p)).setCell ⟨wr.heap.size, 1, none⟩ (.bool cm.flat)).setCell ⟨wr.heap.size, 2, none⟩ (.pointer (some cm.a))) := ((HBW.out.setCell (p := ⟨wr.heap.size, 0, none⟩) (Nat.le_refl _) _).setCell (p := ⟨wr.heap.size, 1, none⟩) (Nat.le_refl _) _).setCell (p := ⟨wr.heap.size, 2, none⟩) (Nat.le_refl _) _
            have z0 := hk0.cell 0
            have z1 := hk1.cell 1
            have z2 := hk2.cell 2
            have f0 := hk0.frozen 0
            have f1 := hk1.frozen 1
            have f2 := hk2.frozen 2
            simp only [List.getElem?_cons_zero, List.getElem?_cons_succ] at z0 z1 z2
            have HB3 := Lib.hid hb3
            have HK3 := Lib.hid hk3
            clear hk0 hk1 hk2 hk3 hb3
            go_upto_region 15 with fail
            obtain ⟨W3, hW3⟩ : ∃ W3, W3 = (((W.setCell ⟨wr.heap.size, 0, none⟩ (.pointer cm.p)).setCell ⟨wr.heap.size, 1, none⟩ (.bool cm.flat)).setCell ⟨wr.heap.size, 2, none⟩ (.pointer (some cm.a))) := ⟨_, rfl⟩
            rw [← hW3] at HB3 HK3 ⊢
            clear hW3 z0 z1 z2 f0 f1 f2 r2 p0 p1 p2
            have HR3 := Lib.hid (HAT.out.next HB3.out)
            have hcap1 : m + 1 ≤ cap3 := by
              have h1 := HR3.out.row
              rw [HV3.out] at h1
              rcases h1.2 with ⟨h, _⟩ | ⟨g', cap', cur, h1, _, _, h4, _⟩
              · injection h with a1 a2 a3
                cases a1
              · injection h1 with a1 a2 a3
                rw [HMM.out, a3]
                simp only [List.length_append, List.length_singleton] at h4
                exact h4
            have hcap0 : cap3 ≠ 0 := by omega
            have hcap2 : m ≤ cap3 := by omega
            have hpop := HR3.out
            rw [HV3.out] at hpop
            have hpop2 := hpop.pop
            rw [← HMM.out] at hpop2
            have r2 := hpop.blk.cell 2
            have fr2 := hpop.blk.frozen 2
            simp only [List.getElem?_cons_zero, List.getElem?_cons_succ] at r2
            rw [← HMM.out] at r2
            have HR4 := Lib.hid hpop2
            clear hpop hpop2
            have hnrb : ∀ q, (⟨wr.heap.size, q, none⟩ : Addr).block ≠ rb := fun q => by show wr.heap.size ≠ rb; omega
            have b0 := (World.cell?_of_block (w := W3) (w' := W3.setCell ⟨rb, 2, none⟩ (.slice (some ⟨g3, 0, none⟩) m cap3)) (a := ⟨wr.heap.size, 0, none⟩) (Below.heap_setCell W3 _ _ _ (hnrb 0))).trans (HK3.out.cell 0)
            have b1 := (World.cell?_of_block (w := W3) (w' := W3.setCell ⟨rb, 2, none⟩ (.slice (some ⟨g3, 0, none⟩) m cap3)) (a := ⟨wr.heap.size, 1, none⟩) (Below.heap_setCell W3 _ _ _ (hnrb 1))).trans (HK3.out.cell 1)
            have b2 := (World.cell?_of_block (w := W3) (w' := W3.setCell ⟨rb, 2, none⟩ (.slice (some ⟨g3, 0, none⟩) m cap3)) (a := ⟨wr.heap.size, 2, none⟩) (Below.heap_setCell W3 _ _ _ (hnrb 2))).trans (HK3.out.cell 2)
            simp only [List.getElem?_cons_zero, List.getElem?_cons_succ] at b0 b1 b2
            have HGC : Hid (DocAt w0 B0 (s.F b mb w0) cm.d cm.a ∧ cm.d.shape = true ∧ cm.d.bulk ≤ 4194304) := Lib.hid (HAT.out.good cm (by simp))
            have HSTEP : Hid (wts (lk2 ++ [cm]) = wts lk2 + cm.d.wt) := Lib.hid (by rw [wts_app]; simp [wts])
            have HWTC : Hid ((lk2.map fun c => c.d.wt).sum + cm.d.wt ≤ 16777216) := Lib.hid (by
              have h1 := HAT.out.len
              rw [List.map_append, List.sum_append] at h1
              simpa using h1)
            have HSC2 : Hid ((scanS alone s.brk ((cm.flat, cm.d) :: (prs lk2 ++ bhd s alone bh)) left put).fits = Y) := Lib.hid (by
              have h1 := HSC.out
              rw [prs_app] at h1
              exact h1)
            have HCALL := Lib.hid (read_is HM.out HR4.out cm.p cm.flat HGC.out.1 HGC.out.2.1 HGC.out.2.2 HWTC.out)
            go_wp2_with fail
            refine HCALL.out.mono ?_
            intro e w5 he
            unfold ReadEnds at he
            rcases hRD : (readS alone s.brk cm.d cm.flat left put).1 with x | ⟨l5, p5⟩
            · rw [hRD] at he
              obtain ⟨rfl, hb5⟩ := he
              have HYX := Lib.hid (fits_done HSC2.out hRD)
              have HB5 := Lib.hid hb5
              clear hb5 hRD
              go_wp2_with fail
              go_ret
              exact ⟨ret_bool (HYF.out.trans HYX.out).symm, by rw [← HNN.out]; exact HB5.out⟩
            · rw [hRD] at he
              obtain ⟨rfl, rs5, l6, hl6, hr5⟩ := he
              have HSC3 := Lib.hid (fits_go HSC2.out hRD)
              have HL6 := Lib.hid hl6
              have HR5 := Lib.hid hr5
              have HW6 := Lib.hid (read_wts hl6)
              have HP6 : Hid (prs l6 = (readS alone s.brk cm.d cm.flat left put).2) := Lib.hid (by unfold prs; rw [hl6, List.reverse_reverse])
              clear hl6 hr5 hRD
              go_wp2_with fail
              go_roundg (wts (lk2 ++ l6) + wts (s.stk.take bh))
              case measure =>
                rw [HGK.out, HSTEP.out]
                have := HW6.out
                rw [wts_app]
                first | omega | (simp [wts]; omega)
              case rel => exact ⟨bh, l5, p5, lk2 ++ l6, rs5, rfl, by omega, rfl, HR5.out, by rw [prs_app, HP6.out]; have := HSC3.out; rw [List.append_assoc]; exact this⟩
end Go.Proofs.YthljgiimdcbfpaaDoor
