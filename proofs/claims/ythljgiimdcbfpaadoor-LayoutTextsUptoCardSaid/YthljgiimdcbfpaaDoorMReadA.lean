/- Package layout: the reader in memory; its push; a region of loads and a chain. -/
import Derived.Test.YthljgiimdcbfpaaDoorMMach
import Derived.Test.YthljgiimdcbfpaaDoorMDoc
namespace Go.Proofs.YthljgiimdcbfpaaDoor
section
open Go.RowKit
set_option maxRecDepth 100000
set_option linter.unusedVariables false
set_option linter.unusedSimpArgs false

/-- A REGION THAT DRAWS ITS ORDER: n loads ahead, then a chain. -/
theorem wp_region_seq {P : Program} {id : Nat} {a : Act} {w : World} {l : List Oper} {Q : Exit → Act → World → Prop} (S : World → Prop) (n m : Nat) (hm : P.follows .mixedOrders = true) (hlen : l.length = n + m)
    (hB : (Region.noSelect l.toArray && lexHead .any l.toArray m n 0 (Array.replicate (n + m) false)) = true)
    (hQ : ∀ c a d v w, Q (.panic c) (Act.put a d v) w → Q (.panic c) a w) (hS : S w.drew)
    (h : wpHeld P l.toArray S (fun a' => wpSeq P l.toArray S Q (l.drop n) a' w.drew) (l.take n) a) : (Code.region id l.toArray true).wp P Q a w := by
  rw [Bool.and_eq_true] at hB
  refine wp_region_any hm ?_
  have hsz : l.toArray.size = n + m := by simp [hlen]
  have l1 : (l.take n).length = n := by rw [List.length_take]; omega
  have l2 : (l.drop n).length = m := by rw [List.length_drop]; omega
  rw [hsz]
  refine wpAny_of_held (S := S) _ _ _ _ ?_
  have := wpAnyH_held (P := P) (md := .any) (ops := l.toArray) (S := S) (Q := Q) hB.1 (fun c a d v w hh => hQ c a d v w hh) (l.drop n) w.drew hS (l.take n) 0 (Array.replicate (n + m) false) a
    (fun j hj => by rw [l1] at hj; simp [List.getElem?_take, hj]) (fun j => by rw [l1]; simp [List.getElem?_drop]) (by rw [l1, l2]; exact hB.2) h
  rwa [l1, l2] at this

/-- What a reader is asked about: the machine below it, and where it lies. -/
structure RAt (B0 b mb : Nat) (s : MS) (N rb : Nat) (left : Int) (put alone : Bool) (l : List Cm) (rs : Value) (w0 w : World) : Prop where
  below : Below N w0 w
  blk : Blk w rb [.pointer (some ⟨b, 0, none⟩), .int .i64 left, rs, .bool put, .bool alone] 102
  row : w.ownsRow N 69 3 rs l.length (cmCells l)
  lowb : N ≤ rb
  low : w0.heap.size = N
  good : ∀ c ∈ l, DocAt w0 B0 (s.F b mb w0) c.d c.a ∧ c.d.shape = true ∧ c.d.bulk ≤ 4194304
  ne : rs.ownBlock ≠ some rb
  left0 : 0 ≤ left
  left1 : left ≤ 10000
  len : (l.map fun c => c.d.wt).sum ≤ 16777216
theorem cm_len (l : List Cm) : l.length ≤ (l.map fun c => c.d.wt).sum := by
  induction l with
  | nil => simp
  | cons a l ih =>
    have := a.d.nodes_pos
    simp only [List.length_cons, List.map_cons, List.sum_cons]
    unfold Doc.wt at *
    omega
section
variable {B0 b mb : Nat} {ov : OptV} {s : MS} {N rb : Nat} {left : Int} {put alone : Bool} {l : List Cm} {rs : Value} {w0 w w' : World}
theorem RAt.next (h : RAt B0 b mb s N rb left put alone l rs w0 w) (hb : Below w.heap.size w w') : RAt B0 b mb s N rb left put alone l rs w0 w' :=
  { below := h.below.trans (hb.mono (by have := h.below.size; have := h.low; omega)), blk := h.blk.below hb, row := own_below h.row hb, lowb := h.lowb, low := h.low, good := h.good, ne := h.ne, left0 := h.left0, left1 := h.left1, len := h.len }
theorem RAt.bel (h : RAt B0 b mb s N rb left put alone l rs w0 w) : Below w0.heap.size w0 w := h.low ▸ h.below
theorem RAt.mat (h : RAt B0 b mb s N rb left put alone l rs w0 w) (hm : MAt B0 b mb ov s w0) : MAt B0 b mb ov s w := hm.below h.bel
/-- A document of the beginning lies there still. -/
theorem RAt.doc (h : RAt B0 b mb s N rb left put alone l rs w0 w) (hm : MAt B0 b mb ov s w0) {d : Doc} {a : Addr} (hd : DocAt w0 B0 (s.F b mb w0) d a) : DocAt w B0 (s.F b mb w) d a := hm.doc_goes (Goes.of_below h.bel) hd
/-- What is left stored. -/
theorem RAt.setLeft (h : RAt B0 b mb s N rb left put alone l rs w0 w) (y : Int) (h0 : 0 ≤ y) (h1 : y ≤ 10000) : RAt B0 b mb s N rb y put alone l rs w0 (w.setCell ⟨rb, 1, none⟩ (.int .i64 y)) :=
  { below := h.below.setCell (p := ⟨rb, 1, none⟩) h.lowb _, blk := h.blk.set 1 _, row := own_setCell h.row _ _ (fun k hk e => h.ne (by rw [hk]; exact congrArg some e)), lowb := h.lowb, low := h.low, good := h.good, ne := h.ne, left0 := h0, left1 := h1, len := h.len }
theorem RAt.setPut (h : RAt B0 b mb s N rb left put alone l rs w0 w) : RAt B0 b mb s N rb left true alone l rs w0 (w.setCell ⟨rb, 3, none⟩ (.bool true)) :=
  { below := h.below.setCell (p := ⟨rb, 3, none⟩) h.lowb _, blk := h.blk.set 3 _, row := own_setCell h.row _ _ (fun k hk e => h.ne (by rw [hk]; exact congrArg some e)), lowb := h.lowb, low := h.low, good := h.good, ne := h.ne, left0 := h.left0, left1 := h.left1, len := h.len }
/-- One command more. -/
theorem RAt.putOne (h : RAt B0 b mb s N rb left put alone l rs w0 w) (c : Cm) (hc : DocAt w0 B0 (s.F b mb w0) c.d c.a ∧ c.d.shape = true ∧ c.d.bulk ≤ 4194304) (hw : (l.map fun c => c.d.wt).sum + c.d.wt ≤ 16777216)
    {gg cap : Nat} {W' : World} (ho : W'.ownsRow N 69 3 (.slice (some ⟨gg, 0, none⟩) (l.length + 1) cap) (l.length + 1) (cmCells l ++ c.cells))
    (hg : (w.drew.alloc (.cells c.cells.toArray 69)).grownBy W' rs.ownBlock) (hat : rs.ownBlock = some gg ∨ gg = (w.drew.alloc (.cells c.cells.toArray 69)).heap.size) :
    RAt B0 b mb s N rb left put alone (l ++ [c]) (.slice (some ⟨gg, 0, none⟩) (l.length + 1) cap) w0 (W'.setCell ⟨rb, 2, none⟩ (.slice (some ⟨gg, 0, none⟩) (l.length + 1) cap)) := by
  have hb : Below w.heap.size w (w.drew.alloc (.cells c.cells.toArray 69)) := (Below.refl _ w).drew.alloc (Nat.le_refl _) _
  have ha := h.next hb
  have hrl := h.blk.lt
  have hgg : gg ≠ rb := by
    rcases hat with hat | hat
    · intro e; exact h.ne (by rw [hat, e])
    · simp at hat; omega
  have hlow := h.low
  have hsz := ha.below.size
  refine { below := (ha.below.grown hg (by omega) (fun k hk => (h.row.lt k hk).1)).setCell (p := ⟨rb, 2, none⟩) h.lowb _, blk := (ha.blk.grown hg (fun e => h.ne e.symm)).set 2 _, row := ?_, lowb := h.lowb, low := h.low, good := ?_, ne := ?_, left0 := h.left0, left1 := h.left1, len := ?_ }
  · rw [List.length_append, List.length_singleton, cmCells_snoc]
    exact own_setCell ho _ _ (fun k hk => by have e : gg = k := by simpa [Value.ownBlock] using hk
                                             show k ≠ rb
                                             omega)
  · intro x hx
    rcases List.mem_append.1 hx with hx | hx
    · exact h.good x hx
    · rw [List.mem_singleton.1 hx]; exact hc
  · simp [Value.ownBlock]; exact hgg
  · simpa using hw
end

set_option maxHeartbeats 16000000 in
theorem rpush_is {B0 b mb : Nat} {ov : OptV} {s : MS} {N rb bx : Nat} {left : Int} {put alone : Bool} {l : List Cm} {rs : Value} {w0 w : World} (hm : MAt B0 b mb ov s w0) (h : RAt B0 b mb s N rb left put alone l rs w0 w) (flat : Bool) {v : Value} {ds : List Doc} {la : List Addr}
    (hx : w.cell? ⟨bx, 0, none⟩ = some (.pointer (some ⟨rb, 0, none⟩))) (hxN : N ≤ bx) (hxr : bx ≠ rb) (hxs : rs.ownBlock ≠ some bx)
    (hp : PtrsAt w (fun k => k < w.heap.size ∧ k ≠ rb ∧ rs.ownBlock ≠ some k) v la) (hd : DocsAt w0 B0 (s.F b mb w0) ds la) (hok : ∀ d ∈ ds, d.shape = true ∧ d.bulk ≤ 4194304) (hw : (l.map fun c => c.d.wt).sum + wtL ds ≤ 16777216) :
    Calls Tryd.prog 66 #[.bool flat, v, .pointer (some ⟨bx, 0, none⟩)] w fun e w' => e = .returned (.tuple #[]) ∧ ∃ rs' l', l'.map (fun c => (c.flat, c.d)) = (ds.map fun d => (flat, d)).reverse ∧ RAt B0 b mb s N rb left put alone (l ++ l') rs' w0 w' ∧ ∀ q, q < w.heap.size → q ≠ rb → rs.ownBlock ≠ some q → w'.heap[q]? = w.heap[q]? := by
  obtain ⟨g, off, c, hF, ⟨A, rfl, hA⟩, hcell⟩ := hp
  have hwl : ds.length ≤ wtL ds := by
    clear hok hw hd
    induction ds with
    | nil => simp [wtL]
    | cons a t ih =>
      have := a.nodes_pos
      simp only [wtL, List.length_cons, List.map_cons, List.sum_cons] at *
      unfold Doc.wt at *
      omega
  have hlen : la.length ≤ 16777216 := by have := hd.1; omega
  have HH := Lib.hid h
  have HM := Lib.hid hm
  have HD := Lib.hid hd
  have HOK := Lib.hid hok
  have HW := Lib.hid hw
  have HC := Lib.hid hcell
  have HF := Lib.hid hF
  have HA := Lib.hid hA
  have HX := Lib.hid hx
  have HXS := Lib.hid hxs
  have hxl := World.block_lt_of_cell? w _ hx
  clear h hm hd hok hw hcell hF hA hx hxs
  go_enter Tryd.func66, Tryd.ntmps66
  go_wp2_with fail
  go_loopw [5] (fun i wr => ∃ (k : Nat) (rk : Value) (lk : List Cm), k ≤ la.length ∧ i = .int .i64 ((k : Int) - 1) ∧ lk.map (fun c => (c.flat, c.d)) = ((ds.drop k).map fun d => (flat, d)).reverse ∧ RAt B0 b mb s N rb left put alone (l ++ lk) rk w0 wr ∧ (∀ q, q < w.heap.size → q ≠ rb → rs.ownBlock ≠ some q → wr.heap[q]? = w.heap[q]?) ∧ (rk.ownBlock = rs.ownBlock ∨ ∃ q, rk.ownBlock = some q ∧ w.heap.size ≤ q) ∧ w.heap.size ≤ wr.heap.size) (fun i _ => (intOf i + 1).toNat)
  case atStart => exact ⟨la.length, rs, [], Nat.le_refl _, rfl, by rw [List.drop_of_length_le (by rw [HD.out.1]; exact Nat.le_refl _)]; rfl, by rw [List.append_nil]; exact HH.out, fun _ _ _ _ => rfl, .inl rfl, Nat.le_refl _⟩
  case round =>
    obtain ⟨k, rk, lk, hk, rfl, hlk, hat, hst, hrk, hsz⟩ := hrel
    have HAT := Lib.hid hat
    have HLK := Lib.hid hlk
    have HST := Lib.hid hst
    have HRK := Lib.hid hrk
    have HSZ := Lib.hid hsz
    by_cases h0 : 0 < k
    · obtain ⟨j, rfl⟩ : ∃ j, k = j + 1 := ⟨k - 1, by omega⟩
      have hjl : j < la.length := by omega
      have hl0 : la ≠ [] := by rintro rfl; simp at hjl
      obtain rfl := HA.out hl0
      have hFg := HF.out hl0
      have c2 := hat.blk.cell 2
      simp only [List.getElem?_cons_zero, List.getElem?_cons_succ] at c2
      have f2 := hat.blk.frozen 2
      have cx : wr.cell? ⟨bx, 0, none⟩ = some (.pointer (some ⟨rb, 0, none⟩)) := (World.cell?_of_block (w := w) (a := ⟨bx, 0, none⟩) (hst bx hxl hxr HXS.out)).trans HX.out
      have cj : wr.cell? ⟨g, off + j, none⟩ = some (.pointer (some (la[j]))) := (World.cell?_of_block (w := w) (a := ⟨g, off + j, none⟩) (hst g hFg.1 hFg.2.1 hFg.2.2)).trans (HC.out j hjl)
      obtain ⟨a, ha⟩ : ∃ a, a = la[j] := ⟨_, rfl⟩
      rw [← ha] at cj
      have hjd : j < ds.length := by rw [HD.out.1]; exact hjl
      have HCM : Hid (DocAt w0 B0 (s.F b mb w0) ds[j] a ∧ (ds[j]).shape = true ∧ (ds[j]).bulk ≤ 4194304) := Lib.hid ⟨by rw [ha]; exact HD.out.2 j hjd hjl, HOK.out _ (List.getElem_mem hjd)⟩
      have hdrop : ds.drop j = ds[j] :: ds.drop (j + 1) := List.drop_eq_getElem_cons hjd
      have HWT : Hid (((l ++ lk).map fun c => c.d.wt).sum + (ds[j]).wt ≤ 16777216) := Lib.hid (by
        have e1 : (lk.map fun c => c.d.wt).sum = wtL (ds.drop (j + 1)) := by
          have e2 : lk.map (fun c => c.d.wt) = ((lk.map fun c => (c.flat, c.d)).map fun x => x.2.wt) := by rw [List.map_map]; rfl
          rw [e2, HLK.out, List.map_reverse, List.sum_reverse, List.map_map]
          rfl
        have e3 : wtL (ds.drop j) = (ds[j]).wt + wtL (ds.drop (j + 1)) := by rw [hdrop, wtL_cons]
        have e4 := wtL_drop ds j
        have := HW.out
        rw [List.map_append, List.sum_append, e1]
        omega)
      obtain ⟨A2, c2', hvs⟩ := own_slice hat.row
      have hsl := cm_len (l ++ lk)
      have hsl2 := hat.len
      have hneb : rk.ownBlock ≠ some rb := hat.ne
      have hneg : rk.ownBlock ≠ some g := by
        rcases hrk with e | ⟨q, e, hq⟩
        · rw [e]; exact hFg.2.2
        · rw [e]; intro e2; injection e2 with e2; have := hFg.1; omega
      have hnex : rk.ownBlock ≠ some bx := by
        rcases hrk with e | ⟨q, e, hq⟩
        · rw [e]; exact HXS.out
        · rw [e]; intro e2; injection e2 with e2; omega
      have HNB := Lib.hid hneb
      have HNG := Lib.hid hneg
      have HNX := Lib.hid hnex
      have HROW := Lib.hid hat.row
      have hblt := hat.blk.lt
      have hglt : g < wr.heap.size := Nat.lt_of_lt_of_le hFg.1 hsz
      have hxlt : bx < wr.heap.size := Nat.lt_of_lt_of_le hxl hsz
      have hlow : N ≤ wr.heap.size := by have := hat.low; have := hat.below.size; omega
      have HLL : Hid ((l ++ lk).length ≤ 16777216) := Lib.hid (by omega)
      rw [hvs] at c2
      have HVS := Lib.hid hvs
      have HFG := Lib.hid hFg
      obtain ⟨i0, hi0, hz0, hs0, hb0⟩ := info_cmd
      have HE := Lib.hid (And.intro hi0 (And.intro hz0 (And.intro hs0 hb0)))
      have e1 : ((j + 1 : Nat) : Int) - 1 = (j : Int) := by omega
      rw [e1]
      have hjl' : (j : Int) < (la.length : Int) := by omega
      have HDR := Lib.hid hdrop
      clear hneb hneg hnex hvs hat hFg ha hi0 hz0 hs0 hb0 e1 h0 hl0 hk hsl hsl2 hlk hst hrk hdrop hsz
      obtain ⟨n2, hn2⟩ : ∃ n2, n2 = (l ++ lk).length := ⟨_, rfl⟩
      have HN2 := Lib.hid hn2
      rw [← hn2] at c2 HROW HVS HLL
      clear hn2
      go_wp2_with fail
      refine wp_region_chain2 (fun w' => w'.cell? ⟨rb, 2, none⟩ = some (.slice A2 n2 c2') ∧ w'.cell? ⟨g, off + j, none⟩ = some (.pointer (some a)) ∧ w'.cell? ⟨bx, 0, none⟩ = some (.pointer (some ⟨rb, 0, none⟩))) 10 5 _ (by kernel_rfl) rfl (by kernel_rfl) (by kernel_rfl) (by intro _ _ d _ _ h; cases d <;> exact h) ⟨c2, cj, cx⟩ ?_
      simp only [List.take_succ_cons, List.take_zero, List.drop_succ_cons, List.drop_zero, List.cons_append, List.nil_append]
      repeat (refine wpHeld_step rfl ?_; apply Exists.intro; refine ⟨fun wq hq => ?_, ?_⟩; (obtain ⟨q1, q2, q3⟩ := hq; go_simp; first | done | rfl); simp only [Act.put, List.setIfInBounds_toArray, List.set_cons_zero, List.set_cons_succ])
      change wpSeq _ _ _ _ _ _ _
      refine wpSeq_step rfl (fun K hK => ?_)
      go_simp
      refine hK _ _ ⟨c2, cj, cx⟩ ?_
      clear hK K
      try simp only [Act.put, List.setIfInBounds_toArray, List.set_cons_zero, List.set_cons_succ]
      refine wpSeq_step rfl (fun K hK => ?_)
      go_simp
      have d2 := fun o => (alloc_cell wr.drew o ⟨rb, 2, none⟩ hblt).trans c2
      have dj := fun o => (alloc_cell wr.drew o ⟨g, off + j, none⟩ hglt).trans cj
      have dx := fun o => (alloc_cell wr.drew o ⟨bx, 0, none⟩ hxlt).trans cx
      have df := fun o => (alloc_frozen wr.drew o ⟨rb, 2, none⟩ hblt).trans f2
      refine hK _ _ ⟨d2 _, dj _, dx _⟩ ?_
      clear hK K
      try simp only [Act.put, List.setIfInBounds_toArray, List.set_cons_zero, List.set_cons_succ]
      refine wpSeq_step rfl (fun K hK => ?_)
      refine wp_append_lies _ _ _ 62 rfl N 69 i0 (.agg #[.pointer none, .bool false, .pointer none]) 3 24 Tryd.underlying62 HE.out.1 HE.out.2.1 HE.out.2.2.1 HE.out.2.2.2 rfl (by omega) (.slice A2 n2 c2') n2 (cmCells (l ++ lk)) rfl (by rw [← HVS.out]; exact own_below HROW.out ((Below.refl _ wr).drew.alloc (Nat.le_refl _) _)) ⟨wr.heap.size, 0, none⟩ 1 1 [.pointer none, .bool flat, .pointer (some a)] rfl rfl (World.news_of_block (cs := #[.pointer none, .bool flat, .pointer (some a)]) (t := 69) (fr := (0, 0)) (heap_alloc_new wr.drew _)) (by simp [Value.oneCell']) (by omega) (by have := HLL.out; unfold maxLen; omega) (by have := HLL.out; omega) (by simp; omega) (wr.heap.size + 1) (by simp) ?_
      intro gg cap' w2 hown1 hgrow hat hlt
      have nb : ∀ q, (some ({ block := rb, off := q, spot := none } : Addr).block) ≠ (Value.slice A2 n2 c2').ownBlock := fun q => by rw [← HVS.out]; exact Ne.symm HNB.out
      have ng : ∀ q, (some ({ block := g, off := q, spot := none } : Addr).block) ≠ (Value.slice A2 n2 c2').ownBlock := fun q => by rw [← HVS.out]; exact Ne.symm HNG.out
      have nx : ∀ q, (some ({ block := bx, off := q, spot := none } : Addr).block) ≠ (Value.slice A2 n2 c2').ownBlock := fun q => by rw [← HVS.out]; exact Ne.symm HNX.out
      have e2 := (hgrow.cell_far ⟨rb, 2, none⟩ (by simp; omega) (nb _)).trans (d2 _)
      have ej := (hgrow.cell_far ⟨g, off + j, none⟩ (by simp; omega) (ng _)).trans (dj _)
      have ex := (hgrow.cell_far ⟨bx, 0, none⟩ (by simp; omega) (nx _)).trans (dx _)
      have ef := (hgrow.frozen_far ⟨rb, 2, none⟩ (by simp; omega) (nb _)).trans (df _)
      refine hK _ _ ⟨e2, ej, ex⟩ ?_
      clear hK K
      try simp only [Act.put, List.setIfInBounds_toArray, List.set_cons_zero, List.set_cons_succ]
      refine wpSeq_step rfl (fun K hK => ?_)
      go_simp
      refine hK _ _ ⟨e2, ej, ex⟩ ?_
      clear hK K
      try simp only [Act.put, List.setIfInBounds_toArray, List.set_cons_zero, List.set_cons_succ]
      refine wpSeq_step rfl (fun K hK => ?_)
      go_simp
      refine hK _ _ ⟨e2, ej, ex⟩ ?_
      clear hK K
      try simp only [Act.put, List.setIfInBounds_toArray, List.set_cons_zero, List.set_cons_succ]
      change Oper.wp _ _ _ _ _ _
      go_simp
      have HO1 := Lib.hid hown1
      have HG := Lib.hid hgrow
      have HAP := Lib.hid hat
      clear hown1 hgrow hat e2 ej ex ef d2 dj dx df nb ng nx c2 cj cx
      go_wp2_with fail
      have hone := HAT.out.putOne ⟨[], flat, ds[j], none, a⟩ HCM.out HWT.out (gg := gg) (cap := cap') (W' := w2) (by rw [← HN2.out]; exact HO1.out) (by rw [HVS.out]; exact HG.out) (by rw [HVS.out]; simpa using HAP.out)
      rw [← HN2.out] at hone
      have hgsz := HG.out.size
      have hwsz := HSZ.out
      simp only [World.alloc] at hgsz
      refine ⟨⟨j, _, lk ++ [⟨[], flat, ds[j], none, a⟩], by omega, rfl, ?_, by rw [← List.append_assoc]; exact hone, ?_, ?_, ?_⟩, ?_⟩
      · rw [HDR.out, List.map_append, HLK.out, List.map_cons (f := fun d => (flat, d)), List.reverse_cons]
        rfl
      · intro q hq hqr hqs
        have hqk : some q ≠ (Value.slice A2 n2 c2').ownBlock := by
          rw [← HVS.out]
          rcases HRK.out with e | ⟨x, e, hx⟩
          · rw [e]; exact fun e2 => hqs e2.symm
          · rw [e]; intro e2; injection e2 with e2; omega
        rw [Below.heap_setCell w2 ⟨rb, 2, none⟩ _ q hqr, HG.out.block q (by simp; omega) hqk]
        refine (Below.heap_alloc wr.drew _ q (by show q < wr.heap.size; omega)).trans ?_
        exact HST.out q hq hqr hqs
      · rcases HAP.out with e | e
        · rcases HRK.out with e2 | ⟨x, e2, hx⟩
          · left
            rw [← e2, HVS.out, e]
            rfl
          · right
            rw [HVS.out, e] at e2
            injection e2 with e2
            exact ⟨gg, rfl, by omega⟩
        · exact .inr ⟨gg, rfl, by omega⟩
      · simp at hgsz
        simp [World.setCell]
        omega
      · simp [intOf]
    · obtain rfl : k = 0 := by omega
      clear hat hlk hst hrk hsz
      go_wp2_with fail
      go_end0
      exact ⟨rfl, rk, lk, by simpa using HLK.out, HAT.out, HST.out⟩
end

section
open Go.RowKit
set_option linter.unusedVariables false
set_option linter.unusedSimpArgs false

def lastD (ks : List Doc) : List Doc := (ks.getLast?).toList
def readS (alone : Bool) (brk : Int → Bool) (d : Doc) (flat : Bool) (left : Int) (put : Bool) : Scan × List (Bool × Doc) :=
  if d.kind = 1 then (if left - (widthB d.text : Int) < 0 then (.done false, []) else (.go (left - (widthB d.text : Int)) put, []))
  else if d.kind = 2 ∨ d.kind = 9 ∨ d.kind = 11 ∨ d.kind = 12 ∨ d.kind = 13 then (.go left put, d.kids.map fun x => (flat, x))
  else if d.kind = 7 then (if d.brk && alone then (.done false, []) else (.go left put, (kid0 d.kids).map fun x => (flat && !d.brk, x)))
  else if d.kind = 8 then (if d.brk && alone then (.done false, []) else if d.brk then (.go left put, (lastD d.kids).map fun x => (false, x)) else (.go left put, (kid0 d.kids).map fun x => (flat, x)))
  else if d.kind = 10 then (.go left put, (if modeB brk d.id flat then kid1 d.kids else kid0 d.kids).map fun x => (flat, x))
  else if d.kind = 3 then (if flat then (if left - 1 < 0 then (.done false, []) else (.go (left - 1) put, [])) else (.done true, []))
  else if d.kind = 4 then (if flat then (.go left put, []) else (.done true, []))
  else if d.kind = 5 ∨ d.kind = 6 then (.done true, [])
  else if d.kind = 14 then (.go left true, [])
  else if d.kind = 15 then (if put then (.done true, []) else (.go left put, []))
  else (.go left put, [])
def thenS (alone : Bool) (brk : Int → Bool) (rest : List (Bool × Doc)) (r : Scan × List (Bool × Doc)) : Scan :=
  match r.1 with
  | .done b => .done b
  | .go l p => scanS alone brk (r.2 ++ rest) l p
theorem scanS_app (alone : Bool) (brk : Int → Bool) : ∀ (a b : List (Bool × Doc)) (l : Int) (p : Bool), scanS alone brk (a ++ b) l p = match scanS alone brk a l p with
    | .done x => .done x
    | .go l p => scanS alone brk b l p
  | [], b, l, p => rfl
  | c :: a, b, l, p => by
    simp only [List.cons_append, scanS]
    cases c.2.scan alone brk c.1 l p with
    | done x => rfl
    | go l2 p2 => exact scanS_app alone brk a b l2 p2
theorem scanS_L (alone : Bool) (brk : Int → Bool) (flat : Bool) : ∀ (ks : List Doc) (l : Int) (p : Bool), scanS alone brk (ks.map fun x => (flat, x)) l p = scanL alone brk ks flat l p
  | [], l, p => rfl
  | d :: ks, l, p => by
    simp only [List.map_cons, scanS, scanL]
    cases d.scan alone brk flat l p with
    | done x => rfl
    | go l2 p2 => exact scanS_L alone brk flat ks l2 p2
theorem scanS_one (alone : Bool) (brk : Int → Bool) (flat : Bool) (d : Doc) (l : Int) (p : Bool) : scanS alone brk [(flat, d)] l p = d.scan alone brk flat l p := by
  simp only [scanS]
  cases d.scan alone brk flat l p <;> rfl
theorem scanS_H (alone : Bool) (brk : Int → Bool) (flat : Bool) (ks : List Doc) (l : Int) (p : Bool) : scanS alone brk ((kid0 ks).map fun x => (flat, x)) l p = scanH alone brk ks flat l p := by
  cases ks with
  | nil => rfl
  | cons d ks => exact scanS_one alone brk flat d l p
theorem scanS_T (alone : Bool) (brk : Int → Bool) (flat : Bool) (ks : List Doc) (l : Int) (p : Bool) : scanS alone brk ((kid1 ks).map fun x => (flat, x)) l p = scanT alone brk ks flat l p := by
  cases ks with
  | nil => rfl
  | cons d ks => exact scanS_H alone brk flat ks l p
theorem scanS_Z (alone : Bool) (brk : Int → Bool) (flat : Bool) : ∀ (ks : List Doc) (l : Int) (p : Bool), scanS alone brk ((lastD ks).map fun x => (flat, x)) l p = scanZ alone brk ks flat l p
  | [], l, p => rfl
  | [d], l, p => scanS_one alone brk flat d l p
  | d :: e :: ks, l, p => by
    have : lastD (d :: e :: ks) = lastD (e :: ks) := by simp [lastD]
    rw [this, scanS_Z alone brk flat (e :: ks) l p]
    rfl
theorem then_done (b : Bool) (l : List (Bool × Doc)) (alone : Bool) (brk : Int → Bool) (rest : List (Bool × Doc)) : thenS alone brk rest (.done b, l) = .done b := rfl
theorem then_go (x : Int) (p : Bool) (l : List (Bool × Doc)) (alone : Bool) (brk : Int → Bool) (rest : List (Bool × Doc)) : thenS alone brk rest (.go x p, l) = scanS alone brk (l ++ rest) x p := rfl
/-- ONE STEP of reading on. -/
theorem scan_read (alone : Bool) (brk : Int → Bool) (d : Doc) (flat : Bool) (left : Int) (put : Bool) : d.scan alone brk flat left put = thenS alone brk [] (readS alone brk d flat left put) := by
  obtain ⟨k, t, ks, b, i, y⟩ := d
  have h10 : scanS alone brk ((if modeB brk i flat then kid1 ks else kid0 ks).map fun x => (flat, x)) left put = if modeB brk i flat then scanT alone brk ks flat left put else scanH alone brk ks flat left put := by
    split
    · exact scanS_T alone brk flat ks left put
    · exact scanS_H alone brk flat ks left put
  have h0 : ∀ (l : Int) (p : Bool), scanS alone brk [] l p = .go l p := fun _ _ => rfl
  have hR : readS alone brk (.mk k t ks b i y) flat left put = (if k = 1 then (if left - (widthB t : Int) < 0 then (.done false, []) else (.go (left - (widthB t : Int)) put, []))
  else if k = 2 ∨ k = 9 ∨ k = 11 ∨ k = 12 ∨ k = 13 then (.go left put, ks.map fun x => (flat, x))
  else if k = 7 then (if b && alone then (.done false, []) else (.go left put, (kid0 ks).map fun x => (flat && !b, x)))
  else if k = 8 then (if b && alone then (.done false, []) else if b then (.go left put, (lastD ks).map fun x => (false, x)) else (.go left put, (kid0 ks).map fun x => (flat, x)))
  else if k = 10 then (.go left put, (if modeB brk i flat then kid1 ks else kid0 ks).map fun x => (flat, x))
  else if k = 3 then (if flat then (if left - 1 < 0 then (.done false, []) else (.go (left - 1) put, [])) else (.done true, []))
  else if k = 4 then (if flat then (.go left put, []) else (.done true, []))
  else if k = 5 ∨ k = 6 then (.done true, [])
  else if k = 14 then (.go left true, [])
  else if k = 15 then (if put then (.done true, []) else (.go left put, []))
  else (.go left put, [])) := rfl
  rw [hR]
  simp only [apply_ite (thenS alone brk []), then_done, then_go, List.append_nil, h10, h0, scanS_H, scanS_Z]
  simp only [scanS_L]
  unfold Doc.scan
  rfl
theorem scanS_step (alone : Bool) (brk : Int → Bool) (flat : Bool) (d : Doc) (rest : List (Bool × Doc)) (left : Int) (put : Bool) : scanS alone brk ((flat, d) :: rest) left put = thenS alone brk rest (readS alone brk d flat left put) := by
  show (match d.scan alone brk flat left put with
    | Scan.done b => Scan.done b
    | Scan.go l p => scanS alone brk rest l p) = _
  rw [scan_read]
  generalize readS alone brk d flat left put = r
  obtain ⟨x, ps⟩ := r
  cases x with
  | done b => rfl
  | go l p =>
    show (match scanS alone brk (ps ++ []) l p with
      | Scan.done b => Scan.done b
      | Scan.go l p => scanS alone brk rest l p) = scanS alone brk (ps ++ rest) l p
    rw [List.append_nil, scanS_app]
end

section
open Go.RowKit
set_option maxRecDepth 100000
set_option linter.unusedVariables false
set_option linter.unusedSimpArgs false

/-- How read ends. -/
def ReadEnds (B0 b mb : Nat) (s : MS) (N rb : Nat) (alone : Bool) (l : List Cm) (w0 : World) (R : Scan × List (Bool × Doc)) (e : Ending) (w' : World) : Prop :=
  match R.1 with
  | .done x => e = .returned (.tuple #[.bool x, .bool true]) ∧ Below N w0 w'
  | .go l2 p2 => e = .returned (.tuple #[.bool false, .bool false]) ∧ ∃ rs' l', l'.map (fun c => (c.flat, c.d)) = R.2.reverse ∧ RAt B0 b mb s N rb l2 p2 alone (l ++ l') rs' w0 w'
/-- What lies in memory where read begins: the boxed reader's pointer, the boxed command. -/
structure RB (B0 b mb : Nat) (s : MS) (N rb : Nat) (left : Int) (put alone : Bool) (l : List Cm) (rs : Value) (w0 : World) (bx : Nat) (p : Option Addr) (flat : Bool) (a : Addr) (W : World) : Prop where
  r : RAt B0 b mb s N rb left put alone l rs w0 W
  x : W.cell? ⟨bx, 0, none⟩ = some (.pointer (some ⟨rb, 0, none⟩))
  p0 : W.cell? ⟨bx + 1, 0, none⟩ = some (.pointer p)
  p1 : W.cell? ⟨bx + 1, 1, none⟩ = some (.bool flat)
  p2 : W.cell? ⟨bx + 1, 2, none⟩ = some (.pointer (some a))
  lx : N ≤ bx
  lt : bx + 1 < W.heap.size
  rx : rb < bx
  ox : ∀ q, bx ≤ q → rs.ownBlock ≠ some q
theorem rb_new {B0 b mb : Nat} {s : MS} {N rb : Nat} {left : Int} {put alone : Bool} {l : List Cm} {rs : Value} {w0 w : World} (h : RAt B0 b mb s N rb left put alone l rs w0 w) (p : Option Addr) (flat : Bool) (a : Addr) :
    RB B0 b mb s N rb left put alone l rs w0 w.heap.size p flat a ((w.alloc (.cells #[.pointer (some ⟨rb, 0, none⟩)] 100)).alloc (.cells #[.pointer p, .bool flat, .pointer (some a)] 69)) := by
  have hb : Below w.heap.size w ((w.alloc (.cells #[.pointer (some ⟨rb, 0, none⟩)] 100)).alloc (.cells #[.pointer p, .bool flat, .pointer (some a)] 69)) := ((Below.refl _ w).alloc (Nat.le_refl _) _).alloc (by simp) _
  have hx : Blk ((w.alloc (.cells #[.pointer (some ⟨rb, 0, none⟩)] 100)).alloc (.cells #[.pointer p, .bool flat, .pointer (some a)] 69)) w.heap.size [.pointer (some ⟨rb, 0, none⟩)] 100 := (Blk.new w _ _).alloc _
  have hc : Blk ((w.alloc (.cells #[.pointer (some ⟨rb, 0, none⟩)] 100)).alloc (.cells #[.pointer p, .bool flat, .pointer (some a)] 69)) (w.heap.size + 1) [.pointer p, .bool flat, .pointer (some a)] 69 := Blk.new' _ _ (by simp)
  have h1 := h.blk.lt
  have h2 := h.below.size
  have h3 := h.low
  exact { r := h.next hb, x := hx.cell 0, p0 := hc.cell 0, p1 := hc.cell 1, p2 := hc.cell 2, lx := by omega, lt := by simp, rx := h1, ox := fun q hq e => by have := (h.row.lt q e).2; omega }
/-- A document's block lies below the reader; its kids' slice is what its cell says. -/
theorem kids_at {B0 b mb : Nat} {s : MS} {N rb : Nat} {left : Int} {put alone : Bool} {l : List Cm} {rs : Value} {w0 w : World} (h : RAt B0 b mb s N rb left put alone l rs w0 w) {d : Doc} {g off : Nat} {v : Value} (hd : DocAt w0 B0 (s.F b mb w0) d ⟨g, off, none⟩) (k2 : w.cell? ⟨g, off + 2, none⟩ = some v) : g < N ∧ KV w0 0 B0 d v := by
  obtain ⟨g', off', kv', he, hF, h6, hk⟩ := hd
  have e1 : g = g' := congrArg Addr.block he
  have e2 : off = off' := congrArg Addr.off he
  subst e1
  subst e2
  have hgN : g < N := by have := hF.1; have := h.low; omega
  have e3 := (h6.of (h.below.block g hgN)).kids
  rw [k2] at e3
  injection e3 with e3
  rw [e3]
  exact ⟨hgN, hk⟩

set_option maxHeartbeats 16000000 in
theorem read_hard {B0 b mb : Nat} {ov : OptV} {s : MS} {N rb : Nat} {left : Int} {put alone : Bool} {l : List Cm} {rs : Value} {w0 w : World} (hm : MAt B0 b mb ov s w0) (h : RAt B0 b mb s N rb left put alone l rs w0 w) (p : Option Addr) (flat : Bool) {d : Doc} {a : Addr} (hd : DocAt w0 B0 (s.F b mb w0) d a) (hsh : d.shape = true) (hbk : d.bulk ≤ 4194304) (hwt : (l.map fun c => c.d.wt).sum + d.wt ≤ 16777216) (hk : d.kind = 5) :
    Calls Tryd.prog 59 #[.pointer (some ⟨rb, 0, none⟩), .agg #[.pointer p, .bool flat, .pointer (some a)]] w fun e w' => ReadEnds B0 b mb s N rb alone l w0 (readS alone s.brk d flat left put) e w' := by
  have hrb := rb_new h p flat a
  have hlw := h.left0
  have hlw1 := h.left1
  have hr0 := hrb.r
  obtain ⟨g, off, kv, rfl, hFg, h6, hkv⟩ := hr0.doc hm hd
  obtain ⟨A, cap, hkvs⟩ := hkv.slice
  have k0 := h6.kind
  have k1 := h6.text
  have k2 := h6.kids
  have k3 := h6.brk
  have k4 := h6.id
  rw [hk] at k0
  rw [hkvs] at k2 hkv
  have x0 := hrb.x
  have y1 := hrb.p1
  have y2 := hrb.p2
  have r1 : _ = some (Value.int .i64 left) := hr0.blk.cell 1
  have r3 : _ = some (Value.bool put) := hr0.blk.cell 3
  have r4 : _ = some (Value.bool alone) := hr0.blk.cell 4
  have g1 := hr0.blk.frozen 1
  have g3 := hr0.blk.frozen 3
  have HRB := Lib.hid hrb
  have HR0 := Lib.hid hr0
  have HM := Lib.hid hm
  have HKV := Lib.hid hkv
  have HSH := Lib.hid hsh
  have HBK := Lib.hid hbk
  have HWT := Lib.hid hwt
  have HD := Lib.hid hd
  have HK := Lib.hid hk
  obtain ⟨hgN, hhk⟩ := kids_at hr0 hd k2
  have HHK := Lib.hid hhk
  clear h hm hd hsh hbk hwt hrb hr0 hkv h6 hFg hkvs hk hhk
  have HR : Hid (readS alone s.brk d flat left put = (.done true, [])) := Lib.hid (by unfold readS; rw [HK.out]; rfl)
  clear k1 k2 k3 k4 r1 r3 r4
  go_enter Tryd.func59, Tryd.ntmps59
  go_wp2_with fail
  go_ret2
  rw [HR.out]
  exact ⟨rfl, HR0.out.below⟩

set_option maxHeartbeats 16000000 in
theorem read_literal {B0 b mb : Nat} {ov : OptV} {s : MS} {N rb : Nat} {left : Int} {put alone : Bool} {l : List Cm} {rs : Value} {w0 w : World} (hm : MAt B0 b mb ov s w0) (h : RAt B0 b mb s N rb left put alone l rs w0 w) (p : Option Addr) (flat : Bool) {d : Doc} {a : Addr} (hd : DocAt w0 B0 (s.F b mb w0) d a) (hsh : d.shape = true) (hbk : d.bulk ≤ 4194304) (hwt : (l.map fun c => c.d.wt).sum + d.wt ≤ 16777216) (hk : d.kind = 6) :
    Calls Tryd.prog 59 #[.pointer (some ⟨rb, 0, none⟩), .agg #[.pointer p, .bool flat, .pointer (some a)]] w fun e w' => ReadEnds B0 b mb s N rb alone l w0 (readS alone s.brk d flat left put) e w' := by
  have hrb := rb_new h p flat a
  have hlw := h.left0
  have hlw1 := h.left1
  have hr0 := hrb.r
  obtain ⟨g, off, kv, rfl, hFg, h6, hkv⟩ := hr0.doc hm hd
  obtain ⟨A, cap, hkvs⟩ := hkv.slice
  have k0 := h6.kind
  have k1 := h6.text
  have k2 := h6.kids
  have k3 := h6.brk
  have k4 := h6.id
  rw [hk] at k0
  rw [hkvs] at k2 hkv
  have x0 := hrb.x
  have y1 := hrb.p1
  have y2 := hrb.p2
  have r1 : _ = some (Value.int .i64 left) := hr0.blk.cell 1
  have r3 : _ = some (Value.bool put) := hr0.blk.cell 3
  have r4 : _ = some (Value.bool alone) := hr0.blk.cell 4
  have g1 := hr0.blk.frozen 1
  have g3 := hr0.blk.frozen 3
  have HRB := Lib.hid hrb
  have HR0 := Lib.hid hr0
  have HM := Lib.hid hm
  have HKV := Lib.hid hkv
  have HSH := Lib.hid hsh
  have HBK := Lib.hid hbk
  have HWT := Lib.hid hwt
  have HD := Lib.hid hd
  have HK := Lib.hid hk
  obtain ⟨hgN, hhk⟩ := kids_at hr0 hd k2
  have HHK := Lib.hid hhk
  clear h hm hd hsh hbk hwt hrb hr0 hkv h6 hFg hkvs hk hhk
  have HR : Hid (readS alone s.brk d flat left put = (.done true, [])) := Lib.hid (by unfold readS; rw [HK.out]; rfl)
  clear k1 k2 k3 k4 r1 r3 r4
  go_enter Tryd.func59, Tryd.ntmps59
  go_wp2_with fail
  go_ret2
  rw [HR.out]
  exact ⟨rfl, HR0.out.below⟩

set_option maxHeartbeats 16000000 in
theorem read_break {B0 b mb : Nat} {ov : OptV} {s : MS} {N rb : Nat} {left : Int} {put alone : Bool} {l : List Cm} {rs : Value} {w0 w : World} (hm : MAt B0 b mb ov s w0) (h : RAt B0 b mb s N rb left put alone l rs w0 w) (p : Option Addr) (flat : Bool) {d : Doc} {a : Addr} (hd : DocAt w0 B0 (s.F b mb w0) d a) (hsh : d.shape = true) (hbk : d.bulk ≤ 4194304) (hwt : (l.map fun c => c.d.wt).sum + d.wt ≤ 16777216) (hk : d.kind = 16) :
    Calls Tryd.prog 59 #[.pointer (some ⟨rb, 0, none⟩), .agg #[.pointer p, .bool flat, .pointer (some a)]] w fun e w' => ReadEnds B0 b mb s N rb alone l w0 (readS alone s.brk d flat left put) e w' := by
  have hrb := rb_new h p flat a
  have hlw := h.left0
  have hlw1 := h.left1
  have hr0 := hrb.r
  obtain ⟨g, off, kv, rfl, hFg, h6, hkv⟩ := hr0.doc hm hd
  obtain ⟨A, cap, hkvs⟩ := hkv.slice
  have k0 := h6.kind
  have k1 := h6.text
  have k2 := h6.kids
  have k3 := h6.brk
  have k4 := h6.id
  rw [hk] at k0
  rw [hkvs] at k2 hkv
  have x0 := hrb.x
  have y1 := hrb.p1
  have y2 := hrb.p2
  have r1 : _ = some (Value.int .i64 left) := hr0.blk.cell 1
  have r3 : _ = some (Value.bool put) := hr0.blk.cell 3
  have r4 : _ = some (Value.bool alone) := hr0.blk.cell 4
  have g1 := hr0.blk.frozen 1
  have g3 := hr0.blk.frozen 3
  have HRB := Lib.hid hrb
  have HR0 := Lib.hid hr0
  have HM := Lib.hid hm
  have HKV := Lib.hid hkv
  have HSH := Lib.hid hsh
  have HBK := Lib.hid hbk
  have HWT := Lib.hid hwt
  have HD := Lib.hid hd
  have HK := Lib.hid hk
  obtain ⟨hgN, hhk⟩ := kids_at hr0 hd k2
  have HHK := Lib.hid hhk
  clear h hm hd hsh hbk hwt hrb hr0 hkv h6 hFg hkvs hk hhk
  have HR : Hid (readS alone s.brk d flat left put = (.go left put, [])) := Lib.hid (by unfold readS; rw [HK.out]; rfl)
  have HDL : Hid (decide (left < 0) = false) := Lib.hid (by simp; omega)
  clear k1 k2 k3 k4 r3 r4
  go_enter Tryd.func59, Tryd.ntmps59
  go_wp2_with fail
  go_quiet (fail)
  go_wp2_with fail
  go_ret2
  rw [HR.out]
  exact ⟨by show Ending.returned (.tuple #[.bool false, .bool (decide (left < 0))]) = _; rw [HDL.out], rs, [], rfl, by rw [List.append_nil]; exact HR0.out.next ⟨rfl, rfl, rfl, Nat.le_refl _, fun _ _ => rfl⟩⟩

set_option maxHeartbeats 16000000 in
theorem read_suffix {B0 b mb : Nat} {ov : OptV} {s : MS} {N rb : Nat} {left : Int} {put alone : Bool} {l : List Cm} {rs : Value} {w0 w : World} (hm : MAt B0 b mb ov s w0) (h : RAt B0 b mb s N rb left put alone l rs w0 w) (p : Option Addr) (flat : Bool) {d : Doc} {a : Addr} (hd : DocAt w0 B0 (s.F b mb w0) d a) (hsh : d.shape = true) (hbk : d.bulk ≤ 4194304) (hwt : (l.map fun c => c.d.wt).sum + d.wt ≤ 16777216) (hk : d.kind = 14) :
    Calls Tryd.prog 59 #[.pointer (some ⟨rb, 0, none⟩), .agg #[.pointer p, .bool flat, .pointer (some a)]] w fun e w' => ReadEnds B0 b mb s N rb alone l w0 (readS alone s.brk d flat left put) e w' := by
  have hrb := rb_new h p flat a
  have hlw := h.left0
  have hlw1 := h.left1
  have hr0 := hrb.r
  obtain ⟨g, off, kv, rfl, hFg, h6, hkv⟩ := hr0.doc hm hd
  obtain ⟨A, cap, hkvs⟩ := hkv.slice
  have k0 := h6.kind
  have k1 := h6.text
  have k2 := h6.kids
  have k3 := h6.brk
  have k4 := h6.id
  rw [hk] at k0
  rw [hkvs] at k2 hkv
  have x0 := hrb.x
  have y1 := hrb.p1
  have y2 := hrb.p2
  have r1 : _ = some (Value.int .i64 left) := hr0.blk.cell 1
  have r3 : _ = some (Value.bool put) := hr0.blk.cell 3
  have r4 : _ = some (Value.bool alone) := hr0.blk.cell 4
  have g1 := hr0.blk.frozen 1
  have g3 := hr0.blk.frozen 3
  have HRB := Lib.hid hrb
  have HR0 := Lib.hid hr0
  have HM := Lib.hid hm
  have HKV := Lib.hid hkv
  have HSH := Lib.hid hsh
  have HBK := Lib.hid hbk
  have HWT := Lib.hid hwt
  have HD := Lib.hid hd
  have HK := Lib.hid hk
  obtain ⟨hgN, hhk⟩ := kids_at hr0 hd k2
  have HHK := Lib.hid hhk
  clear h hm hd hsh hbk hwt hrb hr0 hkv h6 hFg hkvs hk hhk
  have HR : Hid (readS alone s.brk d flat left put = (.go left true, [])) := Lib.hid (by unfold readS; rw [HK.out]; rfl)
  have HDL : Hid (decide (left < 0) = false) := Lib.hid (by simp; omega)
  obtain ⟨W, hW⟩ : ∃ W, W = (w.alloc (.cells #[.pointer (some ⟨rb, 0, none⟩)] 100)).alloc (.cells #[.pointer p, .bool flat, .pointer (some ⟨g, off, none⟩)] 69) := ⟨_, rfl⟩
  have HWW := Lib.hid hW
  rw [← hW] at HRB HR0
  clear hW
  have HP := Lib.hid HR0.out.setPut
  have hrr := HRB.out.rx
  have hne : ∀ q, (⟨w.heap.size, q, none⟩ : Addr).block ≠ rb := fun q => by show w.heap.size ≠ rb; omega
  clear k1 k2 k3 k4 r4 y1
  go_enter Tryd.func59, Tryd.ntmps59
  go_upto_region 37 with fail
  rw [← HWW.out] at k0 x0 r1 r3 g3 g1 ⊢
  have r1' := HP.out.blk.cell 1
  have x0' := (World.cell?_of_block (w := W) (w' := W.setCell ⟨rb, 3, none⟩ (.bool true)) (a := ⟨w.heap.size, 0, none⟩) (Below.heap_setCell W _ _ _ (hne 0))).trans x0
  simp only [List.getElem?_cons_zero, List.getElem?_cons_succ] at r1'
  go_wp2_with fail
  go_quiet (fail)
  go_wp2_with fail
  go_ret2
  rw [HR.out]
  exact ⟨by show Ending.returned (.tuple #[.bool false, .bool (decide (left < 0))]) = _; rw [HDL.out], rs, [], rfl, by rw [List.append_nil]; exact HP.out.next ⟨rfl, rfl, rfl, Nat.le_refl _, fun _ _ => rfl⟩⟩

set_option maxHeartbeats 16000000 in
theorem read_boundary {B0 b mb : Nat} {ov : OptV} {s : MS} {N rb : Nat} {left : Int} {put alone : Bool} {l : List Cm} {rs : Value} {w0 w : World} (hm : MAt B0 b mb ov s w0) (h : RAt B0 b mb s N rb left put alone l rs w0 w) (p : Option Addr) (flat : Bool) {d : Doc} {a : Addr} (hd : DocAt w0 B0 (s.F b mb w0) d a) (hsh : d.shape = true) (hbk : d.bulk ≤ 4194304) (hwt : (l.map fun c => c.d.wt).sum + d.wt ≤ 16777216) (hk : d.kind = 15) :
    Calls Tryd.prog 59 #[.pointer (some ⟨rb, 0, none⟩), .agg #[.pointer p, .bool flat, .pointer (some a)]] w fun e w' => ReadEnds B0 b mb s N rb alone l w0 (readS alone s.brk d flat left put) e w' := by
  have hrb := rb_new h p flat a
  have hlw := h.left0
  have hlw1 := h.left1
  have hr0 := hrb.r
  obtain ⟨g, off, kv, rfl, hFg, h6, hkv⟩ := hr0.doc hm hd
  obtain ⟨A, cap, hkvs⟩ := hkv.slice
  have k0 := h6.kind
  have k1 := h6.text
  have k2 := h6.kids
  have k3 := h6.brk
  have k4 := h6.id
  rw [hk] at k0
  rw [hkvs] at k2 hkv
  have x0 := hrb.x
  have y1 := hrb.p1
  have y2 := hrb.p2
  have r1 : _ = some (Value.int .i64 left) := hr0.blk.cell 1
  have r3 : _ = some (Value.bool put) := hr0.blk.cell 3
  have r4 : _ = some (Value.bool alone) := hr0.blk.cell 4
  have g1 := hr0.blk.frozen 1
  have g3 := hr0.blk.frozen 3
  have HRB := Lib.hid hrb
  have HR0 := Lib.hid hr0
  have HM := Lib.hid hm
  have HKV := Lib.hid hkv
  have HSH := Lib.hid hsh
  have HBK := Lib.hid hbk
  have HWT := Lib.hid hwt
  have HD := Lib.hid hd
  have HK := Lib.hid hk
  obtain ⟨hgN, hhk⟩ := kids_at hr0 hd k2
  have HHK := Lib.hid hhk
  clear h hm hd hsh hbk hwt hrb hr0 hkv h6 hFg hkvs hk hhk
  have HR : Hid (readS alone s.brk d flat left put = (if put then (.done true, []) else (.go left put, []))) := Lib.hid (by unfold readS; rw [HK.out]; rfl)
  have HDL : Hid (decide (left < 0) = false) := Lib.hid (by simp; omega)
  clear k1 k2 k3 k4 r4
  cases put
  · go_enter Tryd.func59, Tryd.ntmps59
    go_wp2_with fail
    go_quiet (fail)
    go_wp2_with fail
    go_ret2
    rw [HR.out]
    exact ⟨by show Ending.returned (.tuple #[.bool false, .bool (decide (left < 0))]) = _; rw [HDL.out], rs, [], rfl, by rw [List.append_nil]; exact HR0.out.next ⟨rfl, rfl, rfl, Nat.le_refl _, fun _ _ => rfl⟩⟩
  · go_enter Tryd.func59, Tryd.ntmps59
    go_wp2_with fail
    go_ret2
    rw [HR.out]
    exact ⟨rfl, HR0.out.below⟩

set_option maxHeartbeats 16000000 in
theorem read_soft {B0 b mb : Nat} {ov : OptV} {s : MS} {N rb : Nat} {left : Int} {put alone : Bool} {l : List Cm} {rs : Value} {w0 w : World} (hm : MAt B0 b mb ov s w0) (h : RAt B0 b mb s N rb left put alone l rs w0 w) (p : Option Addr) (flat : Bool) {d : Doc} {a : Addr} (hd : DocAt w0 B0 (s.F b mb w0) d a) (hsh : d.shape = true) (hbk : d.bulk ≤ 4194304) (hwt : (l.map fun c => c.d.wt).sum + d.wt ≤ 16777216) (hk : d.kind = 4) :
    Calls Tryd.prog 59 #[.pointer (some ⟨rb, 0, none⟩), .agg #[.pointer p, .bool flat, .pointer (some a)]] w fun e w' => ReadEnds B0 b mb s N rb alone l w0 (readS alone s.brk d flat left put) e w' := by
  have hrb := rb_new h p flat a
  have hlw := h.left0
  have hlw1 := h.left1
  have hr0 := hrb.r
  obtain ⟨g, off, kv, rfl, hFg, h6, hkv⟩ := hr0.doc hm hd
  obtain ⟨A, cap, hkvs⟩ := hkv.slice
  have k0 := h6.kind
  have k1 := h6.text
  have k2 := h6.kids
  have k3 := h6.brk
  have k4 := h6.id
  rw [hk] at k0
  rw [hkvs] at k2 hkv
  have x0 := hrb.x
  have y1 := hrb.p1
  have y2 := hrb.p2
  have r1 : _ = some (Value.int .i64 left) := hr0.blk.cell 1
  have r3 : _ = some (Value.bool put) := hr0.blk.cell 3
  have r4 : _ = some (Value.bool alone) := hr0.blk.cell 4
  have g1 := hr0.blk.frozen 1
  have g3 := hr0.blk.frozen 3
  have HRB := Lib.hid hrb
  have HR0 := Lib.hid hr0
  have HM := Lib.hid hm
  have HKV := Lib.hid hkv
  have HSH := Lib.hid hsh
  have HBK := Lib.hid hbk
  have HWT := Lib.hid hwt
  have HD := Lib.hid hd
  have HK := Lib.hid hk
  obtain ⟨hgN, hhk⟩ := kids_at hr0 hd k2
  have HHK := Lib.hid hhk
  clear h hm hd hsh hbk hwt hrb hr0 hkv h6 hFg hkvs hk hhk
  have HR : Hid (readS alone s.brk d flat left put = (if flat then (.go left put, []) else (.done true, []))) := Lib.hid (by unfold readS; rw [HK.out]; rfl)
  have HDL : Hid (decide (left < 0) = false) := Lib.hid (by simp; omega)
  clear k1 k2 k3 k4 r3 r4
  cases flat
  · go_enter Tryd.func59, Tryd.ntmps59
    go_wp2_with fail
    go_ret2
    rw [HR.out]
    exact ⟨rfl, HR0.out.below⟩
  · go_enter Tryd.func59, Tryd.ntmps59
    go_wp2_with fail
    go_quiet (fail)
    go_wp2_with fail
    go_ret2
    rw [HR.out]
    exact ⟨by show Ending.returned (.tuple #[.bool false, .bool (decide (left < 0))]) = _; rw [HDL.out], rs, [], rfl, by rw [List.append_nil]; exact HR0.out.next ⟨rfl, rfl, rfl, Nat.le_refl _, fun _ _ => rfl⟩⟩

set_option maxHeartbeats 16000000 in
theorem read_line {B0 b mb : Nat} {ov : OptV} {s : MS} {N rb : Nat} {left : Int} {put alone : Bool} {l : List Cm} {rs : Value} {w0 w : World} (hm : MAt B0 b mb ov s w0) (h : RAt B0 b mb s N rb left put alone l rs w0 w) (p : Option Addr) (flat : Bool) {d : Doc} {a : Addr} (hd : DocAt w0 B0 (s.F b mb w0) d a) (hsh : d.shape = true) (hbk : d.bulk ≤ 4194304) (hwt : (l.map fun c => c.d.wt).sum + d.wt ≤ 16777216) (hk : d.kind = 3) :
    Calls Tryd.prog 59 #[.pointer (some ⟨rb, 0, none⟩), .agg #[.pointer p, .bool flat, .pointer (some a)]] w fun e w' => ReadEnds B0 b mb s N rb alone l w0 (readS alone s.brk d flat left put) e w' := by
  have hrb := rb_new h p flat a
  have hlw := h.left0
  have hlw1 := h.left1
  have hr0 := hrb.r
  obtain ⟨g, off, kv, rfl, hFg, h6, hkv⟩ := hr0.doc hm hd
  obtain ⟨A, cap, hkvs⟩ := hkv.slice
  have k0 := h6.kind
  have k1 := h6.text
  have k2 := h6.kids
  have k3 := h6.brk
  have k4 := h6.id
  rw [hk] at k0
  rw [hkvs] at k2 hkv
  have x0 := hrb.x
  have y1 := hrb.p1
  have y2 := hrb.p2
  have r1 : _ = some (Value.int .i64 left) := hr0.blk.cell 1
  have r3 : _ = some (Value.bool put) := hr0.blk.cell 3
  have r4 : _ = some (Value.bool alone) := hr0.blk.cell 4
  have g1 := hr0.blk.frozen 1
  have g3 := hr0.blk.frozen 3
  have HRB := Lib.hid hrb
  have HR0 := Lib.hid hr0
  have HM := Lib.hid hm
  have HKV := Lib.hid hkv
  have HSH := Lib.hid hsh
  have HBK := Lib.hid hbk
  have HWT := Lib.hid hwt
  have HD := Lib.hid hd
  have HK := Lib.hid hk
  obtain ⟨hgN, hhk⟩ := kids_at hr0 hd k2
  have HHK := Lib.hid hhk
  clear h hm hd hsh hbk hwt hrb hr0 hkv h6 hFg hkvs hk hhk
  have HR : Hid (readS alone s.brk d flat left put = (if flat then (if left - 1 < 0 then (.done false, []) else (.go (left - 1) put, [])) else (.done true, []))) := Lib.hid (by unfold readS; rw [HK.out]; rfl)
  obtain ⟨W, hW⟩ : ∃ W, W = (w.alloc (.cells #[.pointer (some ⟨rb, 0, none⟩)] 100)).alloc (.cells #[.pointer p, .bool flat, .pointer (some ⟨g, off, none⟩)] 69) := ⟨_, rfl⟩
  have HWW := Lib.hid hW
  rw [← hW] at HRB HR0
  clear hW
  have hrr := HRB.out.rx
  have hne : ∀ q, (⟨w.heap.size, q, none⟩ : Addr).block ≠ rb := fun q => by show w.heap.size ≠ rb; omega
  clear k1 k2 k3 k4 r3 r4
  cases flat
  · go_enter Tryd.func59, Tryd.ntmps59
    go_wp2_with fail
    go_ret2
    rw [HR.out]
    exact ⟨rfl, by rw [HWW.out] at HR0; exact HR0.out.below⟩
  · have HSL := Lib.hid (HR0.out.setLeft (left - 1))
    have HLB := Lib.hid (HR0.out.below.setCell (p := ⟨rb, 1, none⟩) HR0.out.lowb (.int .i64 (left - 1)))
    have hbl := HR0.out.blk.set 1 (.int .i64 (left - 1))
    have r1' := hbl.cell 1
    have x0' := fun (x0 : W.cell? ⟨w.heap.size, 0, none⟩ = some (.pointer (some ⟨rb, 0, none⟩))) => (World.cell?_of_block (w := W) (w' := W.setCell ⟨rb, 1, none⟩ (.int .i64 (left - 1))) (a := ⟨w.heap.size, 0, none⟩) (Below.heap_setCell W _ _ _ (hne 0))).trans x0
    have HX0 := Lib.hid x0'
    clear hbl x0'
    simp only [List.set_cons_succ, List.set_cons_zero, List.getElem?_cons_zero, List.getElem?_cons_succ] at r1'
    go_enter Tryd.func59, Tryd.ntmps59
    go_upto_region 32 with fail
    rw [← HWW.out] at k0 x0 r1 g1 y1 ⊢
    have x0' := HX0.out x0
    go_wp2_with fail
    go_quiet (fail)
    go_wp2_with fail
    go_ret2
    rw [HR.out]
    by_cases hl : left - 1 < 0
    · have HDL : Hid (decide (left - 1 < 0) = true) := Lib.hid (by simpa using hl)
      simp only [if_true]
      rw [if_pos hl]
      exact ⟨by show Ending.returned (.tuple #[.bool false, .bool (decide (left - 1 < 0))]) = _; rw [HDL.out], HLB.out.trans ⟨rfl, rfl, rfl, Nat.le_refl _, fun _ _ => rfl⟩⟩
    · have HDL : Hid (decide (left - 1 < 0) = false) := Lib.hid (by simpa using hl)
      simp only [if_true]
      rw [if_neg hl]
      exact ⟨by show Ending.returned (.tuple #[.bool false, .bool (decide (left - 1 < 0))]) = _; rw [HDL.out], rs, [], rfl, by rw [List.append_nil]; exact (HSL.out (by omega) (by omega)).next ⟨rfl, rfl, rfl, Nat.le_refl _, fun _ _ => rfl⟩⟩
end
end Go.Proofs.YthljgiimdcbfpaaDoor
