/- Package layout: fill: what its walk needs. -/
import Derived.Test.YthljgiimdcbfpaaDoorMCond
namespace Go.Proofs.YthljgiimdcbfpaaDoor
section
open Go.RowKit
set_option maxRecDepth 100000
set_option linter.unusedVariables false
set_option linter.unusedSimpArgs false
theorem fill_more {o : Opt} {mm : Mach} {ind : Ind} {ks : List Doc} {m : Nat} (hn : ks.length = m + 3) :
    fillM o mm ind ks = pushM (pushM (pushM mm ind false [fillD (ks.drop 2)]) ind (fitsM o mm true true [ks[0]'(by omega), ks[1]'(by omega), ks[2]'(by omega)]) [ks[1]'(by omega)]) ind (fitsM o mm true true [ks[0]'(by omega)]) [ks[0]'(by omega)] := by
  match ks, hn with
  | a :: b :: c :: l, _ => rfl
theorem fill_one {o : Opt} {mm : Mach} {ind : Ind} {ks : List Doc} (hn : ks.length = 1) : fillM o mm ind ks = pushM mm ind (fitsM o mm true true [ks[0]'(by omega)]) [ks[0]'(by omega)] := by
  match ks, hn with
  | [a], _ => rfl
theorem shapeL_drop {ks : List Doc} (h : shapeL ks = true) (n : Nat) : shapeL (ks.drop n) = true := by
  induction ks generalizing n with
  | nil => simpa using h
  | cons a l ih =>
    cases n with
    | zero => simpa using h
    | succ n =>
      simp only [shapeL, Bool.and_eq_true] at h
      simpa using ih h.2 n
theorem depthL_drop (ks : List Doc) (n : Nat) : depthL (ks.drop n) ≤ depthL ks := by
  induction ks generalizing n with
  | nil => simp
  | cons a l ih =>
    cases n with
    | zero => simp
    | succ n =>
      have := ih n
      simp only [List.drop_succ_cons, depthL]
      omega
theorem kids_9 {d : Doc} (hs : d.shape = true) (hk : d.kind = 9) : d.kids.length = 0 ∨ d.kids.length % 2 = 1 := by
  rw [Doc.shape_eq, Bool.and_eq_true] at hs
  have h1 := hs.1
  unfold Doc.formed at h1
  rw [hk] at h1
  by_cases h0 : d.kids.length = 0
  · exact .inl h0
  by_cases h2 : d.kids.length % 2 = 1
  · exact .inr h2
  have : formedF 9 d.text d.kids.length d.brk d.id d.width = false := by
    unfold formedF
    have e0 : (d.kids.length == 0) = false := by simpa using h0
    have e2 : (d.kids.length % 2 == 1) = false := by simpa using h2
    rw [e0, e2]
    simp
  rw [this] at h1
  cases h1
theorem fillD_ok {i : Ind} {d : Doc} (h : CmOk i d) (hk : d.kind = 9) {m : Nat} (hn : d.kids.length = m + 3) : CmOk i (fillD (d.kids.drop 2)) := by
  have h9 := kids_9 h.shape hk
  have hs := h.shape
  rw [Doc.shape_eq, Bool.and_eq_true] at hs
  have h1 := h.bulk
  have h2 := bulkL_drop d.kids 2
  have h3 := h.wide
  have h4 := depthL_drop d.kids 2
  rw [Doc.bulk_eq] at h1
  rw [Doc.depth_eq] at h3
  refine { shape := ?_, bulk := ?_, ind := h.ind, wide := ?_ }
  · rw [Doc.shape_eq, Bool.and_eq_true]
    refine ⟨?_, shapeL_drop hs.2 2⟩
    show formedF 9 ⟨#[]⟩ (d.kids.drop 2).length false 0 0 = true
    have h5 : ((d.kids.drop 2).length % 2 == 1) = true := by rw [List.length_drop]; simp; omega
    unfold formedF
    rw [h5]
    simp
    try rfl
  · rw [Doc.bulk_eq]
    show bulkL (d.kids.drop 2) + 0 + 1 ≤ _
    omega
  · rw [Doc.depth_eq]
    show Ind.wide i + 10000 * ((depthL (d.kids.drop 2) + 1 : Nat) : Int) ≤ _
    omega
theorem fillD_wt {d : Doc} {m : Nat} (hn : d.kids.length = m + 3) : wtL [fillD (d.kids.drop 2)] + wtL [d.kids[1]'(by omega)] + wtL [d.kids[0]'(by omega)] ≤ d.wt := by
  have e1 : d.kids.drop 1 = d.kids[1]'(by omega) :: d.kids.drop 2 := List.drop_eq_getElem_cons (by omega)
  have e0 : d.kids = d.kids[0]'(by omega) :: d.kids.drop 1 := by rw [← List.drop_eq_getElem_cons (by omega : 0 < d.kids.length)]; rfl
  have h0 : nodesL d.kids = (d.kids[0]'(by omega)).nodes + ((d.kids[1]'(by omega)).nodes + nodesL (d.kids.drop 2)) := by
    have h1 := congrArg nodesL e0
    rw [e1] at h1
    simpa only [nodesL] using h1
  have hp0 := (d.kids[0]'(by omega)).nodes_pos
  have hp1 := (d.kids[1]'(by omega)).nodes_pos
  have hf : (fillD (d.kids.drop 2)).nodes = 1 + nodesL (d.kids.drop 2) ∨ (fillD (d.kids.drop 2)).nodes = nodesL (d.kids.drop 2) + 1 := by
    first
      | exact .inl (Doc.nodes_eq _)
      | exact .inr (Doc.nodes_eq _)
  have hd := Doc.nodes_eq d
  simp only [wtL, List.map_cons, List.map_nil, List.sum_cons, List.sum_nil]
  unfold Doc.wt
  omega
/-- The rest of a fill, in a block of its own. -/
theorem fillD_at {W : World} {B0 : Nat} {F : Nat → Prop} {d : Doc} {kg koff cap gb m : Nat} (hn : d.kids.length = m + 3) (hkv : KV W 0 B0 d (.slice (some ⟨kg, koff, none⟩) d.kids.length cap)) (hF : F gb)
    (hb : Blk W gb [.int .i64 9, .string ⟨#[]⟩, .slice (some ⟨kg, koff + 12, none⟩) (m + 1) (cap - 2), .bool false, .int .i64 0, .int .i64 0] 24) :
    DocAt W B0 F (fillD (d.kids.drop 2)) ⟨gb, 0, none⟩ := by
  have hl : (d.kids.drop 2).length = m + 1 := by rw [List.length_drop]; omega
  refine ⟨gb, 0, .slice (some ⟨kg, koff + 12, none⟩) (m + 1) (cap - 2), rfl, hF, ⟨hb.cell 0, hb.cell 1, hb.cell 2, hb.cell 3, hb.cell 4, hb.cell 5⟩, ?_⟩
  rw [KV_iff] at hkv ⊢
  obtain ⟨a, c, e, hc, hk⟩ := hkv
  injection e with e1 e2 e3
  subst e1
  subst e3
  obtain ⟨g', o', ea, h1, h2, h3⟩ := hk (by omega)
  cases ea
  refine ⟨_, _, by show Value.slice _ (m + 1) _ = Value.slice _ (d.kids.drop 2).length _; rw [hl], by show (d.kids.drop 2).length ≤ _; omega, fun _ => ⟨kg, koff + 12, rfl, h1, h2, ?_⟩⟩
  show EV W 0 B0 kg (d.kids.drop 2) (koff + 12)
  rw [EV_iff] at h3 ⊢
  intro j hj
  obtain ⟨kv, k6, kk⟩ := h3 (j + 2) (by omega)
  have e : (d.kids.drop 2)[j] = d.kids[j + 2]'(by omega) := by rw [List.getElem_drop]; congr 1; omega
  rw [e]
  rw [show koff + (j + 2) * 6 = koff + 12 + j * 6 by omega] at k6
  exact ⟨kv, k6, kk⟩
theorem docs_three {w : World} {B0 : Nat} {F : Nat → Prop} {ds : List Doc} {g off n m : Nat} (h : DocsAt w B0 F ds (kidAddrs g off n)) (hn : ds.length = m + 3) : DocsAt w B0 F [ds[0]'(by omega), ds[1]'(by omega), ds[2]'(by omega)] [⟨g, off, none⟩, ⟨g, off + 6, none⟩, ⟨g, off + 12, none⟩] := by
  refine ⟨rfl, fun j h1 h2 => ?_⟩
  have hj : j < 3 := h1
  have at' := fun i (hi : i < ds.length) => (docs_nth h i hi).2 0 (by simp) (by simp)
  match j, hj with
  | 0, _ => simpa using at' 0 (by omega)
  | 1, _ => simpa using at' 1 (by omega)
  | 2, _ => simpa using at' 2 (by omega)
theorem take_three {ks : List Doc} {m : Nat} (hn : ks.length = m + 3) : ks.take 3 = [ks[0]'(by omega), ks[1]'(by omega), ks[2]'(by omega)] := by
  match ks, hn with
  | a :: b :: c :: l, _ => rfl
theorem wt_three {d : Doc} {m : Nat} (hn : d.kids.length = m + 3) : wtL [d.kids[0]'(by omega), d.kids[1]'(by omega), d.kids[2]'(by omega)] ≤ d.wt := by
  have h1 := wt_kids d
  have h2 := wtL_sub (List.take_sublist 3 d.kids)
  rw [take_three hn] at h2
  omega
end

section
open Go.RowKit
set_option maxRecDepth 100000
set_option linter.unusedVariables false
set_option linter.unusedSimpArgs false
/-- The machine at work in a function that has boxed a command at w's end. -/
structure FAt (B0 b mb : Nat) (ov : OptV) (s : MS) (w : World) (p : Option Addr) (t : MS) (V : World) : Prop where
  m : MAt B0 b mb ov t V
  g : Goes b mb s t w V
  x : V.cell? ⟨w.heap.size, 0, none⟩ = some (.pointer p)
  lt : w.heap.size < V.heap.size
  nx : ¬ t.X b mb w.heap.size
theorem docs_single {w : World} {B0 : Nat} {F : Nat → Prop} {d : Doc} {a : Addr} (h : DocAt w B0 F d a) : DocsAt w B0 F [d] [a] := by
  refine ⟨rfl, fun j h1 h2 => ?_⟩
  have h1' : j < 1 := h1
  obtain rfl : j = 0 := by omega
  exact h
section
variable {B0 b mb : Nat} {ov : OptV} {s t : MS} {w V V' : World} {p : Option Addr}
theorem FAt.next (h : FAt B0 b mb ov s w p t V) (hb : Below V.heap.size V V') : FAt B0 b mb ov s w p t V' :=
  { m := h.m.below hb, g := h.g.trans (Goes.of_below hb), x := (hb.cell (p := ⟨w.heap.size, 0, none⟩) h.lt).trans h.x, lt := Nat.lt_of_lt_of_le h.lt hb.size, nx := h.nx }
theorem FAt.docs (hM : MAt B0 b mb ov s w) (h : FAt B0 b mb ov s w p t V) {ds : List Doc} {la : List Addr} (hd : DocsAt w B0 (s.F b mb w) ds la) : DocsAt V B0 (t.F b mb V) ds la := ⟨hd.1, fun j h1 h2 => hM.doc_goes h.g (hd.2 j h1 h2)⟩
theorem FAt.push (h : FAt B0 b mb ov s w p t V) (hb : Below V.heap.size V V') {ind : Ind} (hi : IndAt w (s.F b mb w) ind p) (fl : Bool) {ds : List Doc} {la : List Addr} {gp n c : Nat} (hd : DocsAt V B0 (t.F b mb V) ds la) (hok : ∀ x ∈ ds, CmOk ind x) (hp : Blk V' gp (ptrs la) 66) (hgp : V.heap.size ≤ gp) (hn : n = la.length) (hw : t.weight + wtL ds ≤ 16777216) :
    Calls Tryd.prog 36 #[.pointer (some ⟨b, 0, none⟩), .pointer p, .bool fl, .slice (some ⟨gp, 0, none⟩) n c] V' fun e w' => e = .returned (.tuple #[]) ∧ ∃ t', t'.mach = pushM t.mach ind fl ds ∧ FAt B0 b mb ov s w p t' w' := by
  refine (push_some h.m hb (h.g.ind hi) fl hd hok hp hgp hn hw).mono fun e w' he => ?_
  obtain ⟨rfl, t', m', a', g'⟩ := he
  have h' := h.next hb
  refine ⟨rfl, t', m', { m := a', g := h'.g.trans g', x := (World.cell?_of_block (a := ⟨w.heap.size, 0, none⟩) (g'.1.block w.heap.size h'.lt h.nx)).trans h'.x, lt := Nat.lt_of_lt_of_le h'.lt g'.1.size, nx := fun hx => ?_ }⟩
  rcases g'.2 _ hx with hx | hx
  · exact h.nx hx
  · have := h'.lt
    omega
theorem weight_pushed {t t' : MS} {ind : Ind} {fl : Bool} {ds : List Doc} (h : t'.mach = pushM t.mach ind fl ds) : t'.weight = t.weight + wtL ds := by
  rw [weight_mach, h, weight_push, ← weight_mach]
end
set_option maxHeartbeats 16000000 in
theorem fill_many {B0 b mb : Nat} {ov : OptV} {s : MS} {w : World} (h : MAt B0 b mb ov s w) {ind : Ind} {p : Option Addr} (hi : IndAt w (s.F b mb w) ind p) (flat : Bool) {d : Doc} {a : Addr} (hd : DocAt w B0 (s.F b mb w) d a) (hok : CmOk ind d) (hk : d.kind = 9) {m : Nat} (hn : d.kids.length = m + 3) (hw : s.weight + d.wt ≤ 16777216) :
    Calls Tryd.prog 52 #[.pointer (some ⟨b, 0, none⟩), .agg #[.pointer p, .bool flat, .pointer (some a)]] w fun e w' => Ends B0 b mb ov s w (some (fillM ov.o s.mach ind d.kids)) e w' := by
  obtain ⟨g, off, kv, rfl, hFg, h6, hkv⟩ := hd
  obtain ⟨A, cap, hkvs⟩ := hkv.slice
  rw [hkvs] at hkv
  obtain ⟨hn0, hnc, kg, koff, hA, hds⟩ := docs_kids h hkv
  obtain rfl := hA (by omega)
  have hnl := kids_len_bulk hok.bulk
  have hbW : Below w.heap.size w (w.alloc (.cells #[.pointer p, .bool flat, .pointer (some ⟨g, off, none⟩)] 69)) := (Below.refl _ w).alloc (Nat.le_refl _) _
  have hcW : Blk (w.alloc (.cells #[.pointer p, .bool flat, .pointer (some ⟨g, off, none⟩)] 69)) w.heap.size [.pointer p, .bool flat, .pointer (some ⟨g, off, none⟩)] 69 := Blk.new' (W := w) _ _ rfl
  obtain ⟨W, hW⟩ : ∃ W, W = w.alloc (.cells #[.pointer p, .bool flat, .pointer (some ⟨g, off, none⟩)] 69) := ⟨_, rfl⟩
  rw [← hW] at hbW hcW
  have hgl : g < w.heap.size := hFg.1
  have k2 := (hbW.cell (p := ⟨g, off + 2, none⟩) hgl).trans h6.kids
  have HFA : Hid (FAt B0 b mb ov s w p s W) := Lib.hid { m := h.below hbW, g := Goes.of_below hbW, x := hcW.cell 0, lt := hcW.lt, nx := fun hx => by have := h.X_lt hx; omega }
  rw [hkvs, hn] at k2
  rw [hn] at hnc hnl
  have x2 := hcW.cell 2
  simp only [List.getElem?_cons_zero, List.getElem?_cons_succ] at x2
  have HWW := Lib.hid hW
  have HM := Lib.hid h
  have HI := Lib.hid hi
  have HOK := Lib.hid hok
  have HDS := Lib.hid hds
  have HN := Lib.hid hn
  have HWT := Lib.hid hw
  have HKV := Lib.hid hkv
  have HK := Lib.hid hk
  have l0 : (0 : Int) < (m : Int) + 3 := by omega
  have l1 : (1 : Int) < (m : Int) + 3 := by omega
  have l2 : (2 : Int) < (m : Int) + 3 := by omega
  have l3 : (2 : Int) ≤ (m : Int) + 3 := by omega
  have e0 : ¬ ((m : Int) + 3 = 0) := by omega
  have e1 : ¬ ((m : Int) + 3 = 1) := by omega
  have e2 : ((m : Int) + 3 == 0) = false := by simp; omega
  have e3 : ((m : Int) + 3 == 1) = false := by simp; omega
  have HR : Hid (∃ y1 y2, fitsM ov.o s.mach true true [d.kids[0]'(by have := HN.out; omega)] = y1 ∧ fitsM ov.o s.mach true true [d.kids[0]'(by have := HN.out; omega), d.kids[1]'(by have := HN.out; omega), d.kids[2]'(by have := HN.out; omega)] = y2 ∧ fillM ov.o s.mach ind d.kids = pushM (pushM (pushM s.mach ind false [fillD (d.kids.drop 2)]) ind y2 [d.kids[1]'(by have := HN.out; omega)]) ind y1 [d.kids[0]'(by have := HN.out; omega)]) := Lib.hid ⟨_, _, rfl, rfl, fill_more HN.out⟩
  obtain ⟨y1, y2, hy1, hy2, hR⟩ := HR.out
  have HY1 := Lib.hid hy1
  have HY2 := Lib.hid hy2
  have HRR := Lib.hid hR
  clear h hi hok hds hbW hW hw hcW h6 hkv hFg hkvs hA hn0 hk HR hy1 hy2 hR
  go_enter Tryd.func52, Tryd.ntmps52
  go_upto_region 1 with fail
  rw [← HWW.out]
  go_wp2_with fail
  refine (fits_is (HFA.out.m.below ((Below.refl W.heap.size W).alloc (Nat.le_refl _) (.cells #[.pointer (some ⟨kg, koff, none⟩)] 66))) true true (ptrs_at (la := [⟨kg, koff, none⟩]) (by exact Blk.new' (W := W) (g := W.heap.size) [.pointer (some ⟨kg, koff, none⟩)] 66 rfl) (by simp) rfl 1) ((HFA.out.next ((Below.refl W.heap.size W).alloc (Nat.le_refl _) (.cells #[.pointer (some ⟨kg, koff, none⟩)] 66))).docs HM.out (docs_nth HDS.out 0 (by have := HN.out; omega))) (ok_nth HOK.out.shape HOK.out.bulk 0 (by have := HN.out; omega)) (by have := wt_nth d 0 (by have := HN.out; omega); have := HWT.out; omega)).mono ?_
  rintro e w1 ⟨rfl, hb1⟩
  have HF1 := Lib.hid ((HFA.out.next ((Below.refl W.heap.size W).alloc (Nat.le_refl _) (.cells #[.pointer (some ⟨kg, koff, none⟩)] 66))).next hb1)
  clear hb1
  rw [HY1.out]
  go_upto_region 4 with fail
  refine wp_region_seq (fun _ => True) 7 3 (by kernel_rfl) rfl (by kernel_rfl) (by intro _ _ d _ _ h; cases d <;> exact h) trivial ?_
  simp only [List.take_succ_cons, List.take_zero, List.drop_succ_cons, List.drop_zero, List.cons_append, List.nil_append]
  repeat (refine wpHeld_step rfl ?_; apply Exists.intro; refine ⟨fun wq hq => ?_, ?_⟩; (have q1 := hq; go_simp; first | done | rfl); simp only [Act.put, List.setIfInBounds_toArray, List.set_cons_zero, List.set_cons_succ])
  change wpSeq _ _ _ _ _ _ _
  refine wpSeq_step rfl (fun K hK => ?_)
  go_simp
  refine hK _ _ trivial ?_
  clear hK K
  try simp only [Act.put, List.setIfInBounds_toArray, List.set_cons_zero, List.set_cons_succ]
  refine wpSeq_step rfl (fun K hK => ?_)
  go_simp
  have hbr : Below w1.heap.size w1 (w1.alloc (.cells #[.pointer (some ⟨kg, koff, none⟩), .pointer (some ⟨kg, koff + 6, none⟩), .pointer (some ⟨kg, koff + 12, none⟩)] 66)).drew := ((Below.refl _ _).alloc (Nat.le_refl _) _).drew
  refine (fits_is ((HF1.out.next hbr).m) true true (ptrs_at (la := [⟨kg, koff, none⟩, ⟨kg, koff + 6, none⟩, ⟨kg, koff + 12, none⟩]) (by exact Blk.new' (W := w1) (g := w1.heap.size) [.pointer (some ⟨kg, koff, none⟩), .pointer (some ⟨kg, koff + 6, none⟩), .pointer (some ⟨kg, koff + 12, none⟩)] 66 rfl) (by simp) rfl 3) ((HF1.out.next hbr).docs HM.out (docs_three HDS.out HN.out)) (fun x hx => kid_ok HOK.out.shape HOK.out.bulk x (by simp only [List.mem_cons, List.not_mem_nil, or_false] at hx; rcases hx with rfl | rfl | rfl <;> exact List.getElem_mem _)) (by have := wt_three HN.out; have := HWT.out; omega)).mono ?_
  rintro e w2 ⟨rfl, hb2⟩
  have HF2 := Lib.hid ((HF1.out.next hbr).next hb2)
  clear hb2 hbr
  rw [HY2.out]
  refine hK _ _ trivial ?_
  clear hK K
  try simp only [Act.put, List.setIfInBounds_toArray, List.set_cons_zero, List.set_cons_succ]
  refine wpSeq_step rfl (fun K hK => ?_)
  go_simp
  refine hK _ _ trivial ?_
  clear hK K
  try simp only [Act.put, List.setIfInBounds_toArray, List.set_cons_zero, List.set_cons_succ]
  first
    | change Exit.then _ _ Exit.normal _ _
    | change Exit.inBlock _ _ Exit.normal _ _
  have hcap2 : 2 ≤ cap := by omega
  have hcne : cap ≠ 2 := by omega
  have xb := HF2.out.x
  go_upto_region 5 with fail
  refine wp_region_seq (fun w' => w'.cell? ⟨w.heap.size, 0, none⟩ = some (.pointer p)) 6 3 (by kernel_rfl) rfl (by kernel_rfl) (by intro _ _ d _ _ h; cases d <;> exact h) xb ?_
  simp only [List.take_succ_cons, List.take_zero, List.drop_succ_cons, List.drop_zero, List.cons_append, List.nil_append]
  repeat (refine wpHeld_step rfl ?_; apply Exists.intro; refine ⟨fun wq hq => ?_, ?_⟩; (have q1 := hq; go_simp; first | done | rfl); simp only [Act.put, List.setIfInBounds_toArray, List.set_cons_zero, List.set_cons_succ])
  change wpSeq _ _ _ _ _ _ _
  refine wpSeq_step rfl (fun K hK => ?_)
  go_simp
  have hb5 : Below w2.heap.size w2 (w2.alloc (.cells #[.int .i64 9, .string ⟨#[]⟩, .slice (some ⟨kg, koff + 12, none⟩) (m + 1) (cap - 2), .bool false, .int .i64 0, .int .i64 0] 24)) := (Below.refl _ _).alloc (Nat.le_refl _) _
  have hk5 : Blk (w2.alloc (.cells #[.int .i64 9, .string ⟨#[]⟩, .slice (some ⟨kg, koff + 12, none⟩) (m + 1) (cap - 2), .bool false, .int .i64 0, .int .i64 0] 24)) w2.heap.size [.int .i64 9, .string ⟨#[]⟩, .slice (some ⟨kg, koff + 12, none⟩) (m + 1) (cap - 2), .bool false, .int .i64 0, .int .i64 0] 24 := Blk.new' (W := w2) _ _ rfl
  have xv := (HF2.out.next hb5.drew).x
  refine hK _ _ xv ?_
  clear hK K
  try simp only [Act.put, List.setIfInBounds_toArray, List.set_cons_zero, List.set_cons_succ]
  refine wpSeq_step rfl (fun K hK => ?_)
  go_simp
  obtain ⟨V5, hV5⟩ : ∃ V5, V5 = w2.alloc (.cells #[.int .i64 9, .string ⟨#[]⟩, .slice (some ⟨kg, koff + 12, none⟩) (m + 1) (cap - 2), .bool false, .int .i64 0, .int .i64 0] 24) := ⟨_, rfl⟩
  have H5E : Hid (V5.heap.size = w2.heap.size + 1) := Lib.hid (by rw [hV5]; simp)
  rw [← hV5] at hb5 hk5 ⊢
  clear hV5 xv
  have HF5 := Lib.hid (HF2.out.next hb5)
  have h5s : w2.heap.size < V5.heap.size := hk5.lt
  have hbv : Below V5.heap.size V5 (V5.alloc (.cells #[.pointer (some ⟨w2.heap.size, 0, none⟩)] 66)).drew := ((Below.refl _ _).alloc (Nat.le_refl _) _).drew
  have HBV := Lib.hid hbv
  have HD5 : Hid (DocAt V5 B0 (s.F b mb V5) (fillD (d.kids.drop 2)) ⟨w2.heap.size, 0, none⟩) := Lib.hid (fillD_at HN.out (HKV.out.of (Nat.le_refl _) (Nat.le_refl _) (fun q _ hq => HM.out.fix HF5.out.g.1 q hq)) ⟨h5s, fun hx => by have := HF2.out.m.X_lt hx; omega⟩ hk5)
  have xv := (HF5.out.next hbv).x
  refine hK _ _ xv ?_
  clear hbv hb5 hk5
  clear hK K
  try simp only [Act.put, List.setIfInBounds_toArray, List.set_cons_zero, List.set_cons_succ]
  refine wpSeq_step rfl (fun K hK => ?_)
  go_simp
  refine (FAt.push HF5.out HBV.out HI.out false (ds := [fillD (d.kids.drop 2)]) (la := [⟨w2.heap.size, 0, none⟩]) (docs_single HD5.out) (fun x hx => by rw [List.mem_singleton] at hx; rw [hx]; exact fillD_ok HOK.out HK.out HN.out) (gp := w2.heap.size + 1) (by exact Blk.new' (W := V5) (g := w2.heap.size + 1) [.pointer (some ⟨w2.heap.size, 0, none⟩)] 66 H5E.out.symm) (by rw [H5E.out]; exact Nat.le_refl _) rfl (by have := fillD_wt HN.out; have := HWT.out; omega)).mono ?_
  rintro e w3 ⟨rfl, t3, hm3, hf3⟩
  have HM3 := Lib.hid hm3
  have HF3 := Lib.hid hf3
  refine hK _ _ hf3.x ?_
  clear hm3 hf3 xb xv HBV
  clear hK K
  try simp only [Act.put, List.setIfInBounds_toArray, List.set_cons_zero, List.set_cons_succ]
  first
    | change Exit.then _ _ Exit.normal _ _
    | change Exit.inBlock _ _ Exit.normal _ _
  have xb := HF3.out.x
  go_upto_region 6 with fail
  refine wp_region_seq (fun w' => w'.cell? ⟨w.heap.size, 0, none⟩ = some (.pointer p)) 6 2 (by kernel_rfl) rfl (by kernel_rfl) (by intro _ _ d _ _ h; cases d <;> exact h) xb ?_
  simp only [List.take_succ_cons, List.take_zero, List.drop_succ_cons, List.drop_zero, List.cons_append, List.nil_append]
  repeat (refine wpHeld_step rfl ?_; apply Exists.intro; refine ⟨fun wq hq => ?_, ?_⟩; (have q1 := hq; go_simp; first | done | rfl); simp only [Act.put, List.setIfInBounds_toArray, List.set_cons_zero, List.set_cons_succ])
  change wpSeq _ _ _ _ _ _ _
  refine wpSeq_step rfl (fun K hK => ?_)
  go_simp
  have hbv : Below w3.heap.size w3 (w3.alloc (.cells #[.pointer (some ⟨kg, koff + 6, none⟩)] 66)).drew := ((Below.refl _ _).alloc (Nat.le_refl _) _).drew
  have HBV := Lib.hid hbv
  have xv := (HF3.out.next hbv).x
  refine hK _ _ xv ?_
  clear hbv
  clear hK K
  try simp only [Act.put, List.setIfInBounds_toArray, List.set_cons_zero, List.set_cons_succ]
  refine wpSeq_step rfl (fun K hK => ?_)
  go_simp
  refine (FAt.push HF3.out HBV.out HI.out y2 (FAt.docs HM.out HF3.out (docs_nth HDS.out 1 (by have := HN.out; omega))) (fun x hx => by rw [List.mem_singleton] at hx; rw [hx]; exact HOK.out.kid (List.getElem_mem _)) (la := [⟨kg, koff + 6, none⟩]) (by exact Blk.new' (W := w3) (g := w3.heap.size) [.pointer (some ⟨kg, koff + 6, none⟩)] 66 rfl) (Nat.le_refl _) rfl (by have h1 := weight_pushed HM3.out; have := fillD_wt HN.out; have := HWT.out; omega)).mono ?_
  rintro e w4 ⟨rfl, t4, hmt4, hft4⟩
  have HM4 := Lib.hid hmt4
  have HF4 := Lib.hid hft4
  refine hK _ _ hft4.x ?_
  clear hmt4 hft4 xb xv HBV
  clear hK K
  try simp only [Act.put, List.setIfInBounds_toArray, List.set_cons_zero, List.set_cons_succ]
  first
    | change Exit.then _ _ Exit.normal _ _
    | change Exit.inBlock _ _ Exit.normal _ _
  have xb := HF4.out.x
  go_upto_region 7 with fail
  refine wp_region_seq (fun w' => w'.cell? ⟨w.heap.size, 0, none⟩ = some (.pointer p)) 6 2 (by kernel_rfl) rfl (by kernel_rfl) (by intro _ _ d _ _ h; cases d <;> exact h) xb ?_
  simp only [List.take_succ_cons, List.take_zero, List.drop_succ_cons, List.drop_zero, List.cons_append, List.nil_append]
  repeat (refine wpHeld_step rfl ?_; apply Exists.intro; refine ⟨fun wq hq => ?_, ?_⟩; (have q1 := hq; go_simp; first | done | rfl); simp only [Act.put, List.setIfInBounds_toArray, List.set_cons_zero, List.set_cons_succ])
  change wpSeq _ _ _ _ _ _ _
  refine wpSeq_step rfl (fun K hK => ?_)
  go_simp
  have hbv : Below w4.heap.size w4 (w4.alloc (.cells #[.pointer (some ⟨kg, koff, none⟩)] 66)).drew := ((Below.refl _ _).alloc (Nat.le_refl _) _).drew
  have HBV := Lib.hid hbv
  have xv := (HF4.out.next hbv).x
  refine hK _ _ xv ?_
  clear hbv
  clear hK K
  try simp only [Act.put, List.setIfInBounds_toArray, List.set_cons_zero, List.set_cons_succ]
  refine wpSeq_step rfl (fun K hK => ?_)
  go_simp
  refine (FAt.push HF4.out HBV.out HI.out y1 (FAt.docs HM.out HF4.out (docs_nth HDS.out 0 (by have := HN.out; omega))) (fun x hx => by rw [List.mem_singleton] at hx; rw [hx]; exact HOK.out.kid (List.getElem_mem _)) (la := [⟨kg, koff, none⟩]) (by exact Blk.new' (W := w4) (g := w4.heap.size) [.pointer (some ⟨kg, koff, none⟩)] 66 rfl) (Nat.le_refl _) rfl (by have h1 := weight_pushed HM3.out; have h2 := weight_pushed HM4.out; have := fillD_wt HN.out; have := HWT.out; omega)).mono ?_
  rintro e w5 ⟨rfl, t5, hmt5, hft5⟩
  have HM6 := Lib.hid hmt5
  have HF6 := Lib.hid hft5
  refine hK _ _ hft5.x ?_
  clear hmt5 hft5 xb xv HBV
  clear hK K
  try simp only [Act.put, List.setIfInBounds_toArray, List.set_cons_zero, List.set_cons_succ]
  first
    | change Exit.then _ _ Exit.normal _ _
    | change Exit.inBlock _ _ Exit.normal _ _
  go_wp2_with fail
  go_end0
  rw [HRR.out]
  exact ⟨rfl, t5, by rw [HM6.out, HM4.out, HM3.out], HF6.out.m, HF6.out.g⟩
end

section
open Go.RowKit
set_option maxRecDepth 100000
set_option linter.unusedVariables false
set_option linter.unusedSimpArgs false
set_option maxHeartbeats 16000000 in
theorem fill_none {B0 b mb : Nat} {ov : OptV} {s : MS} {w : World} (h : MAt B0 b mb ov s w) {ind : Ind} (p : Option Addr) (flat : Bool) {d : Doc} {a : Addr} (hd : DocAt w B0 (s.F b mb w) d a) (hn : d.kids.length = 0) :
    Calls Tryd.prog 52 #[.pointer (some ⟨b, 0, none⟩), .agg #[.pointer p, .bool flat, .pointer (some a)]] w fun e w' => Ends B0 b mb ov s w (some (fillM ov.o s.mach ind d.kids)) e w' := by
  obtain ⟨g, off, kv, rfl, hFg, h6, hkv⟩ := hd
  obtain ⟨A, cap, hkvs⟩ := hkv.slice
  have hbW : Below w.heap.size w (w.alloc (.cells #[.pointer p, .bool flat, .pointer (some ⟨g, off, none⟩)] 69)) := (Below.refl _ w).alloc (Nat.le_refl _) _
  have hcW : Blk (w.alloc (.cells #[.pointer p, .bool flat, .pointer (some ⟨g, off, none⟩)] 69)) w.heap.size [.pointer p, .bool flat, .pointer (some ⟨g, off, none⟩)] 69 := Blk.new' (W := w) _ _ rfl
  obtain ⟨W, hW⟩ : ∃ W, W = w.alloc (.cells #[.pointer p, .bool flat, .pointer (some ⟨g, off, none⟩)] 69) := ⟨_, rfl⟩
  rw [← hW] at hbW hcW
  have k2 := (hbW.cell (p := ⟨g, off + 2, none⟩) hFg.1).trans h6.kids
  rw [hkvs, hn] at k2
  have x2 := hcW.cell 2
  simp only [List.getElem?_cons_zero, List.getElem?_cons_succ] at x2
  have HR : Hid (fillM ov.o s.mach ind d.kids = s.mach) := Lib.hid (by rw [List.eq_nil_of_length_eq_zero hn]; rfl)
  have HWW := Lib.hid hW
  have HM := Lib.hid h
  have HBW := Lib.hid hbW
  clear h hbW hW hcW h6 hkv hFg hkvs hn
  go_enter Tryd.func52, Tryd.ntmps52
  go_upto_region 1 with fail
  rw [← HWW.out]
  go_wp2_with fail
  go_end0
  rw [HR.out]
  exact ⟨rfl, s, rfl, HM.out.below HBW.out, Goes.of_below HBW.out⟩
end

section
open Go.RowKit
set_option maxRecDepth 100000
set_option linter.unusedVariables false
set_option linter.unusedSimpArgs false
section
variable {P : Program} {md : Region.Mode} {ops : Array Oper} {Q : Exit → Act → World → Prop} {S : World → Prop}
theorem any_take (i : Nat) {oi : Oper} {fuel : Nat} {listed : Array Bool} {a : Act} {w : World} (hi : ops[i]? = some oi) (hs : Region.noSelect ops = true) (hf : Region.free md ops listed i = true) (hr : (Region.ready md ops listed).contains i = true) (hg : oi.guard = none)
    (hQ : ∀ c a d v w, Q (.panic c) (Act.put a d v) w → Q (.panic c) a w) (hS : S w) (h : ∃ v, (∀ w, S w → (execOp a.eval oi).run P w = .ok (.value v) w) ∧ wpAnyH P md ops Q S fuel (listed.setIfInBounds i true) (a.put oi.dst v) w) : wpAnyH P md ops Q S (fuel + 1) listed a w := by
  obtain ⟨v, hy, h⟩ := h
  exact wpAnyH_take hi hs hf hr (fun c a w hh => hQ c a _ _ w hh) (.inl ⟨by simp [Region.wanted, hg], hy⟩) hS h
theorem any_step (i : Nat) {oi : Oper} {fuel : Nat} {listed : Array Bool} {a : Act} {w : World} (hi : ops[i]? = some oi) (hg : oi.guard = none)
    (h : ∀ K : Act → World → Prop, (∀ a' w', S w' → wpAnyH P md ops Q S fuel (listed.setIfInBounds i true) a' w' → K a' w') → oi.wp P a w K Q) : wpOp P ops Q i (fun a' w' => S w' ∧ wpAnyH P md ops Q S fuel (listed.setIfInBounds i true) a' w') a w := by
  unfold wpOp
  simp only [hi]
  rw [if_pos (by simp [Region.wanted, hg])]
  exact .inl (h _ fun _ _ h1 h2 => ⟨h1, h2⟩)
end
set_option maxHeartbeats 16000000 in
theorem fill_only {B0 b mb : Nat} {ov : OptV} {s : MS} {w : World} (h : MAt B0 b mb ov s w) {ind : Ind} {p : Option Addr} (hi : IndAt w (s.F b mb w) ind p) (flat : Bool) {d : Doc} {a : Addr} (hd : DocAt w B0 (s.F b mb w) d a) (hok : CmOk ind d) (hn : d.kids.length = 1) (hw : s.weight + d.wt ≤ 16777216) :
    Calls Tryd.prog 52 #[.pointer (some ⟨b, 0, none⟩), .agg #[.pointer p, .bool flat, .pointer (some a)]] w fun e w' => Ends B0 b mb ov s w (some (fillM ov.o s.mach ind d.kids)) e w' := by
  obtain ⟨g, off, kv, rfl, hFg, h6, hkv⟩ := hd
  obtain ⟨A, cap, hkvs⟩ := hkv.slice
  rw [hkvs] at hkv
  obtain ⟨hn0, hnc, kg, koff, hA, hds⟩ := docs_kids h hkv
  obtain rfl := hA (by omega)
  have hnl := kids_len_bulk hok.bulk
  have hbW : Below w.heap.size w (w.alloc (.cells #[.pointer p, .bool flat, .pointer (some ⟨g, off, none⟩)] 69)) := (Below.refl _ w).alloc (Nat.le_refl _) _
  have hcW : Blk (w.alloc (.cells #[.pointer p, .bool flat, .pointer (some ⟨g, off, none⟩)] 69)) w.heap.size [.pointer p, .bool flat, .pointer (some ⟨g, off, none⟩)] 69 := Blk.new' (W := w) _ _ rfl
  obtain ⟨W, hW⟩ : ∃ W, W = w.alloc (.cells #[.pointer p, .bool flat, .pointer (some ⟨g, off, none⟩)] 69) := ⟨_, rfl⟩
  rw [← hW] at hbW hcW
  have hgl : g < w.heap.size := hFg.1
  have k2 := (hbW.cell (p := ⟨g, off + 2, none⟩) hgl).trans h6.kids
  have HFA : Hid (FAt B0 b mb ov s w p s W) := Lib.hid { m := h.below hbW, g := Goes.of_below hbW, x := hcW.cell 0, lt := hcW.lt, nx := fun hx => by have := h.X_lt hx; omega }
  rw [hkvs, hn] at k2
  rw [hn] at hnc hnl
  have x2 := hcW.cell 2
  simp only [List.getElem?_cons_zero, List.getElem?_cons_succ] at x2
  have HWW := Lib.hid hW
  have HM := Lib.hid h
  have HI := Lib.hid hi
  have HOK := Lib.hid hok
  have HDS := Lib.hid hds
  have HN := Lib.hid hn
  have HWT := Lib.hid hw
  have HKV := Lib.hid hkv
  obtain ⟨y1, hy1⟩ : ∃ y1, fitsM ov.o s.mach true true [d.kids[0]'(by have := HN.out; omega)] = y1 := ⟨_, rfl⟩
  have HR : Hid (fillM ov.o s.mach ind d.kids = pushM s.mach ind y1 [d.kids[0]'(by have := HN.out; omega)]) := Lib.hid (by rw [fill_one hn, hy1])
  have HY1 := Lib.hid hy1
  clear h hi hok hds hbW hW hw hcW h6 hkv hFg hkvs hA hn0 hy1
  go_enter Tryd.func52, Tryd.ntmps52
  go_upto_region 1 with fail
  rw [← HWW.out]
  go_upto_region 10 with fail
  have xb := HFA.out.x
  refine wp_region_held (S := fun w' => w'.cell? ⟨w.heap.size, 0, none⟩ = some (.pointer p)) (by kernel_rfl) ?_
  change wpAnyH _ _ _ _ _ 12 _ _ _
  refine any_take 0 rfl (by kernel_rfl) (by kernel_rfl) (by kernel_rfl) rfl (by intro _ _ d _ _ h; cases d <;> exact h) xb ?_
  apply Exists.intro
  refine ⟨fun wq hq => ?_, ?_⟩
  · have q1 := hq
    go_simp
    first | done | rfl
  simp only [Act.put, List.setIfInBounds_toArray, List.set_cons_zero, List.set_cons_succ]
  refine any_take 1 rfl (by kernel_rfl) (by kernel_rfl) (by kernel_rfl) rfl (by intro _ _ d _ _ h; cases d <;> exact h) xb ?_
  apply Exists.intro
  refine ⟨fun wq hq => ?_, ?_⟩
  · have q1 := hq
    go_simp
    first | done | rfl
  simp only [Act.put, List.setIfInBounds_toArray, List.set_cons_zero, List.set_cons_succ]
  refine any_take 2 rfl (by kernel_rfl) (by kernel_rfl) (by kernel_rfl) rfl (by intro _ _ d _ _ h; cases d <;> exact h) xb ?_
  apply Exists.intro
  refine ⟨fun wq hq => ?_, ?_⟩
  · have q1 := hq
    go_simp
    first | done | rfl
  simp only [Act.put, List.setIfInBounds_toArray, List.set_cons_zero, List.set_cons_succ]
  refine any_take 3 rfl (by kernel_rfl) (by kernel_rfl) (by kernel_rfl) rfl (by intro _ _ d _ _ h; cases d <;> exact h) xb ?_
  apply Exists.intro
  refine ⟨fun wq hq => ?_, ?_⟩
  · have q1 := hq
    go_simp
    first | done | rfl
  simp only [Act.put, List.setIfInBounds_toArray, List.set_cons_zero, List.set_cons_succ]
  refine any_take 4 rfl (by kernel_rfl) (by kernel_rfl) (by kernel_rfl) rfl (by intro _ _ d _ _ h; cases d <;> exact h) xb ?_
  apply Exists.intro
  refine ⟨fun wq hq => ?_, ?_⟩
  · have q1 := hq
    go_simp
    first | done | rfl
  simp only [Act.put, List.setIfInBounds_toArray, List.set_cons_zero, List.set_cons_succ]
  refine any_take 5 rfl (by kernel_rfl) (by kernel_rfl) (by kernel_rfl) rfl (by intro _ _ d _ _ h; cases d <;> exact h) xb ?_
  apply Exists.intro
  refine ⟨fun wq hq => ?_, ?_⟩
  · have q1 := hq
    go_simp
    first | done | rfl
  simp only [Act.put, List.setIfInBounds_toArray, List.set_cons_zero, List.set_cons_succ]
  refine any_take 8 rfl (by kernel_rfl) (by kernel_rfl) (by kernel_rfl) rfl (by intro _ _ d _ _ h; cases d <;> exact h) xb ?_
  apply Exists.intro
  refine ⟨fun wq hq => ?_, ?_⟩
  · have q1 := hq
    go_simp
    first | done | rfl
  simp only [Act.put, List.setIfInBounds_toArray, List.set_cons_zero, List.set_cons_succ]
  refine any_take 9 rfl (by kernel_rfl) (by kernel_rfl) (by kernel_rfl) rfl (by intro _ _ d _ _ h; cases d <;> exact h) xb ?_
  apply Exists.intro
  refine ⟨fun wq hq => ?_, ?_⟩
  · have q1 := hq
    go_simp
    first | done | rfl
  simp only [Act.put, List.setIfInBounds_toArray, List.set_cons_zero, List.set_cons_succ]
  clear xb
  refine wpAnyH_all (rs := [6, 10]) (by kernel_rfl) (by simp) (fun i hi => ?_)
  simp only [List.mem_cons, List.not_mem_nil, or_false] at hi
  rcases hi with rfl | rfl
  · refine any_step 6 rfl rfl (fun K hK => ?_)
    go_simp
    have hbVA : Below W.heap.size W (W.alloc (.cells #[.pointer (some ⟨kg, koff, none⟩)] 66)).drew := ((Below.refl _ _).alloc (Nat.le_refl _) _).drew
    have hkVA : Blk (W.alloc (.cells #[.pointer (some ⟨kg, koff, none⟩)] 66)).drew W.heap.size [.pointer (some ⟨kg, koff, none⟩)] 66 := Blk.new' (W := W) _ _ rfl
    obtain ⟨VA, eVA⟩ : ∃ VA, VA = (W.alloc (.cells #[.pointer (some ⟨kg, koff, none⟩)] 66)).drew := ⟨_, rfl⟩
    rw [← eVA] at hbVA hkVA ⊢
    have HWVA := Lib.hid ((Below.refl W.heap.size W).trans (hbVA.mono (Nat.le_refl _)))
    have HKVA := Lib.hid hkVA
    clear hbVA eVA hkVA
    refine hK _ _ (HFA.out.next HWVA.out).x ?_
    clear hK K
    try simp only [Act.put, List.setIfInBounds_toArray, List.set_cons_zero, List.set_cons_succ]
    refine wpAnyH_all (rs := [7, 10]) (by kernel_rfl) (by simp) (fun i hi => ?_)
    simp only [List.mem_cons, List.not_mem_nil, or_false] at hi
    rcases hi with rfl | rfl
    · refine any_step 7 rfl rfl (fun K hK => ?_)
      go_simp
      refine (fits_is ((HFA.out.next HWVA.out).m) true true (ptrs_at (la := [⟨kg, koff, none⟩]) HKVA.out (HKVA.out).lt rfl 1) ((HFA.out.next HWVA.out).docs HM.out (docs_nth HDS.out 0 (by have := HN.out; omega))) (ok_nth HOK.out.shape HOK.out.bulk 0 (by have := HN.out; omega)) (by have := wt_nth d 0 (by have := HN.out; omega); have := HWT.out; omega)).mono ?_
      rintro e w1 ⟨rfl, hb1⟩
      have HW1 := Lib.hid (HWVA.out.trans (hb1.mono HWVA.out.size))
      have HB1 := Lib.hid hb1
      clear hb1
      rw [HY1.out]
      refine hK _ _ (HFA.out.next HW1.out).x ?_
      clear hK K
      try simp only [Act.put, List.setIfInBounds_toArray, List.set_cons_zero, List.set_cons_succ]
      refine wpAnyH_all (rs := [10]) (by kernel_rfl) (by simp) (fun i hi => ?_)
      obtain rfl : i = 10 := by simpa using hi
      refine any_step 10 rfl rfl (fun K hK => ?_)
      go_simp
      have hbVB : Below w1.heap.size w1 (w1.alloc (.cells #[.pointer (some ⟨kg, koff, none⟩)] 66)) := (Below.refl _ _).alloc (Nat.le_refl _) _
      have hkVB : Blk (w1.alloc (.cells #[.pointer (some ⟨kg, koff, none⟩)] 66)) w1.heap.size [.pointer (some ⟨kg, koff, none⟩)] 66 := Blk.new' (W := w1) _ _ rfl
      obtain ⟨VB, eVB⟩ : ∃ VB, VB = (w1.alloc (.cells #[.pointer (some ⟨kg, koff, none⟩)] 66)) := ⟨_, rfl⟩
      rw [← eVB] at hbVB hkVB ⊢
      have HWVB := Lib.hid (HW1.out.trans (hbVB.mono HW1.out.size))
      have HKVB := Lib.hid hkVB
      clear hbVB eVB hkVB
      refine hK _ _ (HFA.out.next HWVB.out).x ?_
      clear hK K
      try simp only [Act.put, List.setIfInBounds_toArray, List.set_cons_zero, List.set_cons_succ]
      refine wpAnyH_all (rs := [11]) (by kernel_rfl) (by simp) (fun i hi => ?_)
      obtain rfl : i = 11 := by simpa using hi
      refine any_step 11 rfl rfl (fun K hK => ?_)
      go_simp
      refine (FAt.push HFA.out HWVB.out HI.out y1 (HFA.out.docs HM.out (docs_nth HDS.out 0 (by have := HN.out; omega))) (fun x hx => by rw [List.mem_singleton] at hx; rw [hx]; exact HOK.out.kid (List.getElem_mem _)) (la := [⟨kg, koff, none⟩]) HKVB.out HW1.out.size rfl (by have := wt_nth d 0 (by have := HN.out; omega); have := HWT.out; omega)).mono ?_
      rintro e w5 ⟨rfl, t5, hm5, hf5⟩
      have HM5 := Lib.hid hm5
      have HF5 := Lib.hid hf5
      refine hK _ _ hf5.x ?_
      clear hm5 hf5
      clear hK K
      try simp only [Act.put, List.setIfInBounds_toArray, List.set_cons_zero, List.set_cons_succ]
      refine wpAnyH_done (by kernel_rfl) ?_ _
      first
        | change Exit.then _ _ Exit.normal _ _
        | change Exit.inBlock _ _ Exit.normal _ _
      go_wp2_with fail
      go_end0
      rw [HR.out]
      exact ⟨rfl, t5, HM5.out, HF5.out.m, HF5.out.g⟩
    · refine any_step 10 rfl rfl (fun K hK => ?_)
      go_simp
      have hbVB : Below VA.heap.size VA (VA.alloc (.cells #[.pointer (some ⟨kg, koff, none⟩)] 66)) := (Below.refl _ _).alloc (Nat.le_refl _) _
      have hkVB : Blk (VA.alloc (.cells #[.pointer (some ⟨kg, koff, none⟩)] 66)) VA.heap.size [.pointer (some ⟨kg, koff, none⟩)] 66 := Blk.new' (W := VA) _ _ rfl
      obtain ⟨VB, eVB⟩ : ∃ VB, VB = (VA.alloc (.cells #[.pointer (some ⟨kg, koff, none⟩)] 66)) := ⟨_, rfl⟩
      rw [← eVB] at hbVB hkVB ⊢
      have HWVB := Lib.hid (HWVA.out.trans (hbVB.mono HWVA.out.size))
      have HKVB := Lib.hid hkVB
      have HKVAB := Lib.hid (HKVA.out.below hbVB)
      clear hbVB eVB hkVB
      refine hK _ _ (HFA.out.next HWVB.out).x ?_
      clear hK K
      try simp only [Act.put, List.setIfInBounds_toArray, List.set_cons_zero, List.set_cons_succ]
      refine wpAnyH_all (rs := [7]) (by kernel_rfl) (by simp) (fun i hi => ?_)
      obtain rfl : i = 7 := by simpa using hi
      refine any_step 7 rfl rfl (fun K hK => ?_)
      go_simp
      refine (fits_is ((HFA.out.next HWVB.out).m) true true (ptrs_at (la := [⟨kg, koff, none⟩]) (show Blk VB W.heap.size _ _ from HKVAB.out) ((show Blk VB W.heap.size _ _ from HKVAB.out)).lt rfl 1) ((HFA.out.next HWVB.out).docs HM.out (docs_nth HDS.out 0 (by have := HN.out; omega))) (ok_nth HOK.out.shape HOK.out.bulk 0 (by have := HN.out; omega)) (by have := wt_nth d 0 (by have := HN.out; omega); have := HWT.out; omega)).mono ?_
      rintro e w1 ⟨rfl, hb1⟩
      have HW1 := Lib.hid (HWVB.out.trans (hb1.mono HWVB.out.size))
      have HB1 := Lib.hid hb1
      clear hb1
      rw [HY1.out]
      refine hK _ _ (HFA.out.next HW1.out).x ?_
      clear hK K
      try simp only [Act.put, List.setIfInBounds_toArray, List.set_cons_zero, List.set_cons_succ]
      refine wpAnyH_all (rs := [11]) (by kernel_rfl) (by simp) (fun i hi => ?_)
      obtain rfl : i = 11 := by simpa using hi
      refine any_step 11 rfl rfl (fun K hK => ?_)
      go_simp
      refine (FAt.push HFA.out HW1.out HI.out y1 (HFA.out.docs HM.out (docs_nth HDS.out 0 (by have := HN.out; omega))) (fun x hx => by rw [List.mem_singleton] at hx; rw [hx]; exact HOK.out.kid (List.getElem_mem _)) (la := [⟨kg, koff, none⟩]) (HKVB.out.below HB1.out) HWVA.out.size rfl (by have := wt_nth d 0 (by have := HN.out; omega); have := HWT.out; omega)).mono ?_
      rintro e w5 ⟨rfl, t5, hm5, hf5⟩
      have HM5 := Lib.hid hm5
      have HF5 := Lib.hid hf5
      refine hK _ _ hf5.x ?_
      clear hm5 hf5
      clear hK K
      try simp only [Act.put, List.setIfInBounds_toArray, List.set_cons_zero, List.set_cons_succ]
      refine wpAnyH_done (by kernel_rfl) ?_ _
      first
        | change Exit.then _ _ Exit.normal _ _
        | change Exit.inBlock _ _ Exit.normal _ _
      go_wp2_with fail
      go_end0
      rw [HR.out]
      exact ⟨rfl, t5, HM5.out, HF5.out.m, HF5.out.g⟩
  · refine any_step 10 rfl rfl (fun K hK => ?_)
    go_simp
    have hbVA : Below W.heap.size W (W.alloc (.cells #[.pointer (some ⟨kg, koff, none⟩)] 66)).drew := ((Below.refl _ _).alloc (Nat.le_refl _) _).drew
    have hkVA : Blk (W.alloc (.cells #[.pointer (some ⟨kg, koff, none⟩)] 66)).drew W.heap.size [.pointer (some ⟨kg, koff, none⟩)] 66 := Blk.new' (W := W) _ _ rfl
    obtain ⟨VA, eVA⟩ : ∃ VA, VA = (W.alloc (.cells #[.pointer (some ⟨kg, koff, none⟩)] 66)).drew := ⟨_, rfl⟩
    rw [← eVA] at hbVA hkVA ⊢
    have HWVA := Lib.hid ((Below.refl W.heap.size W).trans (hbVA.mono (Nat.le_refl _)))
    have HKVA := Lib.hid hkVA
    clear hbVA eVA hkVA
    refine hK _ _ (HFA.out.next HWVA.out).x ?_
    clear hK K
    try simp only [Act.put, List.setIfInBounds_toArray, List.set_cons_zero, List.set_cons_succ]
    refine wpAnyH_all (rs := [6]) (by kernel_rfl) (by simp) (fun i hi => ?_)
    obtain rfl : i = 6 := by simpa using hi
    refine any_step 6 rfl rfl (fun K hK => ?_)
    go_simp
    have hbVB : Below VA.heap.size VA (VA.alloc (.cells #[.pointer (some ⟨kg, koff, none⟩)] 66)) := (Below.refl _ _).alloc (Nat.le_refl _) _
    have hkVB : Blk (VA.alloc (.cells #[.pointer (some ⟨kg, koff, none⟩)] 66)) VA.heap.size [.pointer (some ⟨kg, koff, none⟩)] 66 := Blk.new' (W := VA) _ _ rfl
    obtain ⟨VB, eVB⟩ : ∃ VB, VB = (VA.alloc (.cells #[.pointer (some ⟨kg, koff, none⟩)] 66)) := ⟨_, rfl⟩
    rw [← eVB] at hbVB hkVB ⊢
    have HWVB := Lib.hid (HWVA.out.trans (hbVB.mono HWVA.out.size))
    have HKVB := Lib.hid hkVB
    have HKVAB := Lib.hid (HKVA.out.below hbVB)
    clear hbVB eVB hkVB
    refine hK _ _ (HFA.out.next HWVB.out).x ?_
    clear hK K
    try simp only [Act.put, List.setIfInBounds_toArray, List.set_cons_zero, List.set_cons_succ]
    refine wpAnyH_all (rs := [7]) (by kernel_rfl) (by simp) (fun i hi => ?_)
    obtain rfl : i = 7 := by simpa using hi
    refine any_step 7 rfl rfl (fun K hK => ?_)
    go_simp
    refine (fits_is ((HFA.out.next HWVB.out).m) true true (ptrs_at (la := [⟨kg, koff, none⟩]) HKVB.out (HKVB.out).lt rfl 1) ((HFA.out.next HWVB.out).docs HM.out (docs_nth HDS.out 0 (by have := HN.out; omega))) (ok_nth HOK.out.shape HOK.out.bulk 0 (by have := HN.out; omega)) (by have := wt_nth d 0 (by have := HN.out; omega); have := HWT.out; omega)).mono ?_
    rintro e w1 ⟨rfl, hb1⟩
    have HW1 := Lib.hid (HWVB.out.trans (hb1.mono HWVB.out.size))
    have HB1 := Lib.hid hb1
    clear hb1
    rw [HY1.out]
    refine hK _ _ (HFA.out.next HW1.out).x ?_
    clear hK K
    try simp only [Act.put, List.setIfInBounds_toArray, List.set_cons_zero, List.set_cons_succ]
    refine wpAnyH_all (rs := [11]) (by kernel_rfl) (by simp) (fun i hi => ?_)
    obtain rfl : i = 11 := by simpa using hi
    refine any_step 11 rfl rfl (fun K hK => ?_)
    go_simp
    refine (FAt.push HFA.out HW1.out HI.out y1 (HFA.out.docs HM.out (docs_nth HDS.out 0 (by have := HN.out; omega))) (fun x hx => by rw [List.mem_singleton] at hx; rw [hx]; exact HOK.out.kid (List.getElem_mem _)) (la := [⟨kg, koff, none⟩]) (HKVAB.out.below HB1.out) (Nat.le_refl _) rfl (by have := wt_nth d 0 (by have := HN.out; omega); have := HWT.out; omega)).mono ?_
    rintro e w5 ⟨rfl, t5, hm5, hf5⟩
    have HM5 := Lib.hid hm5
    have HF5 := Lib.hid hf5
    refine hK _ _ hf5.x ?_
    clear hm5 hf5
    clear hK K
    try simp only [Act.put, List.setIfInBounds_toArray, List.set_cons_zero, List.set_cons_succ]
    refine wpAnyH_done (by kernel_rfl) ?_ _
    first
      | change Exit.then _ _ Exit.normal _ _
      | change Exit.inBlock _ _ Exit.normal _ _
    go_wp2_with fail
    go_end0
    rw [HR.out]
    exact ⟨rfl, t5, HM5.out, HF5.out.m, HF5.out.g⟩
end

section
open Go.RowKit
theorem fill_is {B0 b mb : Nat} {ov : OptV} {s : MS} {w : World} (h : MAt B0 b mb ov s w) {ind : Ind} {p : Option Addr} (hi : IndAt w (s.F b mb w) ind p) (flat : Bool) {d : Doc} {a : Addr} (hd : DocAt w B0 (s.F b mb w) d a) (hok : CmOk ind d) (hk : d.kind = 9) (hw : s.weight + d.wt ≤ 16777216) :
    Calls Tryd.prog 52 #[.pointer (some ⟨b, 0, none⟩), .agg #[.pointer p, .bool flat, .pointer (some a)]] w fun e w' => Ends B0 b mb ov s w (some (fillM ov.o s.mach ind d.kids)) e w' := by
  have h9 := kids_9 hok.shape hk
  by_cases h0 : d.kids.length = 0
  · exact fill_none h p flat hd h0
  · by_cases h1 : d.kids.length = 1
    · exact fill_only h hi flat hd hok h1 hw
    · exact fill_many h hi flat hd hok hk (m := d.kids.length - 3) (by omega) hw
end
end Go.Proofs.YthljgiimdcbfpaaDoor
