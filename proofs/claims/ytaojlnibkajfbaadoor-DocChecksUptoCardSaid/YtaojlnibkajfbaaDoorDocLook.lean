/- doc.look: how many documents, or the error. -/
import Derived.Test.YtaojlnibkajfbaaDoorDocIter
import Derived.Test.YtaojlnibkajfbaaDoorDocForm
import Derived.Maps.AppendAt
namespace Go.Proofs.YtaojlnibkajfbaaDoor
open Go.RowKit Go.Shelf
set_option maxRecDepth 100000
set_option linter.unusedVariables false
set_option linter.unusedSimpArgs false
attribute [local go_sem] Oper.semAt_some

mutual
/-- Are all in it as the table says? -/
def Doc.shape : Doc → Bool
  | .mk k t ks b i y => formedF k t ks.length b i y && shapeL ks
def shapeL : List Doc → Bool
  | [] => true
  | d :: ds => d.shape && shapeL ds
end
theorem Doc.shape_eq (d : Doc) : d.shape = (d.formed && shapeL d.kids) := by cases d; rfl
def maxDep : List (Nat × Doc) → Nat
  | [] => 0
  | p :: l => max p.1 (maxDep l)
def allF (l : List (Nat × Doc)) : Bool := l.all fun p => p.2.formed
theorem maxDep_app (a b : List (Nat × Doc)) : maxDep (a ++ b) = max (maxDep a) (maxDep b) := by
  induction a with
  | nil => simp [maxDep]
  | cons p a ih => simp only [List.cons_append, maxDep, ih]; omega
theorem allF_app (a b : List (Nat × Doc)) : allF (a ++ b) = (allF a && allF b) := by simp [allF]
theorem maxDepL : ∀ (ks : List Doc), (∀ d ∈ ks, ∀ n, maxDep (d.pre n) + 1 = n + d.depth) → ∀ n, (depthL ks = 0 ∧ maxDep (preL ks n) = 0) ∨ (0 < depthL ks ∧ maxDep (preL ks n) + 1 = n + depthL ks)
  | [], _, _ => .inl ⟨rfl, rfl⟩
  | d :: ds, h, n => by
    have h1 := h d (by simp) n
    have h2 := maxDepL ds (fun x hx => h x (by simp [hx])) n
    have h3 := d.depth_eq
    have e1 : depthL (d :: ds) = max d.depth (depthL ds) := rfl
    have e2 : maxDep (preL (d :: ds) n) = max (maxDep (d.pre n)) (maxDep (preL ds n)) := by rw [← maxDep_app]; rfl
    rw [e1, e2]
    omega
theorem Doc.maxDep_pre (d : Doc) : ∀ n, maxDep (d.pre n) + 1 = n + d.depth := by
  refine Doc.ind (P := fun d => ∀ n, maxDep (d.pre n) + 1 = n + d.depth) (fun d ih n => ?_) d
  have h := maxDepL d.kids ih (n + 1)
  have e : maxDep (d.pre n) = max n (maxDep (preL d.kids (n + 1))) := by rw [Doc.pre_eq]; rfl
  rw [e, Doc.depth_eq]
  omega
theorem allFL : ∀ (ks : List Doc), (∀ d ∈ ks, ∀ n, allF (d.pre n) = d.shape) → ∀ n, allF (preL ks n) = shapeL ks
  | [], _, _ => rfl
  | d :: ds, h, n => by
    simp only [preL, shapeL, allF_app, h d (by simp) n, allFL ds (fun x hx => h x (by simp [hx])) n]
theorem Doc.allF_pre (d : Doc) : ∀ n, allF (d.pre n) = d.shape := by
  refine Doc.ind (P := fun d => ∀ n, allF (d.pre n) = d.shape) (fun d ih n => ?_) d
  rw [Doc.pre_eq, Doc.shape_eq]
  have : allF ((n, d) :: preL d.kids (n + 1)) = (d.formed && allF (preL d.kids (n + 1))) := by simp [allF]
  rw [this, allFL d.kids ih]
/-- What is told of a document: its error, its size. -/
def Doc.code (d : Doc) : Int := if 64000 < d.depth then 1501 else if d.shape = true then 0 else 1500
def Doc.sizeN (d : Doc) : Int := if d.code = 0 then d.nodes else 0

theorem walk_gives (p : Option Addr) (w : World) :
    Calls Tryd.prog 45 #[.pointer p] w fun e w' => e = .returned (.func (.func 50) #[] #[.pointer (some ⟨w.heap.size, 0, none⟩)]) ∧ w' = w.alloc (.cells #[.pointer p] 29) := by
  go_enter Tryd.func45, Tryd.ntmps45
  go_wp2
  go_ret
  exact ⟨rfl, rfl⟩
theorem Blk.of_below {A B : World} {n g : Nat} {cs : List Value} {e : TypeId} (h : Blk A g cs e) (hb : Below n A B) (hg : g < n) : Blk B g cs e := (hb.block g hg).trans h

/-- What lies in look's own cells. -/
structure LookAt (w : World) (xs : List (At w w.heap.size)) (W : World) : Prop where
  r0 : Blk W w.heap.size [.int .i64 0] 3
  r1 : Blk W (w.heap.size + 1) [.int .i64 0] 34
  size : Blk W (w.heap.size + 1 + 1) [.int .i64 (xs.length : Nat)] 3
  deep : Blk W (w.heap.size + 1 + 1 + 1) [.int .i64 (maxDep (xs.map At.proj) : Nat)] 3
  fine : Blk W (w.heap.size + 1 + 1 + 1 + 1) [.bool (allF (xs.map At.proj))] 4
  few : xs.length ≤ 8388608
  below : Below w.heap.size w W

theorem look_step {w W W1 W2 : World} {x : At w w.heap.size} {pre : List (At w w.heap.size)} {n1 : Nat} {md : Nat} {v : Value} (hat : LookAt w pre W) (hn1 : n1 = w.heap.size + 6) (hfew : pre.length + 1 ≤ 8388608) (hmd : maxDep (pre.map At.proj) = md)
    (hW1 : W1 = (W.setCell ⟨w.heap.size + 1 + 1, 0, none⟩ (.int .i64 ((pre.length : Int) + 1))).setCell ⟨w.heap.size + 1 + 1 + 1, 0, none⟩ (.int .i64 (max (md : Int) (x.dep : Int)))) (hW2 : Below W1.heap.size W1 W2)
    (hv : v = .bool (allF ((pre ++ [x]).map At.proj))) :
    KpN w.heap.size n1 W (W2.setCell ⟨w.heap.size + 1 + 1 + 1 + 1, 0, none⟩ v) ∧ LookAt w (pre ++ [x]) (W2.setCell ⟨w.heap.size + 1 + 1 + 1 + 1, 0, none⟩ v) := by
  have hz : w.heap.size + 5 ≤ W.heap.size := by have := hat.fine.lt; omega
  have hz1 : W1.heap.size = W.heap.size := by rw [hW1]; simp
  have k1 : KpN w.heap.size n1 W W1 := by
    rw [hW1]
    exact (KpN.setCell W _ _ (by simp; omega) (by simp; omega)).trans (KpN.setCell _ _ _ (by simp; omega) (by simp; omega))
  have k2 : KpN w.heap.size n1 W1 W2 := KpN.below hW2 (by omega)
  refine ⟨(k1.trans k2).trans (KpN.setCell _ _ _ (by simp; omega) (by simp; omega)), ?_⟩
  have b0 : Blk W1 w.heap.size [.int .i64 0] 3 := by rw [hW1]; exact (hat.r0.set_other (by first | (simp; done) | (simp; omega)) _).set_other (by first | (simp; done) | (simp; omega)) _
  have b1 : Blk W1 (w.heap.size + 1) [.int .i64 0] 34 := by rw [hW1]; exact (hat.r1.set_other (by first | (simp; done) | (simp; omega)) _).set_other (by first | (simp; done) | (simp; omega)) _
  have b2 : Blk W1 (w.heap.size + 1 + 1) [.int .i64 ((pre.length : Int) + 1)] 3 := by rw [hW1]; exact (hat.size.set 0 _).set_other (by first | (simp; done) | (simp; omega)) _
  have b3 : Blk W1 (w.heap.size + 1 + 1 + 1) [.int .i64 (max (md : Int) (x.dep : Int))] 3 := by rw [hW1]; exact (hat.deep.set_other (by first | (simp; done) | (simp; omega)) _).set 0 _
  have b4 : Blk W1 (w.heap.size + 1 + 1 + 1 + 1) [.bool (allF (pre.map At.proj))] 4 := by rw [hW1]; exact (hat.fine.set_other (by first | (simp; done) | (simp; omega)) _).set_other (by first | (simp; done) | (simp; omega)) _
  have e2 : (((pre ++ [x]).length : Nat) : Int) = (pre.length : Int) + 1 := by simp
  have e3 : ((maxDep ((pre ++ [x]).map At.proj) : Nat) : Int) = max (md : Int) (x.dep : Int) := by
    rw [List.map_append, maxDep_app, hmd]
    simp [maxDep, At.proj]
    omega
  refine ⟨?_, ?_, ?_, ?_, ?_, by simp; omega, ?_⟩
  · exact (b0.below hW2).set_other (by first | (simp; done) | (simp; omega)) _
  · exact (b1.below hW2).set_other (by first | (simp; done) | (simp; omega)) _
  · rw [e2]; exact (b2.below hW2).set_other (by first | (simp; done) | (simp; omega)) _
  · rw [e3]; exact (b3.below hW2).set_other (by first | (simp; done) | (simp; omega)) _
  · rw [← hv]; exact (b4.below hW2).set 0 _
  · have h1 : Below w.heap.size w W1 := by
      rw [hW1]
      exact (hat.below.setCell (p := ⟨w.heap.size + 1 + 1, 0, none⟩) (by simp; omega) _).setCell (p := ⟨w.heap.size + 1 + 1 + 1, 0, none⟩) (by simp; omega) _
    exact (h1.trans (hW2.mono (by omega))).setCell (p := ⟨w.heap.size + 1 + 1 + 1 + 1, 0, none⟩) (by simp; omega) _

set_option maxHeartbeats 4000000 in
theorem look_any (d0 : Doc) (g0 off0 : Nat) (kv0 : Value) (w : World) (hb : d0.bulk ≤ 4194304) (h6 : Six w g0 off0 d0 kv0) (hg0 : g0 < w.heap.size) (hkv : KV w 0 w.heap.size d0 kv0) (hT : Tabs w) :
    Calls Tryd.prog 33 #[.pointer (some ⟨g0, off0, none⟩)] w fun e w' => e = .returned (.tuple #[.int .i64 d0.sizeN, .int .i64 d0.code]) ∧ Below w.heap.size w w' := by
  have hn := d0.nodes_bulk
  have HT := Lib.hid hT
  have H6 := Lib.hid h6
  have HKV := Lib.hid hkv
  clear h6 hkv hT
  refine callsIn_wide.1 (callsIn_of_wp_marks (F := Fence.wide) (n := 5) Tryd.func33 rfl trivial ?_ rfl)
  simp only [Tryd.ntmps33, List.size_toArray, List.length_cons, List.length_nil, Nat.reduceAdd, Nat.reduceSub, Array.replicate_succ, Array.replicate_zero, List.push_toArray, List.append_toArray, List.nil_append, List.cons_append]
  refine wpIn_wide.2 ?_
  go_wp2_with fail
  refine (walk_gives _ _).mono ?_
  rintro e w1 ⟨rfl, rfl⟩
  go_wp2_with fail
  obtain ⟨W0, hW0⟩ : ∃ W0, (((((w.alloc (.cells #[.int .i64 0] 3)).alloc (.cells #[.int .i64 0] 34)).alloc (.cells #[.int .i64 0] 3)).alloc (.cells #[.int .i64 0] 3)).alloc (.cells #[.bool true] 4)).alloc (.cells #[.pointer (some ⟨g0, off0, none⟩)] 29) = W0 := ⟨_, rfl⟩
  rw [hW0]
  have hz0 : W0.heap.size = w.heap.size + 6 := by rw [← hW0]; simp
  have hb0 : Below w.heap.size w W0 := by
    rw [← hW0]
    exact ((((((Below.refl _ w).alloc (Nat.le_refl _) _).alloc (by simp) _).alloc (by simp; omega) _).alloc (by simp; omega) _).alloc (by simp; omega) _).alloc (by simp; omega) _
  have hat0 : LookAt w [] W0 := by
    rw [← hW0]
    refine ⟨?_, ?_, ?_, ?_, ?_, by simp, by rw [hW0]; exact hb0⟩
    · exact (((((Blk.new w [.int .i64 0] 3).alloc _).alloc _).alloc _).alloc _).alloc _
    · exact ((((Blk.new' (W := w.alloc _) [.int .i64 0] 34 (by simp)).alloc _).alloc _).alloc _).alloc _
    · exact (((Blk.new' (W := (w.alloc _).alloc _) [.int .i64 0] 3 (by simp)).alloc _).alloc _).alloc _
    · exact ((Blk.new' (W := ((w.alloc _).alloc _).alloc _) [.int .i64 0] 3 (by simp)).alloc _).alloc _
    · exact (Blk.new' (W := (((w.alloc _).alloc _).alloc _).alloc _) [.bool true] 4 (by simp)).alloc _
  have hbox : W0.cell? ⟨w.heap.size + 1 + 1 + 1 + 1 + 1, 0, none⟩ = some (.pointer (some ⟨g0, off0, none⟩)) := by
    rw [← hW0]
    exact (Blk.new' (W := ((((w.alloc _).alloc _).alloc _).alloc _).alloc _) [.pointer (some ⟨g0, off0, none⟩)] 29 (by simp)).cell 0
  clear hW0
  refine range_law (α := At w w.heap.size) (n0 := w.heap.size) (gf := 50) (lb := #[.pointer (some ⟨w.heap.size + 1 + 1 + 1 + 1 + 1, 0, none⟩)]) rfl (enters_of Tryd.func50 (by kernel_rfl) rfl) (encs := encAt) (fun _ => rfl) (by omega)
    (fun W hW => walk_iter d0 g0 off0 (w.heap.size + 1 + 1 + 1 + 1 + 1) w.heap.size W0.heap.size kv0 w W (Nat.le_refl _) hb (fun b hb => (hW.block b (by omega)).trans (hb0.block b hb)) H6.out hg0 HKV.out ((hW.cell (p := ⟨w.heap.size + 1 + 1 + 1 + 1 + 1, 0, none⟩) (by simp; omega)).trans hbox) (by omega) hW.size)
    (fun xs W => LookAt w xs W) (fun c xs W => c = .ret ∧ 8388608 < xs.length)
    (fun pre A B h hb => ⟨h.r0.of_below hb (by omega), h.r1.of_below hb (by omega), h.size.of_below hb (by omega), h.deep.of_below hb (by omega), h.fine.of_below hb (by omega), h.few, h.below.trans (hb.mono (by omega))⟩)
    (fun _ _ _ _ h _ => h) hat0
    (fun x => { tmps := #[.pointer (some ⟨g0, off0, none⟩), undef, .pointer (some ⟨w.heap.size, 0, none⟩), .pointer (some ⟨w.heap.size + 1, 0, none⟩), .pointer (some ⟨w.heap.size + 1 + 1, 0, none⟩), .pointer (some ⟨w.heap.size + 1 + 1 + 1, 0, none⟩), .pointer (some ⟨w.heap.size + 1 + 1 + 1 + 1, 0, none⟩),
      .int .i64 x.dep, .pointer (some ⟨x.g, x.off, none⟩), .pointer (some ⟨g0, off0, none⟩), .func (.func 50) #[] #[.pointer (some ⟨w.heap.size + 1 + 1 + 1 + 1 + 1, 0, none⟩)], .int .i64 x.dep, .pointer (some ⟨x.g, x.off, none⟩),
      undef, undef, undef, undef, undef, undef, undef, undef, undef, undef, undef, undef, undef, undef, undef, undef, undef, undef, undef], defers := [] }) ?assign ?body ?done ?stop
  case assign =>
    intro l x W K hK
    simp only [encAt]
    gi_wp2
    exact hK
  case body =>
    rintro l pre x W hat
    have c2 := hat.size.cell 0
    have c3 := hat.deep.cell 0
    have c4 := hat.fine.cell 0
    have c0 := hat.r0.cell 0
    have c1 := hat.r1.cell 0
    have f2 := hat.size.frozen 0
    have f3 := hat.deep.frozen 0
    have f4 := hat.fine.frozen 0
    have f0 := hat.r0.frozen 0
    have f1 := hat.r1.frozen 0
    have hfew := hat.few
    simp only [List.getElem?_cons_zero] at c0 c1 c2 c3 c4
    have HAT := Lib.hid hat
    have hzW : w.heap.size + 5 ≤ W.heap.size := by have := hat.fine.lt; omega
    have HF : Hid (∀ V, Below w.heap.size w V → Calls Tryd.prog 46 #[.pointer (some ⟨x.g, x.off, none⟩)] V fun e w' => e = .returned (.bool x.d.formed) ∧ Below V.heap.size V w') := Lib.hid fun V hV => by
      have hsm : ∀ b, b < w.heap.size → V.heap[b]? = w.heap[b]? := fun b hb => hV.block b hb
      have h1 := x.small
      have h2 := x.d.kids_len
      have h3 : x.d.text.size < x.d.bulk := by rw [Doc.bulk_eq]; omega
      exact formed_any x.d x.kv 0 w.heap.size x.g x.off V (x.kvs.of (Nat.le_refl _) (Nat.le_refl _) (fun b _ hb => hsm b hb)) (x.six_in hsm) (by omega) (by omega) (HT.out.below hV)
    have HFS := Lib.hid (show ∀ (xs : List (Nat × Doc)) (p : Nat × Doc), allF (xs ++ [p]) = (allF xs && p.2.formed) from fun xs p => by simp [allF])
    have HMD := Lib.hid (show ∀ (xs : List (Nat × Doc)) (p : Nat × Doc), maxDep (xs ++ [p]) = max (maxDep xs) p.1 from fun xs p => by rw [maxDep_app]; simp [maxDep])
    clear hat
    generalize hmd : maxDep (pre.map At.proj) = md at *
    generalize haf : allF (pre.map At.proj) = af at *
    have HX := Lib.hid (And.intro hmd haf)
    clear hmd haf
    by_cases hbig : 8388608 < pre.length + 1
    · have hbig2 : (8388608 : Int) < (pre.length : Int) + 1 := by omega
      gi_wp2
      exact ⟨((KpN.setCell W _ _ (by simp; omega) (by simp; omega)).trans (KpN.setCell _ _ _ (by simp) (by simp; omega))).trans (KpN.setCell _ _ _ (by simp) (by simp; omega)), rfl, by simp; omega⟩
    · have hbig2 : decide ((8388608 : Int) < (pre.length : Int) + 1) = false := by simp; omega
      have hbig3 : (pre.length : Int) + 1 ≤ 9000000 := by omega
      have HBIG := Lib.hid hbig
      have HFEW := Lib.hid hfew
      clear hbig hfew
      cases af
      · gi_wp2
        refine ⟨trivial, ?_⟩
        gi_wp2
        exact look_step HAT.out (by omega) (by have := HBIG.out; omega) HX.out.1 rfl (Below.refl _ _) (by rw [List.map_append, List.map_cons, List.map_nil, HFS.out, HX.out.2]; rfl)
      · gi_wp2_with fail
        refine ⟨trivial, ?_⟩
        obtain ⟨W1, hW1⟩ : ∃ W1, W1 = (W.setCell ⟨w.heap.size + 1 + 1, 0, none⟩ (.int .i64 ((pre.length : Int) + 1))).setCell ⟨w.heap.size + 1 + 1 + 1, 0, none⟩ (.int .i64 (max (md : Int) (x.dep : Int))) := ⟨_, rfl⟩
        rw [← hW1]
        have hbv : Below w.heap.size w W1 := by
          rw [hW1]
          exact (HAT.out.below.setCell (p := ⟨w.heap.size + 1 + 1, 0, none⟩) (by simp; omega) _).setCell (p := ⟨w.heap.size + 1 + 1 + 1, 0, none⟩) (by simp; omega) _
        have b4 : Blk W1 (w.heap.size + 1 + 1 + 1 + 1) [.bool (allF (pre.map At.proj))] 4 := by rw [hW1]; exact (HAT.out.fine.set_other (by first | (simp; done) | (simp; omega)) _).set_other (by first | (simp; done) | (simp; omega)) _
        refine (CallsIn.inRound l (callsIn_wide.2 (HF.out _ hbv))).mono ?_
        rintro e w2 ⟨rfl, hb2⟩
        have b5 := b4.below hb2
        have c5 := b5.cell 0
        have f5 := b5.frozen 0
        simp only [List.getElem?_cons_zero] at c5
        have HB2 := Lib.hid hb2
        have HW1 := Lib.hid hW1
        clear c0 c1 c2 c3 c4 f0 f1 f2 f3 f4 b4 b5 hb2 hW1 hbv
        gi_wp2
        exact look_step HAT.out (by omega) (by have := HBIG.out; omega) HX.out.1 HW1.out HB2.out (by rw [List.map_append, List.map_cons, List.map_nil, HFS.out, HX.out.2]; rfl)
  case done =>
    rintro D xs W hD hS hat hK
    have hdep : maxDep (xs.map At.proj) = d0.depth := by rw [hS]; have := d0.maxDep_pre 1; omega
    have hfin : allF (xs.map At.proj) = d0.shape := by rw [hS]; exact d0.allF_pre 1
    have hnum : xs.length = d0.nodes := by rw [← d0.pre_len 1, ← hS, List.length_map]
    have c0 := hat.r0.cell 0
    have c1 := hat.r1.cell 0
    have c2 := hat.size.cell 0
    have c3 := hat.deep.cell 0
    have c4 := hat.fine.cell 0
    have f0 := hat.r0.frozen 0
    have f1 := hat.r1.frozen 0
    rw [hnum] at c2
    rw [hdep] at c3
    rw [hfin] at c4
    simp only [List.getElem?_cons_zero] at c0 c1 c2 c3 c4
    have HC : Hid (d0.code = if 64000 < d0.depth then 1501 else if d0.shape = true then 0 else 1500) := Lib.hid rfl
    have HSZ : Hid (d0.sizeN = if d0.code = 0 then (d0.nodes : Int) else 0) := Lib.hid rfl
    have HAT := Lib.hid hat
    have HKD := Lib.hid hK
    have fin : ∀ (v0 v1 : Int), d0.sizeN = v0 → d0.code = v1 → ∀ W1, W1 = (W.setCell ⟨w.heap.size, 0, none⟩ (.int .i64 v0)).setCell ⟨w.heap.size + 1, 0, none⟩ (.int .i64 v1) →
        (W1.heap[D]? = some (.deferred (some [])) ∧ (W1.putObj D (.deferred none)).cell? ⟨w.heap.size, 0, none⟩ = some (.int .i64 d0.sizeN) ∧ (W1.putObj D (.deferred none)).cell? ⟨w.heap.size + 1, 0, none⟩ = some (.int .i64 d0.code) ∧ Below w.heap.size w (W1.putObj D (.deferred none))) := by
      intro v0 v1 e0 e1 W1 hW1
      have hDN : D ≠ w.heap.size ∧ D ≠ w.heap.size + 1 := by omega
      have b0 : Blk W1 w.heap.size [.int .i64 v0] 3 := by
        rw [hW1]
        exact ((HAT.out.r0.set 0 (.int .i64 v0))).set_other (by first | (simp; done) | (simp; omega)) _
      have b1 : Blk W1 (w.heap.size + 1) [.int .i64 v1] 34 := by
        rw [hW1]
        exact ((HAT.out.r1.set_other (by first | (simp; done) | (simp; omega)) _).set 0 (.int .i64 v1))
      have hW : W1.heap[D]? = some (.deferred (some [])) := by
        rw [hW1]
        exact (Below.heap_setCell _ _ _ D (by simp; omega)).trans ((Below.heap_setCell _ _ _ D (by simp; omega)).trans HKD.out)
      have hbw : Below w.heap.size w W1 := by
        rw [hW1]
        exact (HAT.out.below.setCell (p := ⟨w.heap.size, 0, none⟩) (by simp) _).setCell (p := ⟨w.heap.size + 1, 0, none⟩) (by simp) _
      have h0 : Blk (W1.putObj D (.deferred none)) w.heap.size [.int .i64 v0] 3 := (World.putObj_heap_other (by omega)).trans b0
      have h1 : Blk (W1.putObj D (.deferred none)) (w.heap.size + 1) [.int .i64 v1] 34 := (World.putObj_heap_other (by omega)).trans b1
      exact ⟨hW, by rw [e0]; exact h0.cell 0, by rw [e1]; exact h1.cell 0, hbw.trans (below_putObj _ (by omega))⟩
    have FIN := Lib.hid fin
    clear hS hdep hfin hnum hat hK fin
    by_cases hd : 64000 < d0.depth
    · have hd2 : (64000 : Int) < (d0.depth : Int) := by omega
      have e1 : Hid (d0.code = 1501 ∧ d0.sizeN = 0) := Lib.hid (by have := HC.out; rw [if_pos hd] at this; refine ⟨this, ?_⟩; rw [HSZ.out, this]; rfl)
      go_wp2_with fail
      obtain ⟨hK1, k0, k1, kb⟩ := FIN.out 0 1501 e1.out.2 e1.out.1 _ rfl
      refine ⟨by simp, .inl ⟨_, _, rfl, run_takeDeferred hK1, ?_⟩⟩
      exact ⟨.tuple #[.int .i64 d0.sizeN, .int .i64 d0.code], by simp [results, Tryd.f33, go_sem, k0, k1], rfl, kb⟩
    · have hd2 : (d0.depth : Int) ≤ 64000 := by omega
      cases hsh : d0.shape
      · rw [hsh] at c4
        have e1 : Hid (d0.code = 1500 ∧ d0.sizeN = 0) := Lib.hid (by have := HC.out; rw [if_neg hd, hsh] at this; refine ⟨this, ?_⟩; rw [HSZ.out, this]; rfl)
        clear hsh
        go_wp2_with fail
        obtain ⟨hK1, k0, k1, kb⟩ := FIN.out 0 1500 e1.out.2 e1.out.1 _ rfl
        refine ⟨by simp, .inl ⟨_, _, rfl, run_takeDeferred hK1, ?_⟩⟩
        exact ⟨.tuple #[.int .i64 d0.sizeN, .int .i64 d0.code], by simp [results, Tryd.f33, go_sem, k0, k1], rfl, kb⟩
      · rw [hsh] at c4
        have e1 : Hid (d0.code = 0 ∧ d0.sizeN = d0.nodes) := Lib.hid (by have := HC.out; rw [if_neg hd, hsh] at this; refine ⟨this, ?_⟩; rw [HSZ.out, this]; rfl)
        clear hsh
        go_wp2_with fail
        obtain ⟨hK1, k0, k1, kb⟩ := FIN.out d0.nodes 0 e1.out.2 e1.out.1 _ rfl
        refine ⟨by simp, .inl ⟨_, _, rfl, run_takeDeferred hK1, ?_⟩⟩
        exact ⟨.tuple #[.int .i64 d0.sizeN, .int .i64 d0.code], by simp [results, Tryd.f33, go_sem, k0, k1], rfl, kb⟩
  case stop =>
    rintro D c pre W hD ⟨r, hr⟩ ⟨rfl, hlen⟩ hK
    exfalso
    have := congrArg List.length hr
    rw [List.length_append, List.length_map, Doc.pre_len] at this
    omega
end Go.Proofs.YtaojlnibkajfbaaDoor
