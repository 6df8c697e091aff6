/- doc.formed: whatever the document. -/
import Derived.Test.YthljgiimdcbfpaaDoorMFormA
import Derived.Test.YthljgiimdcbfpaaDoorMFormB
import Derived.Test.YthljgiimdcbfpaaDoorMFormC
import Derived.Test.YthljgiimdcbfpaaDoorMFormD
import Derived.Test.YthljgiimdcbfpaaDoorMFormE
import Derived.Test.YthljgiimdcbfpaaDoorMGround
import Derived.Maps.AppendAt
import Derived.Shelf.Strings.Builder1
import Derived.Outline
import Derived.Test.YthljgiimdcbfpaaDoorShelf
import Derived.Deep.RegionHeld3
import Derived.Deep.AppendLies
import Derived.Deep.RegionLaw
import Derived.Deep.CutBlock
import Derived.Lib.AppendStr
import Derived.Lib.UnsafeStr
import Derived.Test.YthljgiimdcbfpaaDoorRows
import Derived.Lib.OthersKept
namespace Go.Proofs.YthljgiimdcbfpaaDoor
section
open Go.RowKit
set_option maxRecDepth 100000
set_option linter.unusedVariables false

set_option maxHeartbeats 4000000 in
theorem formed_other (k : Int) (hk : ¬ (1 ≤ k ∧ k ≤ 16)) (t : ByteArray) (a : Option Addr) (n cap : Nat) (b : Bool) (i y : Int) (g off : Nat) (w : World) (hn : n ≤ 1099511627776) (h0 : w.cell? ⟨g, off, none⟩ = some (.int .i64 k)) (h2 : w.cell? ⟨g, off + 2, none⟩ = some (.slice a n cap))
    (h3 : w.cell? ⟨g, off + 3, none⟩ = some (.bool b)) (h4 : w.cell? ⟨g, off + 4, none⟩ = some (.int .i64 i)) (h5 : w.cell? ⟨g, off + 5, none⟩ = some (.int .i64 y)) :
    Calls Tryd.prog 57 #[.pointer (some ⟨g, off, none⟩)] w fun e w' => e = .returned (.bool false) ∧ Below w.heap.size w w' := by
  have e : ∀ c : Int, 1 ≤ c → c ≤ 16 → (k == c) = false := fun c h1 h2 => by rw [beq_eq_false_iff_ne]; rintro rfl; exact hk ⟨h1, h2⟩
  have e1 := e 1 (by decide) (by decide)
  have e2 := e 2 (by decide) (by decide)
  have e3 := e 3 (by decide) (by decide)
  have e4 := e 4 (by decide) (by decide)
  have e5 := e 5 (by decide) (by decide)
  have e6 := e 6 (by decide) (by decide)
  have e7 := e 7 (by decide) (by decide)
  have e8 := e 8 (by decide) (by decide)
  have e9 := e 9 (by decide) (by decide)
  have e10 := e 10 (by decide) (by decide)
  have e11 := e 11 (by decide) (by decide)
  have e12 := e 12 (by decide) (by decide)
  have e13 := e 13 (by decide) (by decide)
  have e14 := e 14 (by decide) (by decide)
  have e15 := e 15 (by decide) (by decide)
  have e16 := e 16 (by decide) (by decide)
  clear e hk
  go_enter Tryd.func57, Tryd.ntmps57
  go_wp2_with fail
  go_quiet (fail)
  have HBQ := Lib.hid (below_drewN (Below.refl w.heap.size w) nq)
  go_wp2_with fail
  go_ret
  exact ⟨rfl, HBQ.out⟩
theorem formedF_other (k : Int) (hk : ¬ (1 ≤ k ∧ k ≤ 16)) (t : ByteArray) (n : Nat) (b : Bool) (i y : Int) : formedF k t n b i y = false := by
  unfold formedF
  rw [if_neg (by omega), if_neg (by omega), if_neg (by omega), if_neg (by omega), if_neg (by omega), if_neg (by omega), if_neg (by omega), if_neg (by omega), if_neg (by omega), if_neg (by omega)]
/-- May it be, but for its kids? -/
def Doc.formed (d : Doc) : Bool := formedF d.kind d.text d.kids.length d.brk d.id d.width
theorem formed_any (d : Doc) (kv : Value) (lo hi g off : Nat) (w : World) (hk : KV w lo hi d kv) (h6 : Six w g off d kv) (hn : d.kids.length ≤ 1099511627776) (ht : d.text.size < 4294967281) (hT : Tabs w) :
    Calls Tryd.prog 57 #[.pointer (some ⟨g, off, none⟩)] w fun e w' => e = .returned (.bool d.formed) ∧ Below w.heap.size w w' := by
  obtain ⟨a, cap, rfl⟩ := hk.slice
  have h0 := h6.kind
  have h1 := h6.text
  have h2 := h6.kids
  have h3 := h6.brk
  have h4 := h6.id
  have h5 := h6.width
  clear h6 hk
  unfold Doc.formed
  generalize d.kids.length = n at *
  generalize d.brk = b at *
  generalize d.id = i at *
  generalize d.width = y at *
  have hx : ∀ W, Below w.heap.size w W → Calls Tryd.prog 65 #[.string d.text] W fun e w' => e = .returned (.bool (textB d.text)) ∧ Below W.heap.size W w' := fun W hb => text_any d.text W ht (hT.below hb)
  generalize d.text = t at *
  generalize d.kind = k at *
  by_cases hk : 1 ≤ k ∧ k ≤ 16
  · have : k = 1 ∨ k = 2 ∨ k = 3 ∨ k = 4 ∨ k = 5 ∨ k = 6 ∨ k = 7 ∨ k = 8 ∨ k = 9 ∨ k = 10 ∨ k = 11 ∨ k = 12 ∨ k = 13 ∨ k = 14 ∨ k = 15 ∨ k = 16 := by omega
    rcases this with rfl | rfl | rfl | rfl | rfl | rfl | rfl | rfl | rfl | rfl | rfl | rfl | rfl | rfl | rfl | rfl
    · exact formed_1 t a n cap b i y g off w hn h0 h1 h2 h3 h4 h5 (Lib.hid hx)
    · exact formed_2 t a n cap b i y g off w hn h0 h1 h2 h3 h4 h5
    · exact formed_3 t a n cap b i y g off w hn h0 h1 h2 h3 h4 h5
    · exact formed_4 t a n cap b i y g off w hn h0 h1 h2 h3 h4 h5
    · exact formed_5 t a n cap b i y g off w hn h0 h1 h2 h3 h4 h5
    · exact formed_6 t a n cap b i y g off w hn h0 h1 h2 h3 h4 h5
    · exact formed_7 t a n cap b i y g off w hn h0 h1 h2 h3 h4 h5
    · exact formed_8 t a n cap b i y g off w hn h0 h1 h2 h3 h4 h5
    · exact formed_9 t a n cap b i y g off w hn h0 h1 h2 h3 h4 h5
    · exact formed_10 t a n cap b i y g off w hn h0 h1 h2 h3 h4 h5
    · exact formed_11 t a n cap b i y g off w hn h0 h1 h2 h3 h4 h5
    · exact formed_12 t a n cap b i y g off w hn h0 h1 h2 h3 h4 h5
    · exact formed_13 t a n cap b i y g off w hn h0 h1 h2 h3 h4 h5
    · exact formed_14 t a n cap b i y g off w hn h0 h1 h2 h3 h4 h5
    · exact formed_15 t a n cap b i y g off w hn h0 h1 h2 h3 h4 h5
    · exact formed_16 t a n cap b i y g off w hn h0 h1 h2 h3 h4 h5
  · rw [formedF_other k hk]
    exact formed_other k hk t a n cap b i y g off w hn h0 h2 h3 h4 h5
end

section
open Go.RowKit Go.Shelf
set_option maxRecDepth 100000
set_option linter.unusedVariables false
set_option linter.unusedSimpArgs false
attribute [local go_sem] Oper.semAt_some

mutual
/-- Are all in it as the table says? -/
def Doc.shape : Doc → Bool
  | .mk k t ks b i y => formedF k t ks.length b i y && shapeL ks
def shapeL : List Doc → Bool
  | [] => true
  | d :: ds => d.shape && shapeL ds
end
theorem Doc.shape_eq (d : Doc) : d.shape = (d.formed && shapeL d.kids) := by cases d; rfl
def maxDep : List (Nat × Doc) → Nat
  | [] => 0
  | p :: l => max p.1 (maxDep l)
def allF (l : List (Nat × Doc)) : Bool := l.all fun p => p.2.formed
theorem maxDep_app (a b : List (Nat × Doc)) : maxDep (a ++ b) = max (maxDep a) (maxDep b) := by
  induction a with
  | nil => simp [maxDep]
  | cons p a ih => simp only [List.cons_append, maxDep, ih]; omega
theorem allF_app (a b : List (Nat × Doc)) : allF (a ++ b) = (allF a && allF b) := by simp [allF]
theorem maxDepL : ∀ (ks : List Doc), (∀ d ∈ ks, ∀ n, maxDep (d.pre n) + 1 = n + d.depth) → ∀ n, (depthL ks = 0 ∧ maxDep (preL ks n) = 0) ∨ (0 < depthL ks ∧ maxDep (preL ks n) + 1 = n + depthL ks)
  | [], _, _ => .inl ⟨rfl, rfl⟩
  | d :: ds, h, n => by
    have h1 := h d (by simp) n
    have h2 := maxDepL ds (fun x hx => h x (by simp [hx])) n
    have h3 := d.depth_eq
    have e1 : depthL (d :: ds) = max d.depth (depthL ds) := rfl
    have e2 : maxDep (preL (d :: ds) n) = max (maxDep (d.pre n)) (maxDep (preL ds n)) := by rw [← maxDep_app]; rfl
    rw [e1, e2]
    omega
theorem Doc.maxDep_pre (d : Doc) : ∀ n, maxDep (d.pre n) + 1 = n + d.depth := by
  refine Doc.ind (P := fun d => ∀ n, maxDep (d.pre n) + 1 = n + d.depth) (fun d ih n => ?_) d
  have h := maxDepL d.kids ih (n + 1)
  have e : maxDep (d.pre n) = max n (maxDep (preL d.kids (n + 1))) := by rw [Doc.pre_eq]; rfl
  rw [e, Doc.depth_eq]
  omega
theorem allFL : ∀ (ks : List Doc), (∀ d ∈ ks, ∀ n, allF (d.pre n) = d.shape) → ∀ n, allF (preL ks n) = shapeL ks
  | [], _, _ => rfl
  | d :: ds, h, n => by
    simp only [preL, shapeL, allF_app, h d (by simp) n, allFL ds (fun x hx => h x (by simp [hx])) n]
theorem Doc.allF_pre (d : Doc) : ∀ n, allF (d.pre n) = d.shape := by
  refine Doc.ind (P := fun d => ∀ n, allF (d.pre n) = d.shape) (fun d ih n => ?_) d
  rw [Doc.pre_eq, Doc.shape_eq]
  have : allF ((n, d) :: preL d.kids (n + 1)) = (d.formed && allF (preL d.kids (n + 1))) := by simp [allF]
  rw [this, allFL d.kids ih]
/-- What is told of a document: its error, its size. -/
def Doc.code (d : Doc) : Int := if 64000 < d.depth then 1501 else if d.shape = true then 0 else 1500
def Doc.sizeN (d : Doc) : Int := if d.code = 0 then d.nodes else 0

theorem walk_gives (p : Option Addr) (w : World) :
    Calls Tryd.prog 56 #[.pointer p] w fun e w' => e = .returned (.func (.func 64) #[] #[.pointer (some ⟨w.heap.size, 0, none⟩)]) ∧ w' = w.alloc (.cells #[.pointer p] 66) := by
  go_enter Tryd.func56, Tryd.ntmps56
  go_wp2
  go_ret
  exact ⟨rfl, rfl⟩
theorem Blk.of_below {A B : World} {n g : Nat} {cs : List Value} {e : TypeId} (h : Blk A g cs e) (hb : Below n A B) (hg : g < n) : Blk B g cs e := (hb.block g hg).trans h

/-- What lies in look's own cells. -/
structure LookAt (w : World) (xs : List (At w w.heap.size)) (W : World) : Prop where
  r0 : Blk W w.heap.size [.int .i64 0] 3
  r1 : Blk W (w.heap.size + 1) [.int .i64 0] 29
  size : Blk W (w.heap.size + 1 + 1) [.int .i64 (xs.length : Nat)] 3
  deep : Blk W (w.heap.size + 1 + 1 + 1) [.int .i64 (maxDep (xs.map At.proj) : Nat)] 3
  fine : Blk W (w.heap.size + 1 + 1 + 1 + 1) [.bool (allF (xs.map At.proj))] 4
  few : xs.length ≤ 8388608
  below : Below w.heap.size w W

theorem look_step {w W W1 W2 : World} {x : At w w.heap.size} {pre : List (At w w.heap.size)} {n1 : Nat} {md : Nat} {v : Value} (hat : LookAt w pre W) (hn1 : n1 = w.heap.size + 6) (hfew : pre.length + 1 ≤ 8388608) (hmd : maxDep (pre.map At.proj) = md)
    (hW1 : W1 = (W.setCell ⟨w.heap.size + 1 + 1, 0, none⟩ (.int .i64 ((pre.length : Int) + 1))).setCell ⟨w.heap.size + 1 + 1 + 1, 0, none⟩ (.int .i64 (max (md : Int) (x.dep : Int)))) (hW2 : Below W1.heap.size W1 W2)
    (hv : v = .bool (allF ((pre ++ [x]).map At.proj))) :
    KpN w.heap.size n1 W (W2.setCell ⟨w.heap.size + 1 + 1 + 1 + 1, 0, none⟩ v) ∧ LookAt w (pre ++ [x]) (W2.setCell ⟨w.heap.size + 1 + 1 + 1 + 1, 0, none⟩ v) := by
  have hz : w.heap.size + 5 ≤ W.heap.size := by have := hat.fine.lt; omega
  have hz1 : W1.heap.size = W.heap.size := by rw [hW1]; simp
  have k1 : KpN w.heap.size n1 W W1 := by
    rw [hW1]
    exact (KpN.setCell W _ _ (by simp; omega) (by simp; omega)).trans (KpN.setCell _ _ _ (by simp; omega) (by simp; omega))
  have k2 : KpN w.heap.size n1 W1 W2 := KpN.below hW2 (by omega)
  refine ⟨(k1.trans k2).trans (KpN.setCell _ _ _ (by simp; omega) (by simp; omega)), ?_⟩
  have b0 : Blk W1 w.heap.size [.int .i64 0] 3 := by rw [hW1]; exact (hat.r0.set_other (by first | (simp; done) | (simp; omega)) _).set_other (by first | (simp; done) | (simp; omega)) _
  have b1 : Blk W1 (w.heap.size + 1) [.int .i64 0] 29 := by rw [hW1]; exact (hat.r1.set_other (by first | (simp; done) | (simp; omega)) _).set_other (by first | (simp; done) | (simp; omega)) _
  have b2 : Blk W1 (w.heap.size + 1 + 1) [.int .i64 ((pre.length : Int) + 1)] 3 := by rw [hW1]; exact (hat.size.set 0 _).set_other (by first | (simp; done) | (simp; omega)) _
  have b3 : Blk W1 (w.heap.size + 1 + 1 + 1) [.int .i64 (max (md : Int) (x.dep : Int))] 3 := by rw [hW1]; exact (hat.deep.set_other (by first | (simp; done) | (simp; omega)) _).set 0 _
  have b4 : Blk W1 (w.heap.size + 1 + 1 + 1 + 1) [.bool (allF (pre.map At.proj))] 4 := by rw [hW1]; exact (hat.fine.set_other (by first | (simp; done) | (simp; omega)) _).set_other (by first | (simp; done) | (simp; omega)) _
  have e2 : (((pre ++ [x]).length : Nat) : Int) = (pre.length : Int) + 1 := by simp
  have e3 : ((maxDep ((pre ++ [x]).map At.proj) : Nat) : Int) = max (md : Int) (x.dep : Int) := by
    rw [List.map_append, maxDep_app, hmd]
    simp [maxDep, At.proj]
    omega
  refine ⟨?_, ?_, ?_, ?_, ?_, by simp; omega, ?_⟩
  · exact (b0.below hW2).set_other (by first | (simp; done) | (simp; omega)) _
  · exact (b1.below hW2).set_other (by first | (simp; done) | (simp; omega)) _
  · rw [e2]; exact (b2.below hW2).set_other (by first | (simp; done) | (simp; omega)) _
  · rw [e3]; exact (b3.below hW2).set_other (by first | (simp; done) | (simp; omega)) _
  · rw [← hv]; exact (b4.below hW2).set 0 _
  · have h1 : Below w.heap.size w W1 := by
      rw [hW1]
      exact (hat.below.setCell (p := ⟨w.heap.size + 1 + 1, 0, none⟩) (by simp; omega) _).setCell (p := ⟨w.heap.size + 1 + 1 + 1, 0, none⟩) (by simp; omega) _
    exact (h1.trans (hW2.mono (by omega))).setCell (p := ⟨w.heap.size + 1 + 1 + 1 + 1, 0, none⟩) (by simp; omega) _

set_option maxHeartbeats 4000000 in
theorem look_any (d0 : Doc) (g0 off0 : Nat) (kv0 : Value) (w : World) (hb : d0.bulk ≤ 4194304) (h6 : Six w g0 off0 d0 kv0) (hg0 : g0 < w.heap.size) (hkv : KV w 0 w.heap.size d0 kv0) (hT : Tabs w) :
    Calls Tryd.prog 43 #[.pointer (some ⟨g0, off0, none⟩)] w fun e w' => e = .returned (.tuple #[.int .i64 d0.sizeN, .int .i64 d0.code]) ∧ Below w.heap.size w w' := by
  have hn := d0.nodes_bulk
  have HT := Lib.hid hT
  have H6 := Lib.hid h6
  have HKV := Lib.hid hkv
  clear h6 hkv hT
  refine callsIn_wide.1 (callsIn_of_wp_marks (F := Fence.wide) (n := 5) Tryd.func43 rfl trivial ?_ rfl)
  simp only [Tryd.ntmps43, List.size_toArray, List.length_cons, List.length_nil, Nat.reduceAdd, Nat.reduceSub, Array.replicate_succ, Array.replicate_zero, List.push_toArray, List.append_toArray, List.nil_append, List.cons_append]
  refine wpIn_wide.2 ?_
  go_wp2_with fail
  refine (walk_gives _ _).mono ?_
  rintro e w1 ⟨rfl, rfl⟩
  go_wp2_with fail
  obtain ⟨W0, hW0⟩ : ∃ W0, (((((w.alloc (.cells #[.int .i64 0] 3)).alloc (.cells #[.int .i64 0] 29)).alloc (.cells #[.int .i64 0] 3)).alloc (.cells #[.int .i64 0] 3)).alloc (.cells #[.bool true] 4)).alloc (.cells #[.pointer (some ⟨g0, off0, none⟩)] 66) = W0 := ⟨_, rfl⟩
  rw [hW0]
  have hz0 : W0.heap.size = w.heap.size + 6 := by rw [← hW0]; simp
  have hb0 : Below w.heap.size w W0 := by
    rw [← hW0]
    exact ((((((Below.refl _ w).alloc (Nat.le_refl _) _).alloc (by simp) _).alloc (by simp; omega) _).alloc (by simp; omega) _).alloc (by simp; omega) _).alloc (by simp; omega) _
  have hat0 : LookAt w [] W0 := by
    rw [← hW0]
    refine ⟨?_, ?_, ?_, ?_, ?_, by simp, by rw [hW0]; exact hb0⟩
    · exact (((((Blk.new w [.int .i64 0] 3).alloc _).alloc _).alloc _).alloc _).alloc _
    · exact ((((Blk.new' (W := w.alloc _) [.int .i64 0] 29 (by simp)).alloc _).alloc _).alloc _).alloc _
    · exact (((Blk.new' (W := (w.alloc _).alloc _) [.int .i64 0] 3 (by simp)).alloc _).alloc _).alloc _
    · exact ((Blk.new' (W := ((w.alloc _).alloc _).alloc _) [.int .i64 0] 3 (by simp)).alloc _).alloc _
    · exact (Blk.new' (W := (((w.alloc _).alloc _).alloc _).alloc _) [.bool true] 4 (by simp)).alloc _
  have hbox : W0.cell? ⟨w.heap.size + 1 + 1 + 1 + 1 + 1, 0, none⟩ = some (.pointer (some ⟨g0, off0, none⟩)) := by
    rw [← hW0]
    exact (Blk.new' (W := ((((w.alloc _).alloc _).alloc _).alloc _).alloc _) [.pointer (some ⟨g0, off0, none⟩)] 66 (by simp)).cell 0
  clear hW0
  refine range_law (α := At w w.heap.size) (n0 := w.heap.size) (gf := 64) (lb := #[.pointer (some ⟨w.heap.size + 1 + 1 + 1 + 1 + 1, 0, none⟩)]) rfl (enters_of Tryd.func64 (by kernel_rfl) rfl) (encs := encAt) (fun _ => rfl) (by omega)
    (fun W hW => walk_iter d0 g0 off0 (w.heap.size + 1 + 1 + 1 + 1 + 1) w.heap.size W0.heap.size kv0 w W (Nat.le_refl _) hb (fun b hb => (hW.block b (by omega)).trans (hb0.block b hb)) H6.out hg0 HKV.out ((hW.cell (p := ⟨w.heap.size + 1 + 1 + 1 + 1 + 1, 0, none⟩) (by simp; omega)).trans hbox) (by omega) hW.size)
    (fun xs W => LookAt w xs W) (fun c xs W => c = .ret ∧ 8388608 < xs.length)
    (fun pre A B h hb => ⟨h.r0.of_below hb (by omega), h.r1.of_below hb (by omega), h.size.of_below hb (by omega), h.deep.of_below hb (by omega), h.fine.of_below hb (by omega), h.few, h.below.trans (hb.mono (by omega))⟩)
    (fun _ _ _ _ h _ => h) hat0
    (fun x => { tmps := #[.pointer (some ⟨g0, off0, none⟩), undef, .pointer (some ⟨w.heap.size, 0, none⟩), .pointer (some ⟨w.heap.size + 1, 0, none⟩), .pointer (some ⟨w.heap.size + 1 + 1, 0, none⟩), .pointer (some ⟨w.heap.size + 1 + 1 + 1, 0, none⟩), .pointer (some ⟨w.heap.size + 1 + 1 + 1 + 1, 0, none⟩),
      .int .i64 x.dep, .pointer (some ⟨x.g, x.off, none⟩), .pointer (some ⟨g0, off0, none⟩), .func (.func 64) #[] #[.pointer (some ⟨w.heap.size + 1 + 1 + 1 + 1 + 1, 0, none⟩)], .int .i64 x.dep, .pointer (some ⟨x.g, x.off, none⟩),
      undef, undef, undef, undef, undef, undef, undef, undef, undef, undef, undef, undef, undef, undef, undef, undef, undef, undef, undef], defers := [] }) ?assign ?body ?done ?stop
  case assign =>
    intro l x W K hK
    simp only [encAt]
    gi_wp2
    exact hK
  case body =>
    rintro l pre x W hat
    have c2 := hat.size.cell 0
    have c3 := hat.deep.cell 0
    have c4 := hat.fine.cell 0
    have c0 := hat.r0.cell 0
    have c1 := hat.r1.cell 0
    have f2 := hat.size.frozen 0
    have f3 := hat.deep.frozen 0
    have f4 := hat.fine.frozen 0
    have f0 := hat.r0.frozen 0
    have f1 := hat.r1.frozen 0
    have hfew := hat.few
    simp only [List.getElem?_cons_zero] at c0 c1 c2 c3 c4
    have HAT := Lib.hid hat
    have hzW : w.heap.size + 5 ≤ W.heap.size := by have := hat.fine.lt; omega
    have HF : Hid (∀ V, Below w.heap.size w V → Calls Tryd.prog 57 #[.pointer (some ⟨x.g, x.off, none⟩)] V fun e w' => e = .returned (.bool x.d.formed) ∧ Below V.heap.size V w') := Lib.hid fun V hV => by
      have hsm : ∀ b, b < w.heap.size → V.heap[b]? = w.heap[b]? := fun b hb => hV.block b hb
      have h1 := x.small
      have h2 := x.d.kids_len
      have h3 : x.d.text.size < x.d.bulk := by rw [Doc.bulk_eq]; omega
      exact formed_any x.d x.kv 0 w.heap.size x.g x.off V (x.kvs.of (Nat.le_refl _) (Nat.le_refl _) (fun b _ hb => hsm b hb)) (x.six_in hsm) (by omega) (by omega) (HT.out.below hV)
    have HFS := Lib.hid (show ∀ (xs : List (Nat × Doc)) (p : Nat × Doc), allF (xs ++ [p]) = (allF xs && p.2.formed) from fun xs p => by simp [allF])
    have HMD := Lib.hid (show ∀ (xs : List (Nat × Doc)) (p : Nat × Doc), maxDep (xs ++ [p]) = max (maxDep xs) p.1 from fun xs p => by rw [maxDep_app]; simp [maxDep])
    clear hat
    generalize hmd : maxDep (pre.map At.proj) = md at *
    generalize haf : allF (pre.map At.proj) = af at *
    have HX := Lib.hid (And.intro hmd haf)
    clear hmd haf
    by_cases hbig : 8388608 < pre.length + 1
    · have hbig2 : (8388608 : Int) < (pre.length : Int) + 1 := by omega
      gi_wp2
      exact ⟨((KpN.setCell W _ _ (by simp; omega) (by simp; omega)).trans (KpN.setCell _ _ _ (by simp) (by simp; omega))).trans (KpN.setCell _ _ _ (by simp) (by simp; omega)), rfl, by simp; omega⟩
    · have hbig2 : decide ((8388608 : Int) < (pre.length : Int) + 1) = false := by simp; omega
      have hbig3 : (pre.length : Int) + 1 ≤ 9000000 := by omega
      have HBIG := Lib.hid hbig
      have HFEW := Lib.hid hfew
      clear hbig hfew
      cases af
      · gi_wp2
        refine ⟨trivial, ?_⟩
        gi_wp2
        exact look_step HAT.out (by omega) (by have := HBIG.out; omega) HX.out.1 rfl (Below.refl _ _) (by rw [List.map_append, List.map_cons, List.map_nil, HFS.out, HX.out.2]; rfl)
      · gi_wp2_with fail
        refine ⟨trivial, ?_⟩
        obtain ⟨W1, hW1⟩ : ∃ W1, W1 = (W.setCell ⟨w.heap.size + 1 + 1, 0, none⟩ (.int .i64 ((pre.length : Int) + 1))).setCell ⟨w.heap.size + 1 + 1 + 1, 0, none⟩ (.int .i64 (max (md : Int) (x.dep : Int))) := ⟨_, rfl⟩
        rw [← hW1]
        have hbv : Below w.heap.size w W1 := by
          rw [hW1]
          exact (HAT.out.below.setCell (p := ⟨w.heap.size + 1 + 1, 0, none⟩) (by simp; omega) _).setCell (p := ⟨w.heap.size + 1 + 1 + 1, 0, none⟩) (by simp; omega) _
        have b4 : Blk W1 (w.heap.size + 1 + 1 + 1 + 1) [.bool (allF (pre.map At.proj))] 4 := by rw [hW1]; exact (HAT.out.fine.set_other (by first | (simp; done) | (simp; omega)) _).set_other (by first | (simp; done) | (simp; omega)) _
        refine (CallsIn.inRound l (callsIn_wide.2 (HF.out _ hbv))).mono ?_
        rintro e w2 ⟨rfl, hb2⟩
        have b5 := b4.below hb2
        have c5 := b5.cell 0
        have f5 := b5.frozen 0
        simp only [List.getElem?_cons_zero] at c5
        have HB2 := Lib.hid hb2
        have HW1 := Lib.hid hW1
        clear c0 c1 c2 c3 c4 f0 f1 f2 f3 f4 b4 b5 hb2 hW1 hbv
        gi_wp2
        exact look_step HAT.out (by omega) (by have := HBIG.out; omega) HX.out.1 HW1.out HB2.out (by rw [List.map_append, List.map_cons, List.map_nil, HFS.out, HX.out.2]; rfl)
  case done =>
    rintro D xs W hD hS hat hK
    have hdep : maxDep (xs.map At.proj) = d0.depth := by rw [hS]; have := d0.maxDep_pre 1; omega
    have hfin : allF (xs.map At.proj) = d0.shape := by rw [hS]; exact d0.allF_pre 1
    have hnum : xs.length = d0.nodes := by rw [← d0.pre_len 1, ← hS, List.length_map]
    have c0 := hat.r0.cell 0
    have c1 := hat.r1.cell 0
    have c2 := hat.size.cell 0
    have c3 := hat.deep.cell 0
    have c4 := hat.fine.cell 0
    have f0 := hat.r0.frozen 0
    have f1 := hat.r1.frozen 0
    rw [hnum] at c2
    rw [hdep] at c3
    rw [hfin] at c4
    simp only [List.getElem?_cons_zero] at c0 c1 c2 c3 c4
    have HC : Hid (d0.code = if 64000 < d0.depth then 1501 else if d0.shape = true then 0 else 1500) := Lib.hid rfl
    have HSZ : Hid (d0.sizeN = if d0.code = 0 then (d0.nodes : Int) else 0) := Lib.hid rfl
    have HAT := Lib.hid hat
    have HKD := Lib.hid hK
    have fin : ∀ (v0 v1 : Int), d0.sizeN = v0 → d0.code = v1 → ∀ W1, W1 = (W.setCell ⟨w.heap.size, 0, none⟩ (.int .i64 v0)).setCell ⟨w.heap.size + 1, 0, none⟩ (.int .i64 v1) →
        (W1.heap[D]? = some (.deferred (some [])) ∧ (W1.putObj D (.deferred none)).cell? ⟨w.heap.size, 0, none⟩ = some (.int .i64 d0.sizeN) ∧ (W1.putObj D (.deferred none)).cell? ⟨w.heap.size + 1, 0, none⟩ = some (.int .i64 d0.code) ∧ Below w.heap.size w (W1.putObj D (.deferred none))) := by
      intro v0 v1 e0 e1 W1 hW1
      have hDN : D ≠ w.heap.size ∧ D ≠ w.heap.size + 1 := by omega
      have b0 : Blk W1 w.heap.size [.int .i64 v0] 3 := by
        rw [hW1]
        exact ((HAT.out.r0.set 0 (.int .i64 v0))).set_other (by first | (simp; done) | (simp; omega)) _
      have b1 : Blk W1 (w.heap.size + 1) [.int .i64 v1] 29 := by
        rw [hW1]
        exact ((HAT.out.r1.set_other (by first | (simp; done) | (simp; omega)) _).set 0 (.int .i64 v1))
      have hW : W1.heap[D]? = some (.deferred (some [])) := by
        rw [hW1]
        exact (Below.heap_setCell _ _ _ D (by simp; omega)).trans ((Below.heap_setCell _ _ _ D (by simp; omega)).trans HKD.out)
      have hbw : Below w.heap.size w W1 := by
        rw [hW1]
        exact (HAT.out.below.setCell (p := ⟨w.heap.size, 0, none⟩) (by simp) _).setCell (p := ⟨w.heap.size + 1, 0, none⟩) (by simp) _
      have h0 : Blk (W1.putObj D (.deferred none)) w.heap.size [.int .i64 v0] 3 := (World.putObj_heap_other (by omega)).trans b0
      have h1 : Blk (W1.putObj D (.deferred none)) (w.heap.size + 1) [.int .i64 v1] 29 := (World.putObj_heap_other (by omega)).trans b1
      exact ⟨hW, by rw [e0]; exact h0.cell 0, by rw [e1]; exact h1.cell 0, hbw.trans (below_putObj _ (by omega))⟩
    have FIN := Lib.hid fin
    clear hS hdep hfin hnum hat hK fin
    by_cases hd : 64000 < d0.depth
    · have hd2 : (64000 : Int) < (d0.depth : Int) := by omega
      have e1 : Hid (d0.code = 1501 ∧ d0.sizeN = 0) := Lib.hid (by have := HC.out; rw [if_pos hd] at this; refine ⟨this, ?_⟩; rw [HSZ.out, this]; rfl)
      go_wp2_with fail
      obtain ⟨hK1, k0, k1, kb⟩ := FIN.out 0 1501 e1.out.2 e1.out.1 _ rfl
      refine ⟨by simp, .inl ⟨_, _, rfl, run_takeDeferred hK1, ?_⟩⟩
      exact ⟨.tuple #[.int .i64 d0.sizeN, .int .i64 d0.code], by simp [results, Tryd.f43, go_sem, k0, k1], rfl, kb⟩
    · have hd2 : (d0.depth : Int) ≤ 64000 := by omega
      cases hsh : d0.shape
      · rw [hsh] at c4
        have e1 : Hid (d0.code = 1500 ∧ d0.sizeN = 0) := Lib.hid (by have := HC.out; rw [if_neg hd, hsh] at this; refine ⟨this, ?_⟩; rw [HSZ.out, this]; rfl)
        clear hsh
        go_wp2_with fail
        obtain ⟨hK1, k0, k1, kb⟩ := FIN.out 0 1500 e1.out.2 e1.out.1 _ rfl
        refine ⟨by simp, .inl ⟨_, _, rfl, run_takeDeferred hK1, ?_⟩⟩
        exact ⟨.tuple #[.int .i64 d0.sizeN, .int .i64 d0.code], by simp [results, Tryd.f43, go_sem, k0, k1], rfl, kb⟩
      · rw [hsh] at c4
        have e1 : Hid (d0.code = 0 ∧ d0.sizeN = d0.nodes) := Lib.hid (by have := HC.out; rw [if_neg hd, hsh] at this; refine ⟨this, ?_⟩; rw [HSZ.out, this]; rfl)
        clear hsh
        go_wp2_with fail
        obtain ⟨hK1, k0, k1, kb⟩ := FIN.out d0.nodes 0 e1.out.2 e1.out.1 _ rfl
        refine ⟨by simp, .inl ⟨_, _, rfl, run_takeDeferred hK1, ?_⟩⟩
        exact ⟨.tuple #[.int .i64 d0.sizeN, .int .i64 d0.code], by simp [results, Tryd.f43, go_sem, k0, k1], rfl, kb⟩
  case stop =>
    rintro D c pre W hD ⟨r, hr⟩ ⟨rfl, hlen⟩ hK
    exfalso
    have := congrArg List.length hr
    rw [List.length_append, List.length_map, Doc.pre_len] at this
    omega
end

section
open Go.RowKit
set_option linter.unusedVariables false

abbrev Ln := List UInt8
/-- An indentation: its steps and columns, the innermost first. -/
abbrev Ind := List (Bool × Int)
def Ind.wide : Ind → Int
  | [] => 0
  | x :: r => Ind.wide r + x.2
/-- What the options say: the width, the step, tabs?, both letters at a line's end? -/
structure Opt where
  width : Int
  tab : Int
  tabs : Bool
  crlf : Bool
def Opt.nl (o : Opt) : Ln := if o.crlf then [13, 10] else [10]
/-- A document that is to be done. -/
structure Cmd where
  ind : Ind
  flat : Bool
  d : Doc
/-- What the machine has come to: what is written, the column, the commands (the next one first), the suffixes put off (in their row), the broken groups. -/
structure Mach where
  out : Ln
  col : Int
  stk : List Cmd
  put : List Cmd
  brk : Int → Bool

/-- What reading on for a fit comes to: it is told, or so much is left (and something is put off). -/
inductive Scan where
  | done (b : Bool)
  | go (left : Int) (put : Bool)
def modeB (brk : Int → Bool) (id : Int) (around : Bool) : Bool := if id = 0 then around else !brk id
mutual
def Doc.scan (alone : Bool) (brk : Int → Bool) : Doc → Bool → Int → Bool → Scan
  | .mk k t ks b i _, flat, left, put =>
    if k = 1 then (if left - (widthB t : Int) < 0 then .done false else .go (left - (widthB t : Int)) put)
    else if k = 2 ∨ k = 9 ∨ k = 11 ∨ k = 12 ∨ k = 13 then scanL alone brk ks flat left put
    else if k = 7 then (if b && alone then .done false else scanH alone brk ks (flat && !b) left put)
    else if k = 8 then (if b && alone then .done false else if b then scanZ alone brk ks false left put else scanH alone brk ks flat left put)
    else if k = 10 then (if modeB brk i flat then scanT alone brk ks flat left put else scanH alone brk ks flat left put)
    else if k = 3 then (if flat then (if left - 1 < 0 then .done false else .go (left - 1) put) else .done true)
    else if k = 4 then (if flat then .go left put else .done true)
    else if k = 5 ∨ k = 6 then .done true
    else if k = 14 then .go left true
    else if k = 15 then (if put then .done true else .go left put)
    else .go left put
/-- All of a list; its first; its second; its last. -/
def scanL (alone : Bool) (brk : Int → Bool) : List Doc → Bool → Int → Bool → Scan
  | [], _, left, put => .go left put
  | d :: ds, flat, left, put =>
    match d.scan alone brk flat left put with
    | .done b => .done b
    | .go l p => scanL alone brk ds flat l p
def scanH (alone : Bool) (brk : Int → Bool) : List Doc → Bool → Int → Bool → Scan
  | [], _, left, put => .go left put
  | d :: _, flat, left, put => d.scan alone brk flat left put
def scanT (alone : Bool) (brk : Int → Bool) : List Doc → Bool → Int → Bool → Scan
  | [], _, left, put => .go left put
  | _ :: ds, flat, left, put => scanH alone brk ds flat left put
def scanZ (alone : Bool) (brk : Int → Bool) : List Doc → Bool → Int → Bool → Scan
  | [], _, left, put => .go left put
  | [d], flat, left, put => d.scan alone brk flat left put
  | _ :: e :: ds, flat, left, put => scanZ alone brk (e :: ds) flat left put
end
/-- Reading on in what is behind. -/
def scanS (alone : Bool) (brk : Int → Bool) : List (Bool × Doc) → Int → Bool → Scan
  | [], left, put => .go left put
  | c :: cs, left, put =>
    match c.2.scan alone brk c.1 left put with
    | .done b => .done b
    | .go l p => scanS alone brk cs l p
def behind (m : Mach) (alone : Bool) : List (Bool × Doc) := if alone then [] else m.stk.map fun c => (c.flat, c.d)
def Scan.fits : Scan → Bool
  | .done b => b
  | .go _ _ => true
/-- Do documents fit? -/
def fitsM (o : Opt) (m : Mach) (flat alone : Bool) (ds : List Doc) : Bool :=
  if o.width - m.col < 0 then false else (scanS alone m.brk (ds.map (fun d => (flat, d)) ++ behind m alone) (o.width - m.col) false).fits

/-- Bytes written; none: too much. -/
def putM (m : Mach) (s : Ln) : Option Mach := if 67108864 < m.out.length + s.length then none else some { m with out := m.out ++ s }
def stepB (o : Opt) (x : Bool × Int) : Ln := if x.1 && o.tabs then [9] else List.replicate x.2.toNat 32
def indB (o : Opt) : Ind → Ln
  | [] => []
  | x :: r => indB o r ++ stepB o x
def indM (o : Opt) : Ind → Mach → Option Mach
  | [], m => some m
  | x :: r, m => (indM o r m).bind fun m1 => putM m1 (stepB o x)
def blank8 (c : UInt8) : Bool := c == 32 || c == 9
def trimR (l : Ln) : Ln := (l.reverse.dropWhile blank8).reverse
def flushM (m : Mach) : Mach := { m with stk := m.put ++ m.stk, put := [] }
/-- A line's end. -/
def lineM (o : Opt) (m : Mach) (c : Cmd) : Option Mach :=
  if m.put ≠ [] then some (flushM { m with stk := c :: m.stk })
  else if c.d.kind = 6 then (putM m o.nl).map fun m1 => { m1 with col := 0 }
  else (putM { m with out := trimR m.out } o.nl).bind fun m1 => (indM o c.ind m1).map fun m2 => { m2 with col := c.ind.wide }
def pushM (m : Mach) (ind : Ind) (flat : Bool) (ds : List Doc) : Mach := { m with stk := ds.map (fun d => ⟨ind, flat, d⟩) ++ m.stk }
def fillD (ks : List Doc) : Doc := .mk 9 ⟨#[]⟩ ks false 0 0
def hardDoc : Doc := .mk 5 ⟨#[]⟩ [] false 0 0
def fillM (o : Opt) (m : Mach) (ind : Ind) : List Doc → Mach
  | [] => m
  | [k] => pushM m ind (fitsM o m true true [k]) [k]
  | k0 :: k1 :: ks =>
    let a := fitsM o m true true [k0]
    let b := fitsM o m true true (k0 :: k1 :: ks.take 1)
    pushM (pushM (pushM m ind false [fillD ks]) ind b [k1]) ind a [k0]
/-- Of these the first that fits, else the last one. -/
def pickD (o : Opt) (m : Mach) : List Doc → Option Doc
  | [] => none
  | [d] => some d
  | d :: e :: ds => if fitsM o m false false [d] then some d else pickD o m (e :: ds)
def condM (o : Opt) (m : Mach) (ind : Ind) (b : Bool) (ks : List Doc) : Mach :=
  match ks with
  | [] => m
  | k0 :: ds =>
    if b then pushM m ind false (ks.getLast?).toList
    else if k0.flat.isSome && fitsM o m true false [k0] then pushM m ind true [k0]
    else pushM m ind false (if ds = [] then [k0] else (pickD o m ds).toList)
def kid0 (ks : List Doc) : List Doc := ks.take 1
def kid1 (ks : List Doc) : List Doc := (ks.drop 1).take 1
/-- A command done. -/
def doM (o : Opt) (m : Mach) (c : Cmd) : Option Mach :=
  match c.d with
  | .mk k t ks b i y =>
    if k = 1 then (putM m t.data.toList).map fun m1 => { m1 with col := m1.col + (widthB t : Int) }
    else if k = 2 then some (pushM m c.ind c.flat ks)
    else if k = 11 then some (pushM m ((true, o.tab) :: c.ind) c.flat (kid0 ks))
    else if k = 13 then some (pushM m ((false, y) :: c.ind) c.flat (kid0 ks))
    else if k = 12 then some (pushM m (if m.brk i then (true, o.tab) :: c.ind else c.ind) c.flat (kid0 ks))
    else if k = 7 then
      let flat := c.flat || (!b && fitsM o m true false (kid0 ks))
      some (pushM { m with brk := if 0 < i then (fun j => if j = i then !flat else m.brk j) else m.brk } c.ind flat (kid0 ks))
    else if k = 8 then some (if c.flat then pushM m c.ind true (kid0 ks) else condM o m c.ind b ks)
    else if k = 9 then some (if c.flat then pushM m c.ind true ks else fillM o m c.ind ks)
    else if k = 10 then some (pushM m c.ind c.flat (if modeB m.brk i c.flat then kid1 ks else kid0 ks))
    else if k = 14 then some { m with put := m.put ++ (kid0 ks).map fun d => ⟨c.ind, c.flat, d⟩ }
    else if k = 15 then (if m.put ≠ [] then lineM o m ⟨c.ind, c.flat, hardDoc⟩ else some m)
    else if k = 3 ∨ k = 4 then
      (if c.flat then (if k = 3 then (putM m [32]).map fun m1 => { m1 with col := m1.col + 1 } else some m) else lineM o m c)
    else if k = 5 ∨ k = 6 then lineM o m c
    else some m
/-- So many steps at most; none: too much is written. -/
def runM (o : Opt) : Nat → Mach → Option Ln
  | 0, _ => none
  | f + 1, m =>
    match m.stk with
    | c :: cs => (doM o { m with stk := cs } c).bind (runM o f)
    | [] => if m.put = [] then some m.out else runM o f (flushM m)
def startM (d : Doc) : Mach := ⟨[], 0, [⟨[], false, d⟩], [], fun _ => false⟩
def optOk (o : Opt) : Bool := decide (1 ≤ o.width) && decide (o.width ≤ 10000) && decide (0 ≤ o.tab) && decide (o.tab ≤ 16)
/-- What Layout gives: the text, the error. -/
def layN (d : Doc) (o : Opt) : Ln × Int :=
  if optOk o = false then ([], 1700)
  else if d.code ≠ 0 then ([], d.code)
  else
    match runM o (2 * d.nodes) (startM d) with
    | none => ([], 1502)
    | some s => (s, 0)

/-! Closed cases, to see that the words are right. -/
def tD (l : Ln) : Doc := .mk 1 ⟨l.toArray⟩ [] false 0 0
def aD (k : Int) (ks : List Doc) : Doc := .mk k ⟨#[]⟩ ks false 0 0
def awakeD : Doc := aD 7 [aD 2 [tD [97], aD 11 [aD 2 [aD 3 [], tD [98]]], aD 4 []]]
theorem awakeD_3 : layN awakeD ⟨3, 2, false, false⟩ = ([97, 32, 98], 0) := by decide +kernel
theorem awakeD_2 : layN awakeD ⟨2, 2, false, false⟩ = ([97, 10, 32, 32, 98, 10], 0) := by decide +kernel
theorem awakeD_0 : layN awakeD ⟨0, 0, false, false⟩ = ([], 1700) := by decide +kernel
end

section
open Go.RowKit
set_option maxRecDepth 100000
set_option linter.unusedVariables false
set_option linter.unusedSimpArgs false

/-- A document boxed. -/
theorem six_new (w : World) (d : Doc) (kv : Value) : Six (w.alloc (.cells #[.int .i64 d.kind, .string d.text, kv, .bool d.brk, .int .i64 d.id, .int .i64 d.width] 24)) w.heap.size 0 d kv := by
  have h := Blk.new w (docCells d kv) 24
  exact ⟨h.cell 0, h.cell 1, h.cell 2, h.cell 3, h.cell 4, h.cell 5⟩
theorem check_any (d : Doc) (kv : Value) (w : World) (hk : KV w 0 w.heap.size d kv) (hb : d.bulk ≤ 4194304) (hT : Tabs w) :
    Calls Tryd.prog 30 #[docV d kv] w fun e w' => e = .returned (.int .i64 d.code) ∧ Below w.heap.size w w' := by
  have hal := (Below.refl w.heap.size w).alloc (Nat.le_refl _) (.cells #[.int .i64 d.kind, .string d.text, kv, .bool d.brk, .int .i64 d.id, .int .i64 d.width] 24)
  have HL := Lib.hid (look_any d w.heap.size 0 kv _ hb (six_new w d kv) (by simp) ((hk.below hal (Nat.le_refl _)).wide (Nat.le_refl _) (by simp)) (hT.below hal))
  have HA := Lib.hid hal
  clear hal hk
  unfold docV
  go_enter Tryd.func30, Tryd.ntmps30
  go_wp2_with fail
  refine HL.out.mono ?_
  rintro e w1 ⟨rfl, hb1⟩
  have HB1 := Lib.hid (HA.out.call hb1)
  clear hb1
  go_wp2_with fail
  go_ret
  exact ⟨rfl, HB1.out⟩
/-- The laws' text. -/
def dtext (s : ByteArray) : Doc := .mk 1 s [] false 0 0
end

section
open Go.RowKit
set_option maxRecDepth 100000
set_option linter.unusedVariables false
set_option linter.unusedSimpArgs false

theorem infoB : (Tryd.prog.info? 74).map (fun i => i.size) = some 2 := by kernel_rfl
theorem liesB : liesAt Tryd.prog Tryd.prog.depth 74 (2 / Tryd.prog.cellsOf 74) 0 74 1 = true := by kernel_rfl
theorem infoByte : (Tryd.prog.info? 5).map (fun i => (i.zero, i.size, i.bytes)) = some (some (.int .u8 0), 1, 1) := by kernel_rfl

set_option maxHeartbeats 1000000 in
theorem copyCheck_self (b : Nat) (w : World) (c0 : w.cell? ⟨b, 0, none⟩ = some (.pointer (some ⟨b, 0, none⟩))) :
    Calls Tryd.prog 55 #[.pointer (some ⟨b, 0, none⟩)] w fun e w' => e = .returned (.tuple #[]) ∧ w' = w := by
  obtain ⟨j, hj, hjs⟩ := Option.map_eq_some_iff.1 infoB
  go_enter Tryd.func55, Tryd.ntmps55
  go_wp2
  rw [Lib.run_neq_ptr_same w _ Tryd.underlying72 hj]
  go_wp2
  go_end0
  exact ⟨rfl, rfl⟩
set_option maxHeartbeats 1000000 in
theorem copyCheck_new (b : Nat) (w : World) (c0 : w.cell? ⟨b, 0, none⟩ = some (.pointer none)) (hsh : w.shape? b = some (74, 2)) (hfz : w.frozen? ⟨b, 0, none⟩ = false) :
    Calls Tryd.prog 55 #[.pointer (some ⟨b, 0, none⟩)] w fun e w' => e = .returned (.tuple #[]) ∧ w' = w.setCell ⟨b, 0, none⟩ (.pointer (some ⟨b, 0, none⟩)) := by
  obtain ⟨j, hj, hjs⟩ := Option.map_eq_some_iff.1 infoB
  go_enter Tryd.func55, Tryd.ntmps55
  go_wp2
  rw [Lib.run_to_unsafe w ⟨b, 0, none⟩ Tryd.underlying72 Tryd.underlying107 hj (by rw [hjs]; decide) hsh (Nat.zero_lt_succ 1)]
  simp only [Result.andThen]
  rw [Oper.upon_value]
  go_wp2
  rw [run_callFunc_extern Tryd.func63 (by kernel_rfl) (by kernel_rfl) (by kernel_rfl) (e := Extern.AbiNoEscape.same) (by kernel_rfl)]
  rw [Lib.run_noEscape]
  simp only [Result.andThen]
  rw [Oper.upon_value]
  go_wp2
  rw [Lib.run_from_unsafe w ⟨b, 0, none⟩ Tryd.underlying107 Tryd.underlying72 hj hsh liesB]
  simp only [Result.andThen]
  rw [Oper.upon_value]
  go_wp2
  go_end0
  exact ⟨rfl, rfl⟩
theorem copyCheck_any (B b : Nat) (bs : List Value) (w : World) (h : Lib.IsBuilder 74 5 B b bs w) :
    Calls Tryd.prog 55 #[.pointer (some ⟨b, 0, none⟩)] w fun e w' => e = .returned (.tuple #[]) ∧ (Lib.BuilderAt 74 5 B b (.pointer (some ⟨b, 0, none⟩)) bs w' ∧ Below B w w' ∧ (∀ k, k < w.heap.size → k ≠ b → w'.heap[k]? = w.heap[k]?) ∧ w'.heap.size = w.heap.size) := by
  rcases h with h | h
  · refine (copyCheck_new b w h.cell0 h.shape h.frozen0).mono ?_
    rintro e w' ⟨rfl, rfl⟩
    exact ⟨rfl, h.used _, (Below.refl B w).setCell (p := ⟨b, 0, none⟩) h.1 _, fun k _ hk => Below.heap_setCell w ⟨b, 0, none⟩ _ k hk, by simp⟩
  · refine (copyCheck_self b w h.cell0).mono ?_
    rintro e w' ⟨rfl, rfl⟩
    exact ⟨rfl, h, Below.refl B _, fun _ _ _ => rfl, rfl⟩

set_option maxHeartbeats 1000000 in
theorem writeString_any (B b : Nat) (bs : List Value) (s : ByteArray) (w : World) (h : Lib.IsBuilder 74 5 B b bs w) (hlen : bs.length + s.size ≤ 140737488355328) (hBw : B ≤ w.heap.size) :
    Calls Tryd.prog 41 #[.pointer (some ⟨b, 0, none⟩), .string s] w fun e w' => e = .returned (.tuple #[.int .i64 s.size, .nilIface]) ∧ (Lib.BuilderAt 74 5 B b (.pointer (some ⟨b, 0, none⟩)) (bs ++ Lib.strCells s) w' ∧ Below B w w') := by
  obtain ⟨i0, hi, hz0, hz1, hz2⟩ := info_parts infoByte
  go_enter Tryd.func41, Tryd.ntmps41
  go_wp2_with (go_at_call 55; refine (copyCheck_any B b bs _ h).mono ?_)
  rintro e w1 ⟨rfl, h1, hb1, _, _⟩
  obtain ⟨hB, v, hbk, hown, hne⟩ := h1
  have c0 : w1.cell? ⟨b, 0, none⟩ = some (.pointer (some ⟨b, 0, none⟩)) := by rw [Lib.cell_of_heap hbk]; rfl
  have c1 : w1.cell? ⟨b, 1, none⟩ = some v := by rw [Lib.cell_of_heap hbk]; rfl
  go_wp2_with (at_builtin; refine Lib.wpList_append_own_string _ rfl _ _ 35 9 rfl B 5 i0 Tryd.underlying35 Tryd.underlying9 hi hz0 hz1 hz2 _ _ _ rfl hown s rfl ?c3 ?c4 ?c5 ?_)
  case c3 => unfold maxLen; omega
  case c4 => omega
  case c5 => have := hb1.size; omega
  intro v' w2 hown' hgrow _
  have hlt : b < w1.heap.size := by
    rcases Nat.lt_or_ge b w1.heap.size with h' | h'
    · exact h'
    · simp [Array.getElem?_eq_none h'] at hbk
  have hb2 : w2.heap[b]? = some (.cells #[.pointer (some ⟨b, 0, none⟩), v] 74 (0, 0)) := by
    rw [hgrow.block b hlt (fun e => hne e.symm)]
    exact hbk
  have d0 : w2.cell? ⟨b, 0, none⟩ = some (.pointer (some ⟨b, 0, none⟩)) := by rw [Lib.cell_of_heap hb2]; rfl
  have d1 : w2.cell? ⟨b, 1, none⟩ = some v := by rw [Lib.cell_of_heap hb2]; rfl
  have f1 : w2.frozen? ⟨b, 1, none⟩ = false := Lib.frozen_of_heap hb2 1
  obtain ⟨ao, n', cap, rfl⟩ : ∃ ao n' cap, v' = .slice ao n' cap := by
    rcases hown'.2 with ⟨hv, _⟩ | ⟨g, cap, cur, hv, _⟩
    · exact ⟨_, _, _, hv⟩
    · exact ⟨_, _, _, hv⟩
  go_wp2
  go_ret2
  refine ⟨rfl, ?_, ?_⟩
  · exact Lib.BuilderAt.put hB hb2 (bs' := bs ++ Lib.strCells s) (by simpa [Lib.strCells_length] using hown') (by decide)
  · exact (hb1.grown hgrow (by have := hb1.size; omega) (fun k hk => (hown.lt k hk).1)).setCell (p := ⟨b, 1, none⟩) hB _
end

section
open Go.RowKit
set_option maxRecDepth 100000
set_option linter.unusedVariables false
set_option linter.unusedSimpArgs false

/-- A builder that holds these bytes. -/
def Held (B b : Nat) (bs : List UInt8) (w : World) : Prop := Lib.IsBuilder 74 5 B b (Lib.byteCells bs) w
/-- What going through a document the flat way does. -/
def FlatOut (d : Doc) (B b : Nat) (bs : List UInt8) (w : World) (e : Ending) (w' : World) : Prop :=
  match d.flat with
  | some l => e = .returned (.bool true) ∧ Held B b (bs ++ l) w' ∧ Below B w w'
  | none => e = .returned (.bool false) ∧ Below B w w'
theorem flatOut_some {d : Doc} {B b : Nat} {bs l : List UInt8} {w w' : World} {e : Ending} (h : d.flat = some l) : FlatOut d B b bs w e w' = (e = .returned (.bool true) ∧ Held B b (bs ++ l) w' ∧ Below B w w') := by unfold FlatOut; rw [h]
theorem flatOut_none {d : Doc} {B b : Nat} {bs : List UInt8} {w w' : World} {e : Ending} (h : d.flat = Option.none) : FlatOut d B b bs w e w' = (e = .returned (.bool false) ∧ Below B w w') := by unfold FlatOut; rw [h]
/-- The kids that are gone through, each by its own contract. -/
def KidsGo (B b : Nat) (w : World) (L : List Doc) (g off : Nat) : Prop := ∀ (j : Nat) (hj : j < L.length) (bs : List UInt8) (W : World), Below B w W → Held B b bs W → bs.length + (L[j]).bulk ≤ 1099511627776 →
  Calls Tryd.prog 39 #[.pointer (some ⟨g, off + j * 6, none⟩), .func (.func 40) #[] #[.pointer (some ⟨b, 0, none⟩)]] W (FlatOut L[j] B b bs W)
theorem closure_any (B b : Nat) (bs : List UInt8) (s : ByteArray) (w : World) (h : Held B b bs w) (hlen : bs.length + s.size ≤ 1099511627776) (hBw : B ≤ w.heap.size) :
    Calls Tryd.prog 40 #[.string s, .pointer (some ⟨b, 0, none⟩)] w fun e w' => e = .returned (.tuple #[]) ∧ Held B b (bs ++ s.data.toList) w' ∧ Below B w w' := by
  have hb : (Lib.byteCells bs).length + s.size ≤ 140737488355328 := by rw [Lib.byteCells_length]; omega
  have HW := Lib.hid (writeString_any B b (Lib.byteCells bs) s w h hb hBw)
  clear h hb
  go_enter Tryd.func40, Tryd.ntmps40
  go_wp2_with (go_at_call 41; refine HW.out.mono ?_; rintro e w1 ⟨rfl, h1, hb1⟩; have H1 := Lib.hid h1; clear h1)
  go_end0
  refine ⟨rfl, ?_, hb1⟩
  have := H1.out
  rw [Lib.strCells_eq] at this
  unfold Held
  rw [Lib.byteCells, List.map_append]
  exact .inr this
theorem flatL_stop {L : List Doc} {j : Nat} (hj : j < L.length) (h : (L[j]).flat = Option.none) : flatL L = Option.none := by
  have e : L = L.take j ++ L[j] :: L.drop (j + 1) := by rw [List.getElem_cons_drop, List.take_append_drop]
  rw [e, flatL_app]
  simp only [flatL, h]
  cases flatL (L.take j) <;> rfl
theorem flatL_more {L : List Doc} {j : Nat} {l a : List UInt8} (hj : j < L.length) (h1 : flatL (L.take j) = some l) (h : (L[j]).flat = some a) : flatL (L.take (j + 1)) = some (l ++ a) := by
  rw [List.take_succ_eq_append_getElem hj, flatL_app, h1, flatL_one, h]
  rfl
theorem flatL_bd {L : List Doc} {j : Nat} {l : List UInt8} (hj : j < L.length) (h1 : flatL (L.take j) = some l) : l.length + (L[j]).bulk ≤ bulkL L := by
  have := flatL_len (L.take j) (fun x _ => x.flat_len) l h1
  have := bulkL_get hj
  omega

set_option maxHeartbeats 4000000 in
theorem flatly_1 (t : ByteArray) (ks : List Doc) (brk : Bool) (i y : Int) (a : Option Addr) (cap g off B b : Nat) (bs : List UInt8) (w : World) (h0 : w.cell? ⟨g, off, none⟩ = some (.int .i64 1)) (h1 : w.cell? ⟨g, off + 1, none⟩ = some (.string t)) (h2 : w.cell? ⟨g, off + 2, none⟩ = some (.slice a ks.length cap)) (h3 : w.cell? ⟨g, off + 3, none⟩ = some (.bool brk))
    (hcap : ks.length ≤ cap) (hB : B ≤ w.heap.size) (hh : Held B b bs w) (hbd : bs.length + (Doc.mk 1 t ks brk i y).bulk ≤ 1099511627776) (hsh : (Doc.mk 1 t ks brk i y).shape = true)
    (hkids : 0 < ks.length → ∃ g' off', a = some ⟨g', off', none⟩ ∧ KidsGo B b w ks g' off') :
    Calls Tryd.prog 39 #[.pointer (some ⟨g, off, none⟩), .func (.func 40) #[] #[.pointer (some ⟨b, 0, none⟩)]] w (FlatOut (.mk 1 t ks brk i y) B b bs w) := by
  have HF : Hid ((Doc.mk 1 t ks brk i y).flat = some t.data.toList) := Lib.hid (by rw [Doc.flat_eq]; rfl)
  have HH := Lib.hid (closure_any B b bs t w hh (by rw [Doc.bulk_eq] at hbd; simp only [Doc.text] at hbd; omega) hB)
  clear hh hkids hsh
  go_enter Tryd.func39, Tryd.ntmps39
  go_wp2_with fail
  refine HH.out.mono ?_
  rintro e w1 ⟨rfl, hw1, hb1⟩
  have HW1 := Lib.hid hw1
  clear hw1
  go_wp2_with fail
  go_ret
  rw [flatOut_some HF.out]
  exact ⟨rfl, HW1.out, hb1⟩

set_option maxHeartbeats 4000000 in
theorem flatly_3 (t : ByteArray) (ks : List Doc) (brk : Bool) (i y : Int) (a : Option Addr) (cap g off B b : Nat) (bs : List UInt8) (w : World) (h0 : w.cell? ⟨g, off, none⟩ = some (.int .i64 3)) (h1 : w.cell? ⟨g, off + 1, none⟩ = some (.string t)) (h2 : w.cell? ⟨g, off + 2, none⟩ = some (.slice a ks.length cap)) (h3 : w.cell? ⟨g, off + 3, none⟩ = some (.bool brk))
    (hcap : ks.length ≤ cap) (hB : B ≤ w.heap.size) (hh : Held B b bs w) (hbd : bs.length + (Doc.mk 3 t ks brk i y).bulk ≤ 1099511627776) (hsh : (Doc.mk 3 t ks brk i y).shape = true)
    (hkids : 0 < ks.length → ∃ g' off', a = some ⟨g', off', none⟩ ∧ KidsGo B b w ks g' off') :
    Calls Tryd.prog 39 #[.pointer (some ⟨g, off, none⟩), .func (.func 40) #[] #[.pointer (some ⟨b, 0, none⟩)]] w (FlatOut (.mk 3 t ks brk i y) B b bs w) := by
  have HF : Hid ((Doc.mk 3 t ks brk i y).flat = some [32]) := Lib.hid (by rw [Doc.flat_eq]; rfl)
  have HH := Lib.hid (closure_any B b bs ⟨#[32]⟩ w hh (by have : (⟨#[32]⟩ : ByteArray).size = 1 := rfl; rw [Doc.bulk_eq] at hbd; omega) hB)
  clear hh hkids hsh
  go_enter Tryd.func39, Tryd.ntmps39
  go_wp2_with fail
  refine HH.out.mono ?_
  rintro e w1 ⟨rfl, hw1, hb1⟩
  have HW1 := Lib.hid hw1
  clear hw1
  go_wp2_with fail
  go_ret
  rw [flatOut_some HF.out]
  exact ⟨rfl, HW1.out, hb1⟩

set_option maxHeartbeats 4000000 in
theorem flatly_5 (t : ByteArray) (ks : List Doc) (brk : Bool) (i y : Int) (a : Option Addr) (cap g off B b : Nat) (bs : List UInt8) (w : World) (h0 : w.cell? ⟨g, off, none⟩ = some (.int .i64 5)) (h1 : w.cell? ⟨g, off + 1, none⟩ = some (.string t)) (h2 : w.cell? ⟨g, off + 2, none⟩ = some (.slice a ks.length cap)) (h3 : w.cell? ⟨g, off + 3, none⟩ = some (.bool brk))
    (hcap : ks.length ≤ cap) (hB : B ≤ w.heap.size) (hh : Held B b bs w) (hbd : bs.length + (Doc.mk 5 t ks brk i y).bulk ≤ 1099511627776) (hsh : (Doc.mk 5 t ks brk i y).shape = true)
    (hkids : 0 < ks.length → ∃ g' off', a = some ⟨g', off', none⟩ ∧ KidsGo B b w ks g' off') :
    Calls Tryd.prog 39 #[.pointer (some ⟨g, off, none⟩), .func (.func 40) #[] #[.pointer (some ⟨b, 0, none⟩)]] w (FlatOut (.mk 5 t ks brk i y) B b bs w) := by
  have HF : Hid ((Doc.mk 5 t ks brk i y).flat = Option.none) := Lib.hid (by rw [Doc.flat_eq]; rfl)
  clear hh hkids hsh
  go_enter Tryd.func39, Tryd.ntmps39
  go_wp2_with fail
  go_ret
  rw [flatOut_none HF.out]
  exact ⟨rfl, Below.refl B w⟩

set_option maxHeartbeats 4000000 in
theorem flatly_6 (t : ByteArray) (ks : List Doc) (brk : Bool) (i y : Int) (a : Option Addr) (cap g off B b : Nat) (bs : List UInt8) (w : World) (h0 : w.cell? ⟨g, off, none⟩ = some (.int .i64 6)) (h1 : w.cell? ⟨g, off + 1, none⟩ = some (.string t)) (h2 : w.cell? ⟨g, off + 2, none⟩ = some (.slice a ks.length cap)) (h3 : w.cell? ⟨g, off + 3, none⟩ = some (.bool brk))
    (hcap : ks.length ≤ cap) (hB : B ≤ w.heap.size) (hh : Held B b bs w) (hbd : bs.length + (Doc.mk 6 t ks brk i y).bulk ≤ 1099511627776) (hsh : (Doc.mk 6 t ks brk i y).shape = true)
    (hkids : 0 < ks.length → ∃ g' off', a = some ⟨g', off', none⟩ ∧ KidsGo B b w ks g' off') :
    Calls Tryd.prog 39 #[.pointer (some ⟨g, off, none⟩), .func (.func 40) #[] #[.pointer (some ⟨b, 0, none⟩)]] w (FlatOut (.mk 6 t ks brk i y) B b bs w) := by
  have HF : Hid ((Doc.mk 6 t ks brk i y).flat = Option.none) := Lib.hid (by rw [Doc.flat_eq]; rfl)
  clear hh hkids hsh
  go_enter Tryd.func39, Tryd.ntmps39
  go_wp2_with fail
  go_ret
  rw [flatOut_none HF.out]
  exact ⟨rfl, Below.refl B w⟩

set_option maxHeartbeats 4000000 in
theorem flatly_16 (t : ByteArray) (ks : List Doc) (brk : Bool) (i y : Int) (a : Option Addr) (cap g off B b : Nat) (bs : List UInt8) (w : World) (h0 : w.cell? ⟨g, off, none⟩ = some (.int .i64 16)) (h1 : w.cell? ⟨g, off + 1, none⟩ = some (.string t)) (h2 : w.cell? ⟨g, off + 2, none⟩ = some (.slice a ks.length cap)) (h3 : w.cell? ⟨g, off + 3, none⟩ = some (.bool brk))
    (hcap : ks.length ≤ cap) (hB : B ≤ w.heap.size) (hh : Held B b bs w) (hbd : bs.length + (Doc.mk 16 t ks brk i y).bulk ≤ 1099511627776) (hsh : (Doc.mk 16 t ks brk i y).shape = true)
    (hkids : 0 < ks.length → ∃ g' off', a = some ⟨g', off', none⟩ ∧ KidsGo B b w ks g' off') :
    Calls Tryd.prog 39 #[.pointer (some ⟨g, off, none⟩), .func (.func 40) #[] #[.pointer (some ⟨b, 0, none⟩)]] w (FlatOut (.mk 16 t ks brk i y) B b bs w) := by
  have HF : Hid ((Doc.mk 16 t ks brk i y).flat = Option.none) := Lib.hid (by rw [Doc.flat_eq]; rfl)
  clear hh hkids hsh
  go_enter Tryd.func39, Tryd.ntmps39
  go_wp2_with fail
  go_ret
  rw [flatOut_none HF.out]
  exact ⟨rfl, Below.refl B w⟩

set_option maxHeartbeats 4000000 in
theorem flatly_14 (t : ByteArray) (ks : List Doc) (brk : Bool) (i y : Int) (a : Option Addr) (cap g off B b : Nat) (bs : List UInt8) (w : World) (h0 : w.cell? ⟨g, off, none⟩ = some (.int .i64 14)) (h1 : w.cell? ⟨g, off + 1, none⟩ = some (.string t)) (h2 : w.cell? ⟨g, off + 2, none⟩ = some (.slice a ks.length cap)) (h3 : w.cell? ⟨g, off + 3, none⟩ = some (.bool brk))
    (hcap : ks.length ≤ cap) (hB : B ≤ w.heap.size) (hh : Held B b bs w) (hbd : bs.length + (Doc.mk 14 t ks brk i y).bulk ≤ 1099511627776) (hsh : (Doc.mk 14 t ks brk i y).shape = true)
    (hkids : 0 < ks.length → ∃ g' off', a = some ⟨g', off', none⟩ ∧ KidsGo B b w ks g' off') :
    Calls Tryd.prog 39 #[.pointer (some ⟨g, off, none⟩), .func (.func 40) #[] #[.pointer (some ⟨b, 0, none⟩)]] w (FlatOut (.mk 14 t ks brk i y) B b bs w) := by
  have HF : Hid ((Doc.mk 14 t ks brk i y).flat = some []) := Lib.hid (by rw [Doc.flat_eq]; rfl)
  have HH := Lib.hid hh
  clear hh hkids hsh
  go_enter Tryd.func39, Tryd.ntmps39
  go_wp2_with fail
  go_ret
  rw [flatOut_some HF.out, List.append_nil]
  exact ⟨rfl, HH.out, Below.refl B w⟩

set_option maxHeartbeats 4000000 in
theorem flatly_4 (t : ByteArray) (ks : List Doc) (brk : Bool) (i y : Int) (a : Option Addr) (cap g off B b : Nat) (bs : List UInt8) (w : World) (h0 : w.cell? ⟨g, off, none⟩ = some (.int .i64 4)) (h1 : w.cell? ⟨g, off + 1, none⟩ = some (.string t)) (h2 : w.cell? ⟨g, off + 2, none⟩ = some (.slice a ks.length cap)) (h3 : w.cell? ⟨g, off + 3, none⟩ = some (.bool brk))
    (hcap : ks.length ≤ cap) (hB : B ≤ w.heap.size) (hh : Held B b bs w) (hbd : bs.length + (Doc.mk 4 t ks brk i y).bulk ≤ 1099511627776) (hsh : (Doc.mk 4 t ks brk i y).shape = true)
    (hkids : 0 < ks.length → ∃ g' off', a = some ⟨g', off', none⟩ ∧ KidsGo B b w ks g' off') :
    Calls Tryd.prog 39 #[.pointer (some ⟨g, off, none⟩), .func (.func 40) #[] #[.pointer (some ⟨b, 0, none⟩)]] w (FlatOut (.mk 4 t ks brk i y) B b bs w) := by
  have HF : Hid ((Doc.mk 4 t ks brk i y).flat = some []) := Lib.hid (by rw [Doc.flat_eq]; rfl)
  have HH := Lib.hid hh
  clear hh hkids hsh
  go_enter Tryd.func39, Tryd.ntmps39
  go_wp2_with fail
  go_ret
  rw [flatOut_some HF.out, List.append_nil]
  exact ⟨rfl, HH.out, Below.refl B w⟩

set_option maxHeartbeats 4000000 in
theorem flatly_15 (t : ByteArray) (ks : List Doc) (brk : Bool) (i y : Int) (a : Option Addr) (cap g off B b : Nat) (bs : List UInt8) (w : World) (h0 : w.cell? ⟨g, off, none⟩ = some (.int .i64 15)) (h1 : w.cell? ⟨g, off + 1, none⟩ = some (.string t)) (h2 : w.cell? ⟨g, off + 2, none⟩ = some (.slice a ks.length cap)) (h3 : w.cell? ⟨g, off + 3, none⟩ = some (.bool brk))
    (hcap : ks.length ≤ cap) (hB : B ≤ w.heap.size) (hh : Held B b bs w) (hbd : bs.length + (Doc.mk 15 t ks brk i y).bulk ≤ 1099511627776) (hsh : (Doc.mk 15 t ks brk i y).shape = true)
    (hkids : 0 < ks.length → ∃ g' off', a = some ⟨g', off', none⟩ ∧ KidsGo B b w ks g' off') :
    Calls Tryd.prog 39 #[.pointer (some ⟨g, off, none⟩), .func (.func 40) #[] #[.pointer (some ⟨b, 0, none⟩)]] w (FlatOut (.mk 15 t ks brk i y) B b bs w) := by
  have HF : Hid ((Doc.mk 15 t ks brk i y).flat = some []) := Lib.hid (by rw [Doc.flat_eq]; rfl)
  have HH := Lib.hid hh
  clear hh hkids hsh
  go_enter Tryd.func39, Tryd.ntmps39
  go_wp2_with fail
  go_ret
  rw [flatOut_some HF.out, List.append_nil]
  exact ⟨rfl, HH.out, Below.refl B w⟩
end

section
open Go.RowKit
set_option maxRecDepth 100000
set_option linter.unusedVariables false
set_option linter.unusedSimpArgs false

set_option maxHeartbeats 4000000 in
theorem flatly_7 (t : ByteArray) (ks : List Doc) (brk : Bool) (i y : Int) (a : Option Addr) (cap g off B b : Nat) (bs : List UInt8) (w : World) (h0 : w.cell? ⟨g, off, none⟩ = some (.int .i64 7)) (h1 : w.cell? ⟨g, off + 1, none⟩ = some (.string t)) (h2 : w.cell? ⟨g, off + 2, none⟩ = some (.slice a ks.length cap)) (h3 : w.cell? ⟨g, off + 3, none⟩ = some (.bool brk))
    (hcap : ks.length ≤ cap) (hB : B ≤ w.heap.size) (hh : Held B b bs w) (hbd : bs.length + (Doc.mk 7 t ks brk i y).bulk ≤ 1099511627776) (hsh : (Doc.mk 7 t ks brk i y).shape = true)
    (hkids : 0 < ks.length → ∃ g' off', a = some ⟨g', off', none⟩ ∧ KidsGo B b w ks g' off') :
    Calls Tryd.prog 39 #[.pointer (some ⟨g, off, none⟩), .func (.func 40) #[] #[.pointer (some ⟨b, 0, none⟩)]] w (FlatOut (.mk 7 t ks brk i y) B b bs w) := by
  have h1n : 1 ≤ ks.length := by
    cases ks with
    | nil =>
      exfalso
      rw [Doc.shape_eq] at hsh
      simp [Doc.formed, formedF, Doc.kind, Doc.kids, Doc.text, Doc.brk, Doc.id, Doc.width] at hsh
    | cons x xs => simp
  clear hsh
  cases brk
  · obtain ⟨D, hD⟩ : ∃ D, D = Doc.mk 7 t ks false i y := ⟨_, rfl⟩
    obtain ⟨L, hL⟩ : ∃ L, L = ks.take 1 := ⟨_, rfl⟩
    obtain ⟨n, hn⟩ : ∃ n, n = L.length := ⟨_, rfl⟩
    have HNL : Hid (L.length = n) := Lib.hid hn.symm
    have HDF : Hid (D.flat = flatL L) := Lib.hid (by rw [hD, hL, Doc.flat_eq]; simp only [Doc.kind, Doc.kids, Doc.brk]; rw [← flatH_take]; rfl)
    have HBD : Hid (bs.length + bulkL L ≤ 1099511627776) := Lib.hid (by rw [Doc.bulk_eq] at hbd; simp only [Doc.kids, Doc.text] at hbd; have := bulkL_take ks 1; have := bulkL_drop ks 1; rw [hL]; omega)
    have HH := Lib.hid hh
    have hnb : n ≤ 1099511627776 := by have h1 := nodesL_len ks; have h2 := (Doc.mk 7 t ks false i y).nodes_bulk; rw [Doc.nodes_eq] at h2; simp only [Doc.kids] at h2; have h3 : L.length ≤ ks.length := (by rw [hL]; first | exact Nat.le_refl _ | (simp; done) | (simp; omega)); omega
    rw [← hD]
    have hn1 : n = 1 := by rw [hn, hL, List.length_take]; omega
    obtain ⟨g', off', rfl, hkg⟩ := hkids (by omega)
    have HKG : Hid (KidsGo B b w L g' off') := Lib.hid (by
      intro j hj bs W h1 h2 h3
      have e : L[j] = ks[j]'(by rw [hL, List.length_take] at hj; omega) := by simp [hL]
      rw [e] at h3 ⊢
      exact hkg j _ bs W h1 h2 h3)
    obtain ⟨m, hm⟩ : ∃ m, m = ks.length := ⟨_, rfl⟩
    rw [← hm] at h2 hcap h1n
    have hc0 : cap ≠ 0 := by omega
    have hc1 : 1 ≤ cap := by omega
    have HKN := Lib.hid hm
    have HHN := Lib.hid hn
    have HHL := Lib.hid hL
    have HHD := Lib.hid hD
    clear hm hn hL hD hh hkids hkg hbd
    subst hn1
    go_enter Tryd.func39, Tryd.ntmps39
    go_wp2_with fail
    go_loopw [6, 50] (fun _ i wr => ∃ (j : Nat) (l : List UInt8), j ≤ 1 ∧ i = .int .i64 (j : Int) ∧ flatL (L.take j) = some l ∧ Held B b (bs ++ l) wr ∧ Below B w wr) (fun _ i _ => 1 - (intOf i).toNat)
    case atStart => exact ⟨0, [], Nat.zero_le _, rfl, rfl, by rw [List.append_nil]; exact HH.out, Below.refl B w⟩
    case round =>
      obtain ⟨j, l, hj, rfl, hfl, hhl, hbw⟩ := hrel
      have HFL := Lib.hid hfl
      have HHL := Lib.hid hhl
      clear hfl hhl
      by_cases hlt : j < 1
      · have hjL : j < L.length := by rw [HNL.out]; exact hlt
        have HC := Lib.hid (HKG.out j hjL (bs ++ l) wr hbw HHL.out (by have := flatL_bd hjL HFL.out; have := HBD.out; rw [List.length_append]; omega))
        cases hf : (L[j]).flat with
        | none =>
          have HD : Hid (D.flat = Option.none) := Lib.hid (by rw [HDF.out]; exact flatL_stop hjL hf)
          have HFN := Lib.hid hf
          clear hf
          go_wp2_with fail
          refine HC.out.mono ?_
          intro e w1 hw1
          rw [flatOut_none HFN.out] at hw1
          obtain ⟨rfl, hb1⟩ := hw1
          have HB1 := Lib.hid (hbw.trans hb1)
          clear hb1
          go_wp2_with fail
          go_ret
          rw [flatOut_none HD.out]
          exact ⟨rfl, HB1.out⟩
        | some v =>
          have HM := Lib.hid (flatL_more hjL HFL.out hf)
          have HFN := Lib.hid hf
          clear hf
          go_wp2_with fail
          refine HC.out.mono ?_
          intro e w1 hw1
          rw [flatOut_some HFN.out] at hw1
          obtain ⟨rfl, hh1, hb1⟩ := hw1
          have HB1 := Lib.hid (hbw.trans hb1)
          have HH1 := Lib.hid hh1
          clear hb1 hh1
          go_wp2_with fail
          go_roundw
          case rel => exact ⟨j + 1, l ++ v, by omega, by go_num, HM.out, by rw [← List.append_assoc]; exact HH1.out, HB1.out⟩
          case measure => simp [intOf]; omega
      · have HD : Hid (D.flat = some l) := Lib.hid (by rw [HDF.out]; have := HFL.out; rw [List.take_of_length_le (by rw [HNL.out]; omega)] at this; exact this)
        go_wp2_with fail
        go_ret
        rw [flatOut_some HD.out]
        exact ⟨rfl, HHL.out, hbw⟩
  · have HF : Hid ((Doc.mk 7 t ks true i y).flat = Option.none) := Lib.hid (by rw [Doc.flat_eq]; rfl)
    clear hh hkids
    go_enter Tryd.func39, Tryd.ntmps39
    go_wp2_with fail
    go_ret
    rw [flatOut_none HF.out]
    exact ⟨rfl, Below.refl B w⟩

set_option maxHeartbeats 4000000 in
theorem flatly_8 (t : ByteArray) (ks : List Doc) (brk : Bool) (i y : Int) (a : Option Addr) (cap g off B b : Nat) (bs : List UInt8) (w : World) (h0 : w.cell? ⟨g, off, none⟩ = some (.int .i64 8)) (h1 : w.cell? ⟨g, off + 1, none⟩ = some (.string t)) (h2 : w.cell? ⟨g, off + 2, none⟩ = some (.slice a ks.length cap)) (h3 : w.cell? ⟨g, off + 3, none⟩ = some (.bool brk))
    (hcap : ks.length ≤ cap) (hB : B ≤ w.heap.size) (hh : Held B b bs w) (hbd : bs.length + (Doc.mk 8 t ks brk i y).bulk ≤ 1099511627776) (hsh : (Doc.mk 8 t ks brk i y).shape = true)
    (hkids : 0 < ks.length → ∃ g' off', a = some ⟨g', off', none⟩ ∧ KidsGo B b w ks g' off') :
    Calls Tryd.prog 39 #[.pointer (some ⟨g, off, none⟩), .func (.func 40) #[] #[.pointer (some ⟨b, 0, none⟩)]] w (FlatOut (.mk 8 t ks brk i y) B b bs w) := by
  have h1n : 1 ≤ ks.length := by
    cases ks with
    | nil =>
      exfalso
      rw [Doc.shape_eq] at hsh
      simp [Doc.formed, formedF, Doc.kind, Doc.kids, Doc.text, Doc.brk, Doc.id, Doc.width] at hsh
    | cons x xs => simp
  clear hsh
  cases brk
  · obtain ⟨D, hD⟩ : ∃ D, D = Doc.mk 8 t ks false i y := ⟨_, rfl⟩
    obtain ⟨L, hL⟩ : ∃ L, L = ks.take 1 := ⟨_, rfl⟩
    obtain ⟨n, hn⟩ : ∃ n, n = L.length := ⟨_, rfl⟩
    have HNL : Hid (L.length = n) := Lib.hid hn.symm
    have HDF : Hid (D.flat = flatL L) := Lib.hid (by rw [hD, hL, Doc.flat_eq]; simp only [Doc.kind, Doc.kids, Doc.brk]; rw [← flatH_take]; rfl)
    have HBD : Hid (bs.length + bulkL L ≤ 1099511627776) := Lib.hid (by rw [Doc.bulk_eq] at hbd; simp only [Doc.kids, Doc.text] at hbd; have := bulkL_take ks 1; have := bulkL_drop ks 1; rw [hL]; omega)
    have HH := Lib.hid hh
    have hnb : n ≤ 1099511627776 := by have h1 := nodesL_len ks; have h2 := (Doc.mk 8 t ks false i y).nodes_bulk; rw [Doc.nodes_eq] at h2; simp only [Doc.kids] at h2; have h3 : L.length ≤ ks.length := (by rw [hL]; first | exact Nat.le_refl _ | (simp; done) | (simp; omega)); omega
    rw [← hD]
    have hn1 : n = 1 := by rw [hn, hL, List.length_take]; omega
    obtain ⟨g', off', rfl, hkg⟩ := hkids (by omega)
    have HKG : Hid (KidsGo B b w L g' off') := Lib.hid (by
      intro j hj bs W h1 h2 h3
      have e : L[j] = ks[j]'(by rw [hL, List.length_take] at hj; omega) := by simp [hL]
      rw [e] at h3 ⊢
      exact hkg j _ bs W h1 h2 h3)
    obtain ⟨m, hm⟩ : ∃ m, m = ks.length := ⟨_, rfl⟩
    rw [← hm] at h2 hcap h1n
    have hc0 : cap ≠ 0 := by omega
    have hc1 : 1 ≤ cap := by omega
    have HKN := Lib.hid hm
    have HHN := Lib.hid hn
    have HHL := Lib.hid hL
    have HHD := Lib.hid hD
    clear hm hn hL hD hh hkids hkg hbd
    subst hn1
    go_enter Tryd.func39, Tryd.ntmps39
    go_wp2_with fail
    go_loopw [6, 50] (fun _ i wr => ∃ (j : Nat) (l : List UInt8), j ≤ 1 ∧ i = .int .i64 (j : Int) ∧ flatL (L.take j) = some l ∧ Held B b (bs ++ l) wr ∧ Below B w wr) (fun _ i _ => 1 - (intOf i).toNat)
    case atStart => exact ⟨0, [], Nat.zero_le _, rfl, rfl, by rw [List.append_nil]; exact HH.out, Below.refl B w⟩
    case round =>
      obtain ⟨j, l, hj, rfl, hfl, hhl, hbw⟩ := hrel
      have HFL := Lib.hid hfl
      have HHL := Lib.hid hhl
      clear hfl hhl
      by_cases hlt : j < 1
      · have hjL : j < L.length := by rw [HNL.out]; exact hlt
        have HC := Lib.hid (HKG.out j hjL (bs ++ l) wr hbw HHL.out (by have := flatL_bd hjL HFL.out; have := HBD.out; rw [List.length_append]; omega))
        cases hf : (L[j]).flat with
        | none =>
          have HD : Hid (D.flat = Option.none) := Lib.hid (by rw [HDF.out]; exact flatL_stop hjL hf)
          have HFN := Lib.hid hf
          clear hf
          go_wp2_with fail
          refine HC.out.mono ?_
          intro e w1 hw1
          rw [flatOut_none HFN.out] at hw1
          obtain ⟨rfl, hb1⟩ := hw1
          have HB1 := Lib.hid (hbw.trans hb1)
          clear hb1
          go_wp2_with fail
          go_ret
          rw [flatOut_none HD.out]
          exact ⟨rfl, HB1.out⟩
        | some v =>
          have HM := Lib.hid (flatL_more hjL HFL.out hf)
          have HFN := Lib.hid hf
          clear hf
          go_wp2_with fail
          refine HC.out.mono ?_
          intro e w1 hw1
          rw [flatOut_some HFN.out] at hw1
          obtain ⟨rfl, hh1, hb1⟩ := hw1
          have HB1 := Lib.hid (hbw.trans hb1)
          have HH1 := Lib.hid hh1
          clear hb1 hh1
          go_wp2_with fail
          go_roundw
          case rel => exact ⟨j + 1, l ++ v, by omega, by go_num, HM.out, by rw [← List.append_assoc]; exact HH1.out, HB1.out⟩
          case measure => simp [intOf]; omega
      · have HD : Hid (D.flat = some l) := Lib.hid (by rw [HDF.out]; have := HFL.out; rw [List.take_of_length_le (by rw [HNL.out]; omega)] at this; exact this)
        go_wp2_with fail
        go_ret
        rw [flatOut_some HD.out]
        exact ⟨rfl, HHL.out, hbw⟩
  · have HF : Hid ((Doc.mk 8 t ks true i y).flat = Option.none) := Lib.hid (by rw [Doc.flat_eq]; rfl)
    clear hh hkids
    go_enter Tryd.func39, Tryd.ntmps39
    go_wp2_with fail
    go_ret
    rw [flatOut_none HF.out]
    exact ⟨rfl, Below.refl B w⟩

set_option maxHeartbeats 4000000 in
theorem flatly_10 (t : ByteArray) (ks : List Doc) (brk : Bool) (i y : Int) (a : Option Addr) (cap g off B b : Nat) (bs : List UInt8) (w : World) (h0 : w.cell? ⟨g, off, none⟩ = some (.int .i64 10)) (h1 : w.cell? ⟨g, off + 1, none⟩ = some (.string t)) (h2 : w.cell? ⟨g, off + 2, none⟩ = some (.slice a ks.length cap)) (h3 : w.cell? ⟨g, off + 3, none⟩ = some (.bool brk))
    (hcap : ks.length ≤ cap) (hB : B ≤ w.heap.size) (hh : Held B b bs w) (hbd : bs.length + (Doc.mk 10 t ks brk i y).bulk ≤ 1099511627776) (hsh : (Doc.mk 10 t ks brk i y).shape = true)
    (hkids : 0 < ks.length → ∃ g' off', a = some ⟨g', off', none⟩ ∧ KidsGo B b w ks g' off') :
    Calls Tryd.prog 39 #[.pointer (some ⟨g, off, none⟩), .func (.func 40) #[] #[.pointer (some ⟨b, 0, none⟩)]] w (FlatOut (.mk 10 t ks brk i y) B b bs w) := by
  have h1n : ks.length = 2 := by
    rw [Doc.shape_eq] at hsh
    simp only [Doc.formed, formedF, Doc.kind, Doc.kids, Doc.text, Doc.brk, Doc.id, Doc.width] at hsh
    simp at hsh
    omega
  clear hsh
  obtain ⟨D, hD⟩ : ∃ D, D = Doc.mk 10 t ks brk i y := ⟨_, rfl⟩
  obtain ⟨L, hL⟩ : ∃ L, L = ks.drop 1 := ⟨_, rfl⟩
  obtain ⟨n, hn⟩ : ∃ n, n = L.length := ⟨_, rfl⟩
  have HNL : Hid (L.length = n) := Lib.hid hn.symm
  have HDF : Hid (D.flat = flatL L) := Lib.hid (by rw [hD, hL, Doc.flat_eq]; simp only [Doc.kind, Doc.kids, Doc.brk]; rw [← flatT_drop]; rfl)
  have HBD : Hid (bs.length + bulkL L ≤ 1099511627776) := Lib.hid (by rw [Doc.bulk_eq] at hbd; simp only [Doc.kids, Doc.text] at hbd; have := bulkL_take ks 1; have := bulkL_drop ks 1; rw [hL]; omega)
  have HH := Lib.hid hh
  have hnb : n ≤ 1099511627776 := by have h1 := nodesL_len ks; have h2 := (Doc.mk 10 t ks brk i y).nodes_bulk; rw [Doc.nodes_eq] at h2; simp only [Doc.kids] at h2; have h3 : L.length ≤ ks.length := (by rw [hL]; first | exact Nat.le_refl _ | (simp; done) | (simp; omega)); omega
  rw [← hD]
  have hn1 : n = 1 := by rw [hn, hL, List.length_drop]; omega
  obtain ⟨g', off', rfl, hkg⟩ := hkids (by omega)
  have HKG : Hid (KidsGo B b w L g' (off' + 6)) := Lib.hid (by
    intro j hj bs W h1 h2 h3
    have e : L[j] = ks[j + 1]'(by rw [hL, List.length_drop] at hj; omega) := by simp [hL, Nat.add_comm]
    rw [e] at h3 ⊢
    have := hkg (j + 1) (by rw [hL, List.length_drop] at hj; omega) bs W h1 h2 h3
    rw [show off' + (j + 1) * 6 = off' + 6 + j * 6 by omega] at this
    exact this)
  rw [h1n] at h2 hcap
  have hc0 : cap ≠ 1 := by omega
  have hc1 : 1 ≤ cap := by omega
  have HKN := Lib.hid h1n
  have HHN := Lib.hid hn
  have HHL := Lib.hid hL
  have HHD := Lib.hid hD
  clear h1n hn hL hD hh hkids hkg hbd
  subst hn1
  go_enter Tryd.func39, Tryd.ntmps39
  go_wp2_with fail
  go_loopw [6, 50] (fun _ i wr => ∃ (j : Nat) (l : List UInt8), j ≤ 1 ∧ i = .int .i64 (j : Int) ∧ flatL (L.take j) = some l ∧ Held B b (bs ++ l) wr ∧ Below B w wr) (fun _ i _ => 1 - (intOf i).toNat)
  case atStart => exact ⟨0, [], Nat.zero_le _, rfl, rfl, by rw [List.append_nil]; exact HH.out, Below.refl B w⟩
  case round =>
    obtain ⟨j, l, hj, rfl, hfl, hhl, hbw⟩ := hrel
    have HFL := Lib.hid hfl
    have HHL := Lib.hid hhl
    clear hfl hhl
    by_cases hlt : j < 1
    · have hjL : j < L.length := by rw [HNL.out]; exact hlt
      have HC := Lib.hid (HKG.out j hjL (bs ++ l) wr hbw HHL.out (by have := flatL_bd hjL HFL.out; have := HBD.out; rw [List.length_append]; omega))
      cases hf : (L[j]).flat with
      | none =>
        have HD : Hid (D.flat = Option.none) := Lib.hid (by rw [HDF.out]; exact flatL_stop hjL hf)
        have HFN := Lib.hid hf
        clear hf
        go_wp2_with fail
        refine HC.out.mono ?_
        intro e w1 hw1
        rw [flatOut_none HFN.out] at hw1
        obtain ⟨rfl, hb1⟩ := hw1
        have HB1 := Lib.hid (hbw.trans hb1)
        clear hb1
        go_wp2_with fail
        go_ret
        rw [flatOut_none HD.out]
        exact ⟨rfl, HB1.out⟩
      | some v =>
        have HM := Lib.hid (flatL_more hjL HFL.out hf)
        have HFN := Lib.hid hf
        clear hf
        go_wp2_with fail
        refine HC.out.mono ?_
        intro e w1 hw1
        rw [flatOut_some HFN.out] at hw1
        obtain ⟨rfl, hh1, hb1⟩ := hw1
        have HB1 := Lib.hid (hbw.trans hb1)
        have HH1 := Lib.hid hh1
        clear hb1 hh1
        go_wp2_with fail
        go_roundw
        case rel => exact ⟨j + 1, l ++ v, by omega, by go_num, HM.out, by rw [← List.append_assoc]; exact HH1.out, HB1.out⟩
        case measure => simp [intOf]; omega
    · have HD : Hid (D.flat = some l) := Lib.hid (by rw [HDF.out]; have := HFL.out; rw [List.take_of_length_le (by rw [HNL.out]; omega)] at this; exact this)
      go_wp2_with fail
      go_ret
      rw [flatOut_some HD.out]
      exact ⟨rfl, HHL.out, hbw⟩
end

section
open Go.RowKit
set_option maxRecDepth 100000
set_option linter.unusedVariables false
set_option linter.unusedSimpArgs false

set_option maxHeartbeats 4000000 in
theorem flatly_2 (t : ByteArray) (ks : List Doc) (brk : Bool) (i y : Int) (a : Option Addr) (cap g off B b : Nat) (bs : List UInt8) (w : World) (h0 : w.cell? ⟨g, off, none⟩ = some (.int .i64 2)) (h1 : w.cell? ⟨g, off + 1, none⟩ = some (.string t)) (h2 : w.cell? ⟨g, off + 2, none⟩ = some (.slice a ks.length cap)) (h3 : w.cell? ⟨g, off + 3, none⟩ = some (.bool brk))
    (hcap : ks.length ≤ cap) (hB : B ≤ w.heap.size) (hh : Held B b bs w) (hbd : bs.length + (Doc.mk 2 t ks brk i y).bulk ≤ 1099511627776) (hsh : (Doc.mk 2 t ks brk i y).shape = true)
    (hkids : 0 < ks.length → ∃ g' off', a = some ⟨g', off', none⟩ ∧ KidsGo B b w ks g' off') :
    Calls Tryd.prog 39 #[.pointer (some ⟨g, off, none⟩), .func (.func 40) #[] #[.pointer (some ⟨b, 0, none⟩)]] w (FlatOut (.mk 2 t ks brk i y) B b bs w) := by
  clear hsh
  obtain ⟨D, hD⟩ : ∃ D, D = Doc.mk 2 t ks brk i y := ⟨_, rfl⟩
  obtain ⟨L, hL⟩ : ∃ L, L = ks := ⟨_, rfl⟩
  obtain ⟨n, hn⟩ : ∃ n, n = L.length := ⟨_, rfl⟩
  have HNL : Hid (L.length = n) := Lib.hid hn.symm
  have HDF : Hid (D.flat = flatL L) := Lib.hid (by rw [hD, hL, Doc.flat_eq]; simp only [Doc.kind, Doc.kids, Doc.brk]; rfl)
  have HBD : Hid (bs.length + bulkL L ≤ 1099511627776) := Lib.hid (by rw [Doc.bulk_eq] at hbd; simp only [Doc.kids, Doc.text] at hbd; have := bulkL_take ks 1; have := bulkL_drop ks 1; rw [hL]; omega)
  have HH := Lib.hid hh
  have hnb : n ≤ 1099511627776 := by have h1 := nodesL_len ks; have h2 := (Doc.mk 2 t ks brk i y).nodes_bulk; rw [Doc.nodes_eq] at h2; simp only [Doc.kids] at h2; have h3 : L.length ≤ ks.length := (by rw [hL]; first | exact Nat.le_refl _ | (simp; done) | (simp; omega)); omega
  rw [← hD]
  have hks : ks.length = n := by rw [hn, hL]
  rw [hks] at h2 hcap
  by_cases h0n : n = 0
  · have HKG : Hid (∀ (j : Nat) (hj : j < L.length) (bs : List UInt8) (W : World), Below B w W → Held B b bs W → bs.length + (L[j]).bulk ≤ 1099511627776 → Calls Tryd.prog 39 #[.pointer none, .func (.func 40) #[] #[.pointer (some ⟨b, 0, none⟩)]] W (FlatOut L[j] B b bs W)) := Lib.hid (fun j hj => by omega)
    have HD : Hid (D.flat = some []) := Lib.hid (by rw [HDF.out]; have : L = [] := List.eq_nil_of_length_eq_zero (by omega); rw [this]; rfl)
    have HKN := Lib.hid hks
    have HHN := Lib.hid hn
    have HHL := Lib.hid hL
    have HHD := Lib.hid hD
    clear hks hn hL hD hh hkids hbd
    subst h0n
    go_enter Tryd.func39, Tryd.ntmps39
    go_wp2_with fail
    go_loopw [6, 50] (fun _ i wr => i = .int .i64 0 ∧ wr = w) (fun _ i _ => 0)
    case atStart => exact ⟨rfl, rfl⟩
    case round =>
      obtain ⟨rfl, rfl⟩ := hrel
      go_wp2_with fail
      go_ret
      rw [flatOut_some HD.out, List.append_nil]
      exact ⟨rfl, HH.out, Below.refl B _⟩
  · obtain ⟨g', off', rfl, hkg⟩ := hkids (by omega)
    have HKG : Hid (KidsGo B b w L g' off') := Lib.hid (by rw [hL]; exact hkg)
    have HKN := Lib.hid hks
    have HHN := Lib.hid hn
    have HHL := Lib.hid hL
    have HHD := Lib.hid hD
    clear hks hn hL hD hh hkids hkg hbd
    go_enter Tryd.func39, Tryd.ntmps39
    go_wp2_with fail
    go_loopw [6, 50] (fun _ i wr => ∃ (j : Nat) (l : List UInt8), j ≤ n ∧ i = .int .i64 (j : Int) ∧ flatL (L.take j) = some l ∧ Held B b (bs ++ l) wr ∧ Below B w wr) (fun _ i _ => n - (intOf i).toNat)
    case atStart => exact ⟨0, [], Nat.zero_le _, rfl, rfl, by rw [List.append_nil]; exact HH.out, Below.refl B w⟩
    case round =>
      obtain ⟨j, l, hj, rfl, hfl, hhl, hbw⟩ := hrel
      have HFL := Lib.hid hfl
      have HHL := Lib.hid hhl
      clear hfl hhl
      by_cases hlt : j < n
      · have hjL : j < L.length := by rw [HNL.out]; exact hlt
        have HC := Lib.hid (HKG.out j hjL (bs ++ l) wr hbw HHL.out (by have := flatL_bd hjL HFL.out; have := HBD.out; rw [List.length_append]; omega))
        cases hf : (L[j]).flat with
        | none =>
          have HD : Hid (D.flat = Option.none) := Lib.hid (by rw [HDF.out]; exact flatL_stop hjL hf)
          have HFN := Lib.hid hf
          clear hf
          go_wp2_with fail
          refine HC.out.mono ?_
          intro e w1 hw1
          rw [flatOut_none HFN.out] at hw1
          obtain ⟨rfl, hb1⟩ := hw1
          have HB1 := Lib.hid (hbw.trans hb1)
          clear hb1
          go_wp2_with fail
          go_ret
          rw [flatOut_none HD.out]
          exact ⟨rfl, HB1.out⟩
        | some v =>
          have HM := Lib.hid (flatL_more hjL HFL.out hf)
          have HFN := Lib.hid hf
          clear hf
          go_wp2_with fail
          refine HC.out.mono ?_
          intro e w1 hw1
          rw [flatOut_some HFN.out] at hw1
          obtain ⟨rfl, hh1, hb1⟩ := hw1
          have HB1 := Lib.hid (hbw.trans hb1)
          have HH1 := Lib.hid hh1
          clear hb1 hh1
          go_wp2_with fail
          go_roundw
          case rel => exact ⟨j + 1, l ++ v, by omega, by go_num, HM.out, by rw [← List.append_assoc]; exact HH1.out, HB1.out⟩
          case measure => simp [intOf]; omega
      · have HD : Hid (D.flat = some l) := Lib.hid (by rw [HDF.out]; have := HFL.out; rw [List.take_of_length_le (by rw [HNL.out]; omega)] at this; exact this)
        go_wp2_with fail
        go_ret
        rw [flatOut_some HD.out]
        exact ⟨rfl, HHL.out, hbw⟩

set_option maxHeartbeats 4000000 in
theorem flatly_9 (t : ByteArray) (ks : List Doc) (brk : Bool) (i y : Int) (a : Option Addr) (cap g off B b : Nat) (bs : List UInt8) (w : World) (h0 : w.cell? ⟨g, off, none⟩ = some (.int .i64 9)) (h1 : w.cell? ⟨g, off + 1, none⟩ = some (.string t)) (h2 : w.cell? ⟨g, off + 2, none⟩ = some (.slice a ks.length cap)) (h3 : w.cell? ⟨g, off + 3, none⟩ = some (.bool brk))
    (hcap : ks.length ≤ cap) (hB : B ≤ w.heap.size) (hh : Held B b bs w) (hbd : bs.length + (Doc.mk 9 t ks brk i y).bulk ≤ 1099511627776) (hsh : (Doc.mk 9 t ks brk i y).shape = true)
    (hkids : 0 < ks.length → ∃ g' off', a = some ⟨g', off', none⟩ ∧ KidsGo B b w ks g' off') :
    Calls Tryd.prog 39 #[.pointer (some ⟨g, off, none⟩), .func (.func 40) #[] #[.pointer (some ⟨b, 0, none⟩)]] w (FlatOut (.mk 9 t ks brk i y) B b bs w) := by
  clear hsh
  obtain ⟨D, hD⟩ : ∃ D, D = Doc.mk 9 t ks brk i y := ⟨_, rfl⟩
  obtain ⟨L, hL⟩ : ∃ L, L = ks := ⟨_, rfl⟩
  obtain ⟨n, hn⟩ : ∃ n, n = L.length := ⟨_, rfl⟩
  have HNL : Hid (L.length = n) := Lib.hid hn.symm
  have HDF : Hid (D.flat = flatL L) := Lib.hid (by rw [hD, hL, Doc.flat_eq]; simp only [Doc.kind, Doc.kids, Doc.brk]; rfl)
  have HBD : Hid (bs.length + bulkL L ≤ 1099511627776) := Lib.hid (by rw [Doc.bulk_eq] at hbd; simp only [Doc.kids, Doc.text] at hbd; have := bulkL_take ks 1; have := bulkL_drop ks 1; rw [hL]; omega)
  have HH := Lib.hid hh
  have hnb : n ≤ 1099511627776 := by have h1 := nodesL_len ks; have h2 := (Doc.mk 9 t ks brk i y).nodes_bulk; rw [Doc.nodes_eq] at h2; simp only [Doc.kids] at h2; have h3 : L.length ≤ ks.length := (by rw [hL]; first | exact Nat.le_refl _ | (simp; done) | (simp; omega)); omega
  rw [← hD]
  have hks : ks.length = n := by rw [hn, hL]
  rw [hks] at h2 hcap
  by_cases h0n : n = 0
  · have HKG : Hid (∀ (j : Nat) (hj : j < L.length) (bs : List UInt8) (W : World), Below B w W → Held B b bs W → bs.length + (L[j]).bulk ≤ 1099511627776 → Calls Tryd.prog 39 #[.pointer none, .func (.func 40) #[] #[.pointer (some ⟨b, 0, none⟩)]] W (FlatOut L[j] B b bs W)) := Lib.hid (fun j hj => by omega)
    have HD : Hid (D.flat = some []) := Lib.hid (by rw [HDF.out]; have : L = [] := List.eq_nil_of_length_eq_zero (by omega); rw [this]; rfl)
    have HKN := Lib.hid hks
    have HHN := Lib.hid hn
    have HHL := Lib.hid hL
    have HHD := Lib.hid hD
    clear hks hn hL hD hh hkids hbd
    subst h0n
    go_enter Tryd.func39, Tryd.ntmps39
    go_wp2_with fail
    go_loopw [6, 50] (fun _ i wr => i = .int .i64 0 ∧ wr = w) (fun _ i _ => 0)
    case atStart => exact ⟨rfl, rfl⟩
    case round =>
      obtain ⟨rfl, rfl⟩ := hrel
      go_wp2_with fail
      go_ret
      rw [flatOut_some HD.out, List.append_nil]
      exact ⟨rfl, HH.out, Below.refl B _⟩
  · obtain ⟨g', off', rfl, hkg⟩ := hkids (by omega)
    have HKG : Hid (KidsGo B b w L g' off') := Lib.hid (by rw [hL]; exact hkg)
    have HKN := Lib.hid hks
    have HHN := Lib.hid hn
    have HHL := Lib.hid hL
    have HHD := Lib.hid hD
    clear hks hn hL hD hh hkids hkg hbd
    go_enter Tryd.func39, Tryd.ntmps39
    go_wp2_with fail
    go_loopw [6, 50] (fun _ i wr => ∃ (j : Nat) (l : List UInt8), j ≤ n ∧ i = .int .i64 (j : Int) ∧ flatL (L.take j) = some l ∧ Held B b (bs ++ l) wr ∧ Below B w wr) (fun _ i _ => n - (intOf i).toNat)
    case atStart => exact ⟨0, [], Nat.zero_le _, rfl, rfl, by rw [List.append_nil]; exact HH.out, Below.refl B w⟩
    case round =>
      obtain ⟨j, l, hj, rfl, hfl, hhl, hbw⟩ := hrel
      have HFL := Lib.hid hfl
      have HHL := Lib.hid hhl
      clear hfl hhl
      by_cases hlt : j < n
      · have hjL : j < L.length := by rw [HNL.out]; exact hlt
        have HC := Lib.hid (HKG.out j hjL (bs ++ l) wr hbw HHL.out (by have := flatL_bd hjL HFL.out; have := HBD.out; rw [List.length_append]; omega))
        cases hf : (L[j]).flat with
        | none =>
          have HD : Hid (D.flat = Option.none) := Lib.hid (by rw [HDF.out]; exact flatL_stop hjL hf)
          have HFN := Lib.hid hf
          clear hf
          go_wp2_with fail
          refine HC.out.mono ?_
          intro e w1 hw1
          rw [flatOut_none HFN.out] at hw1
          obtain ⟨rfl, hb1⟩ := hw1
          have HB1 := Lib.hid (hbw.trans hb1)
          clear hb1
          go_wp2_with fail
          go_ret
          rw [flatOut_none HD.out]
          exact ⟨rfl, HB1.out⟩
        | some v =>
          have HM := Lib.hid (flatL_more hjL HFL.out hf)
          have HFN := Lib.hid hf
          clear hf
          go_wp2_with fail
          refine HC.out.mono ?_
          intro e w1 hw1
          rw [flatOut_some HFN.out] at hw1
          obtain ⟨rfl, hh1, hb1⟩ := hw1
          have HB1 := Lib.hid (hbw.trans hb1)
          have HH1 := Lib.hid hh1
          clear hb1 hh1
          go_wp2_with fail
          go_roundw
          case rel => exact ⟨j + 1, l ++ v, by omega, by go_num, HM.out, by rw [← List.append_assoc]; exact HH1.out, HB1.out⟩
          case measure => simp [intOf]; omega
      · have HD : Hid (D.flat = some l) := Lib.hid (by rw [HDF.out]; have := HFL.out; rw [List.take_of_length_le (by rw [HNL.out]; omega)] at this; exact this)
        go_wp2_with fail
        go_ret
        rw [flatOut_some HD.out]
        exact ⟨rfl, HHL.out, hbw⟩

set_option maxHeartbeats 4000000 in
theorem flatly_11 (t : ByteArray) (ks : List Doc) (brk : Bool) (i y : Int) (a : Option Addr) (cap g off B b : Nat) (bs : List UInt8) (w : World) (h0 : w.cell? ⟨g, off, none⟩ = some (.int .i64 11)) (h1 : w.cell? ⟨g, off + 1, none⟩ = some (.string t)) (h2 : w.cell? ⟨g, off + 2, none⟩ = some (.slice a ks.length cap)) (h3 : w.cell? ⟨g, off + 3, none⟩ = some (.bool brk))
    (hcap : ks.length ≤ cap) (hB : B ≤ w.heap.size) (hh : Held B b bs w) (hbd : bs.length + (Doc.mk 11 t ks brk i y).bulk ≤ 1099511627776) (hsh : (Doc.mk 11 t ks brk i y).shape = true)
    (hkids : 0 < ks.length → ∃ g' off', a = some ⟨g', off', none⟩ ∧ KidsGo B b w ks g' off') :
    Calls Tryd.prog 39 #[.pointer (some ⟨g, off, none⟩), .func (.func 40) #[] #[.pointer (some ⟨b, 0, none⟩)]] w (FlatOut (.mk 11 t ks brk i y) B b bs w) := by
  clear hsh
  obtain ⟨D, hD⟩ : ∃ D, D = Doc.mk 11 t ks brk i y := ⟨_, rfl⟩
  obtain ⟨L, hL⟩ : ∃ L, L = ks := ⟨_, rfl⟩
  obtain ⟨n, hn⟩ : ∃ n, n = L.length := ⟨_, rfl⟩
  have HNL : Hid (L.length = n) := Lib.hid hn.symm
  have HDF : Hid (D.flat = flatL L) := Lib.hid (by rw [hD, hL, Doc.flat_eq]; simp only [Doc.kind, Doc.kids, Doc.brk]; rfl)
  have HBD : Hid (bs.length + bulkL L ≤ 1099511627776) := Lib.hid (by rw [Doc.bulk_eq] at hbd; simp only [Doc.kids, Doc.text] at hbd; have := bulkL_take ks 1; have := bulkL_drop ks 1; rw [hL]; omega)
  have HH := Lib.hid hh
  have hnb : n ≤ 1099511627776 := by have h1 := nodesL_len ks; have h2 := (Doc.mk 11 t ks brk i y).nodes_bulk; rw [Doc.nodes_eq] at h2; simp only [Doc.kids] at h2; have h3 : L.length ≤ ks.length := (by rw [hL]; first | exact Nat.le_refl _ | (simp; done) | (simp; omega)); omega
  rw [← hD]
  have hks : ks.length = n := by rw [hn, hL]
  rw [hks] at h2 hcap
  by_cases h0n : n = 0
  · have HKG : Hid (∀ (j : Nat) (hj : j < L.length) (bs : List UInt8) (W : World), Below B w W → Held B b bs W → bs.length + (L[j]).bulk ≤ 1099511627776 → Calls Tryd.prog 39 #[.pointer none, .func (.func 40) #[] #[.pointer (some ⟨b, 0, none⟩)]] W (FlatOut L[j] B b bs W)) := Lib.hid (fun j hj => by omega)
    have HD : Hid (D.flat = some []) := Lib.hid (by rw [HDF.out]; have : L = [] := List.eq_nil_of_length_eq_zero (by omega); rw [this]; rfl)
    have HKN := Lib.hid hks
    have HHN := Lib.hid hn
    have HHL := Lib.hid hL
    have HHD := Lib.hid hD
    clear hks hn hL hD hh hkids hbd
    subst h0n
    go_enter Tryd.func39, Tryd.ntmps39
    go_wp2_with fail
    go_loopw [6, 50] (fun _ i wr => i = .int .i64 0 ∧ wr = w) (fun _ i _ => 0)
    case atStart => exact ⟨rfl, rfl⟩
    case round =>
      obtain ⟨rfl, rfl⟩ := hrel
      go_wp2_with fail
      go_ret
      rw [flatOut_some HD.out, List.append_nil]
      exact ⟨rfl, HH.out, Below.refl B _⟩
  · obtain ⟨g', off', rfl, hkg⟩ := hkids (by omega)
    have HKG : Hid (KidsGo B b w L g' off') := Lib.hid (by rw [hL]; exact hkg)
    have HKN := Lib.hid hks
    have HHN := Lib.hid hn
    have HHL := Lib.hid hL
    have HHD := Lib.hid hD
    clear hks hn hL hD hh hkids hkg hbd
    go_enter Tryd.func39, Tryd.ntmps39
    go_wp2_with fail
    go_loopw [6, 50] (fun _ i wr => ∃ (j : Nat) (l : List UInt8), j ≤ n ∧ i = .int .i64 (j : Int) ∧ flatL (L.take j) = some l ∧ Held B b (bs ++ l) wr ∧ Below B w wr) (fun _ i _ => n - (intOf i).toNat)
    case atStart => exact ⟨0, [], Nat.zero_le _, rfl, rfl, by rw [List.append_nil]; exact HH.out, Below.refl B w⟩
    case round =>
      obtain ⟨j, l, hj, rfl, hfl, hhl, hbw⟩ := hrel
      have HFL := Lib.hid hfl
      have HHL := Lib.hid hhl
      clear hfl hhl
      by_cases hlt : j < n
      · have hjL : j < L.length := by rw [HNL.out]; exact hlt
        have HC := Lib.hid (HKG.out j hjL (bs ++ l) wr hbw HHL.out (by have := flatL_bd hjL HFL.out; have := HBD.out; rw [List.length_append]; omega))
        cases hf : (L[j]).flat with
        | none =>
          have HD : Hid (D.flat = Option.none) := Lib.hid (by rw [HDF.out]; exact flatL_stop hjL hf)
          have HFN := Lib.hid hf
          clear hf
          go_wp2_with fail
          refine HC.out.mono ?_
          intro e w1 hw1
          rw [flatOut_none HFN.out] at hw1
          obtain ⟨rfl, hb1⟩ := hw1
          have HB1 := Lib.hid (hbw.trans hb1)
          clear hb1
          go_wp2_with fail
          go_ret
          rw [flatOut_none HD.out]
          exact ⟨rfl, HB1.out⟩
        | some v =>
          have HM := Lib.hid (flatL_more hjL HFL.out hf)
          have HFN := Lib.hid hf
          clear hf
          go_wp2_with fail
          refine HC.out.mono ?_
          intro e w1 hw1
          rw [flatOut_some HFN.out] at hw1
          obtain ⟨rfl, hh1, hb1⟩ := hw1
          have HB1 := Lib.hid (hbw.trans hb1)
          have HH1 := Lib.hid hh1
          clear hb1 hh1
          go_wp2_with fail
          go_roundw
          case rel => exact ⟨j + 1, l ++ v, by omega, by go_num, HM.out, by rw [← List.append_assoc]; exact HH1.out, HB1.out⟩
          case measure => simp [intOf]; omega
      · have HD : Hid (D.flat = some l) := Lib.hid (by rw [HDF.out]; have := HFL.out; rw [List.take_of_length_le (by rw [HNL.out]; omega)] at this; exact this)
        go_wp2_with fail
        go_ret
        rw [flatOut_some HD.out]
        exact ⟨rfl, HHL.out, hbw⟩

set_option maxHeartbeats 4000000 in
theorem flatly_12 (t : ByteArray) (ks : List Doc) (brk : Bool) (i y : Int) (a : Option Addr) (cap g off B b : Nat) (bs : List UInt8) (w : World) (h0 : w.cell? ⟨g, off, none⟩ = some (.int .i64 12)) (h1 : w.cell? ⟨g, off + 1, none⟩ = some (.string t)) (h2 : w.cell? ⟨g, off + 2, none⟩ = some (.slice a ks.length cap)) (h3 : w.cell? ⟨g, off + 3, none⟩ = some (.bool brk))
    (hcap : ks.length ≤ cap) (hB : B ≤ w.heap.size) (hh : Held B b bs w) (hbd : bs.length + (Doc.mk 12 t ks brk i y).bulk ≤ 1099511627776) (hsh : (Doc.mk 12 t ks brk i y).shape = true)
    (hkids : 0 < ks.length → ∃ g' off', a = some ⟨g', off', none⟩ ∧ KidsGo B b w ks g' off') :
    Calls Tryd.prog 39 #[.pointer (some ⟨g, off, none⟩), .func (.func 40) #[] #[.pointer (some ⟨b, 0, none⟩)]] w (FlatOut (.mk 12 t ks brk i y) B b bs w) := by
  clear hsh
  obtain ⟨D, hD⟩ : ∃ D, D = Doc.mk 12 t ks brk i y := ⟨_, rfl⟩
  obtain ⟨L, hL⟩ : ∃ L, L = ks := ⟨_, rfl⟩
  obtain ⟨n, hn⟩ : ∃ n, n = L.length := ⟨_, rfl⟩
  have HNL : Hid (L.length = n) := Lib.hid hn.symm
  have HDF : Hid (D.flat = flatL L) := Lib.hid (by rw [hD, hL, Doc.flat_eq]; simp only [Doc.kind, Doc.kids, Doc.brk]; rfl)
  have HBD : Hid (bs.length + bulkL L ≤ 1099511627776) := Lib.hid (by rw [Doc.bulk_eq] at hbd; simp only [Doc.kids, Doc.text] at hbd; have := bulkL_take ks 1; have := bulkL_drop ks 1; rw [hL]; omega)
  have HH := Lib.hid hh
  have hnb : n ≤ 1099511627776 := by have h1 := nodesL_len ks; have h2 := (Doc.mk 12 t ks brk i y).nodes_bulk; rw [Doc.nodes_eq] at h2; simp only [Doc.kids] at h2; have h3 : L.length ≤ ks.length := (by rw [hL]; first | exact Nat.le_refl _ | (simp; done) | (simp; omega)); omega
  rw [← hD]
  have hks : ks.length = n := by rw [hn, hL]
  rw [hks] at h2 hcap
  by_cases h0n : n = 0
  · have HKG : Hid (∀ (j : Nat) (hj : j < L.length) (bs : List UInt8) (W : World), Below B w W → Held B b bs W → bs.length + (L[j]).bulk ≤ 1099511627776 → Calls Tryd.prog 39 #[.pointer none, .func (.func 40) #[] #[.pointer (some ⟨b, 0, none⟩)]] W (FlatOut L[j] B b bs W)) := Lib.hid (fun j hj => by omega)
    have HD : Hid (D.flat = some []) := Lib.hid (by rw [HDF.out]; have : L = [] := List.eq_nil_of_length_eq_zero (by omega); rw [this]; rfl)
    have HKN := Lib.hid hks
    have HHN := Lib.hid hn
    have HHL := Lib.hid hL
    have HHD := Lib.hid hD
    clear hks hn hL hD hh hkids hbd
    subst h0n
    go_enter Tryd.func39, Tryd.ntmps39
    go_wp2_with fail
    go_loopw [6, 50] (fun _ i wr => i = .int .i64 0 ∧ wr = w) (fun _ i _ => 0)
    case atStart => exact ⟨rfl, rfl⟩
    case round =>
      obtain ⟨rfl, rfl⟩ := hrel
      go_wp2_with fail
      go_ret
      rw [flatOut_some HD.out, List.append_nil]
      exact ⟨rfl, HH.out, Below.refl B _⟩
  · obtain ⟨g', off', rfl, hkg⟩ := hkids (by omega)
    have HKG : Hid (KidsGo B b w L g' off') := Lib.hid (by rw [hL]; exact hkg)
    have HKN := Lib.hid hks
    have HHN := Lib.hid hn
    have HHL := Lib.hid hL
    have HHD := Lib.hid hD
    clear hks hn hL hD hh hkids hkg hbd
    go_enter Tryd.func39, Tryd.ntmps39
    go_wp2_with fail
    go_loopw [6, 50] (fun _ i wr => ∃ (j : Nat) (l : List UInt8), j ≤ n ∧ i = .int .i64 (j : Int) ∧ flatL (L.take j) = some l ∧ Held B b (bs ++ l) wr ∧ Below B w wr) (fun _ i _ => n - (intOf i).toNat)
    case atStart => exact ⟨0, [], Nat.zero_le _, rfl, rfl, by rw [List.append_nil]; exact HH.out, Below.refl B w⟩
    case round =>
      obtain ⟨j, l, hj, rfl, hfl, hhl, hbw⟩ := hrel
      have HFL := Lib.hid hfl
      have HHL := Lib.hid hhl
      clear hfl hhl
      by_cases hlt : j < n
      · have hjL : j < L.length := by rw [HNL.out]; exact hlt
        have HC := Lib.hid (HKG.out j hjL (bs ++ l) wr hbw HHL.out (by have := flatL_bd hjL HFL.out; have := HBD.out; rw [List.length_append]; omega))
        cases hf : (L[j]).flat with
        | none =>
          have HD : Hid (D.flat = Option.none) := Lib.hid (by rw [HDF.out]; exact flatL_stop hjL hf)
          have HFN := Lib.hid hf
          clear hf
          go_wp2_with fail
          refine HC.out.mono ?_
          intro e w1 hw1
          rw [flatOut_none HFN.out] at hw1
          obtain ⟨rfl, hb1⟩ := hw1
          have HB1 := Lib.hid (hbw.trans hb1)
          clear hb1
          go_wp2_with fail
          go_ret
          rw [flatOut_none HD.out]
          exact ⟨rfl, HB1.out⟩
        | some v =>
          have HM := Lib.hid (flatL_more hjL HFL.out hf)
          have HFN := Lib.hid hf
          clear hf
          go_wp2_with fail
          refine HC.out.mono ?_
          intro e w1 hw1
          rw [flatOut_some HFN.out] at hw1
          obtain ⟨rfl, hh1, hb1⟩ := hw1
          have HB1 := Lib.hid (hbw.trans hb1)
          have HH1 := Lib.hid hh1
          clear hb1 hh1
          go_wp2_with fail
          go_roundw
          case rel => exact ⟨j + 1, l ++ v, by omega, by go_num, HM.out, by rw [← List.append_assoc]; exact HH1.out, HB1.out⟩
          case measure => simp [intOf]; omega
      · have HD : Hid (D.flat = some l) := Lib.hid (by rw [HDF.out]; have := HFL.out; rw [List.take_of_length_le (by rw [HNL.out]; omega)] at this; exact this)
        go_wp2_with fail
        go_ret
        rw [flatOut_some HD.out]
        exact ⟨rfl, HHL.out, hbw⟩

set_option maxHeartbeats 4000000 in
theorem flatly_13 (t : ByteArray) (ks : List Doc) (brk : Bool) (i y : Int) (a : Option Addr) (cap g off B b : Nat) (bs : List UInt8) (w : World) (h0 : w.cell? ⟨g, off, none⟩ = some (.int .i64 13)) (h1 : w.cell? ⟨g, off + 1, none⟩ = some (.string t)) (h2 : w.cell? ⟨g, off + 2, none⟩ = some (.slice a ks.length cap)) (h3 : w.cell? ⟨g, off + 3, none⟩ = some (.bool brk))
    (hcap : ks.length ≤ cap) (hB : B ≤ w.heap.size) (hh : Held B b bs w) (hbd : bs.length + (Doc.mk 13 t ks brk i y).bulk ≤ 1099511627776) (hsh : (Doc.mk 13 t ks brk i y).shape = true)
    (hkids : 0 < ks.length → ∃ g' off', a = some ⟨g', off', none⟩ ∧ KidsGo B b w ks g' off') :
    Calls Tryd.prog 39 #[.pointer (some ⟨g, off, none⟩), .func (.func 40) #[] #[.pointer (some ⟨b, 0, none⟩)]] w (FlatOut (.mk 13 t ks brk i y) B b bs w) := by
  clear hsh
  obtain ⟨D, hD⟩ : ∃ D, D = Doc.mk 13 t ks brk i y := ⟨_, rfl⟩
  obtain ⟨L, hL⟩ : ∃ L, L = ks := ⟨_, rfl⟩
  obtain ⟨n, hn⟩ : ∃ n, n = L.length := ⟨_, rfl⟩
  have HNL : Hid (L.length = n) := Lib.hid hn.symm
  have HDF : Hid (D.flat = flatL L) := Lib.hid (by rw [hD, hL, Doc.flat_eq]; simp only [Doc.kind, Doc.kids, Doc.brk]; rfl)
  have HBD : Hid (bs.length + bulkL L ≤ 1099511627776) := Lib.hid (by rw [Doc.bulk_eq] at hbd; simp only [Doc.kids, Doc.text] at hbd; have := bulkL_take ks 1; have := bulkL_drop ks 1; rw [hL]; omega)
  have HH := Lib.hid hh
  have hnb : n ≤ 1099511627776 := by have h1 := nodesL_len ks; have h2 := (Doc.mk 13 t ks brk i y).nodes_bulk; rw [Doc.nodes_eq] at h2; simp only [Doc.kids] at h2; have h3 : L.length ≤ ks.length := (by rw [hL]; first | exact Nat.le_refl _ | (simp; done) | (simp; omega)); omega
  rw [← hD]
  have hks : ks.length = n := by rw [hn, hL]
  rw [hks] at h2 hcap
  by_cases h0n : n = 0
  · have HKG : Hid (∀ (j : Nat) (hj : j < L.length) (bs : List UInt8) (W : World), Below B w W → Held B b bs W → bs.length + (L[j]).bulk ≤ 1099511627776 → Calls Tryd.prog 39 #[.pointer none, .func (.func 40) #[] #[.pointer (some ⟨b, 0, none⟩)]] W (FlatOut L[j] B b bs W)) := Lib.hid (fun j hj => by omega)
    have HD : Hid (D.flat = some []) := Lib.hid (by rw [HDF.out]; have : L = [] := List.eq_nil_of_length_eq_zero (by omega); rw [this]; rfl)
    have HKN := Lib.hid hks
    have HHN := Lib.hid hn
    have HHL := Lib.hid hL
    have HHD := Lib.hid hD
    clear hks hn hL hD hh hkids hbd
    subst h0n
    go_enter Tryd.func39, Tryd.ntmps39
    go_wp2_with fail
    go_loopw [6, 50] (fun _ i wr => i = .int .i64 0 ∧ wr = w) (fun _ i _ => 0)
    case atStart => exact ⟨rfl, rfl⟩
    case round =>
      obtain ⟨rfl, rfl⟩ := hrel
      go_wp2_with fail
      go_ret
      rw [flatOut_some HD.out, List.append_nil]
      exact ⟨rfl, HH.out, Below.refl B _⟩
  · obtain ⟨g', off', rfl, hkg⟩ := hkids (by omega)
    have HKG : Hid (KidsGo B b w L g' off') := Lib.hid (by rw [hL]; exact hkg)
    have HKN := Lib.hid hks
    have HHN := Lib.hid hn
    have HHL := Lib.hid hL
    have HHD := Lib.hid hD
    clear hks hn hL hD hh hkids hkg hbd
    go_enter Tryd.func39, Tryd.ntmps39
    go_wp2_with fail
    go_loopw [6, 50] (fun _ i wr => ∃ (j : Nat) (l : List UInt8), j ≤ n ∧ i = .int .i64 (j : Int) ∧ flatL (L.take j) = some l ∧ Held B b (bs ++ l) wr ∧ Below B w wr) (fun _ i _ => n - (intOf i).toNat)
    case atStart => exact ⟨0, [], Nat.zero_le _, rfl, rfl, by rw [List.append_nil]; exact HH.out, Below.refl B w⟩
    case round =>
      obtain ⟨j, l, hj, rfl, hfl, hhl, hbw⟩ := hrel
      have HFL := Lib.hid hfl
      have HHL := Lib.hid hhl
      clear hfl hhl
      by_cases hlt : j < n
      · have hjL : j < L.length := by rw [HNL.out]; exact hlt
        have HC := Lib.hid (HKG.out j hjL (bs ++ l) wr hbw HHL.out (by have := flatL_bd hjL HFL.out; have := HBD.out; rw [List.length_append]; omega))
        cases hf : (L[j]).flat with
        | none =>
          have HD : Hid (D.flat = Option.none) := Lib.hid (by rw [HDF.out]; exact flatL_stop hjL hf)
          have HFN := Lib.hid hf
          clear hf
          go_wp2_with fail
          refine HC.out.mono ?_
          intro e w1 hw1
          rw [flatOut_none HFN.out] at hw1
          obtain ⟨rfl, hb1⟩ := hw1
          have HB1 := Lib.hid (hbw.trans hb1)
          clear hb1
          go_wp2_with fail
          go_ret
          rw [flatOut_none HD.out]
          exact ⟨rfl, HB1.out⟩
        | some v =>
          have HM := Lib.hid (flatL_more hjL HFL.out hf)
          have HFN := Lib.hid hf
          clear hf
          go_wp2_with fail
          refine HC.out.mono ?_
          intro e w1 hw1
          rw [flatOut_some HFN.out] at hw1
          obtain ⟨rfl, hh1, hb1⟩ := hw1
          have HB1 := Lib.hid (hbw.trans hb1)
          have HH1 := Lib.hid hh1
          clear hb1 hh1
          go_wp2_with fail
          go_roundw
          case rel => exact ⟨j + 1, l ++ v, by omega, by go_num, HM.out, by rw [← List.append_assoc]; exact HH1.out, HB1.out⟩
          case measure => simp [intOf]; omega
      · have HD : Hid (D.flat = some l) := Lib.hid (by rw [HDF.out]; have := HFL.out; rw [List.take_of_length_le (by rw [HNL.out]; omega)] at this; exact this)
        go_wp2_with fail
        go_ret
        rw [flatOut_some HD.out]
        exact ⟨rfl, HHL.out, hbw⟩
end

section

end

section
open Go.RowKit
set_option maxRecDepth 100000
set_option linter.unusedVariables false
set_option linter.unusedSimpArgs false

theorem shapeL_mem {ks : List Doc} (h : shapeL ks = true) : ∀ x ∈ ks, x.shape = true := by
  induction ks with
  | nil => simp
  | cons d ds ih =>
    simp only [shapeL, Bool.and_eq_true] at h
    intro x hx
    rcases List.mem_cons.1 hx with rfl | hx
    · exact h.1
    · exact ih h.2 x hx
theorem flatly_any (d : Doc) : ∀ (kv : Value) (g off B b : Nat) (bs : List UInt8) (w : World), Six w g off d kv → KV w 0 B d kv → B ≤ w.heap.size → Held B b bs w → bs.length + d.bulk ≤ 1099511627776 → d.shape = true →
    Calls Tryd.prog 39 #[.pointer (some ⟨g, off, none⟩), .func (.func 40) #[] #[.pointer (some ⟨b, 0, none⟩)]] w (FlatOut d B b bs w) := by
  refine Doc.ind (P := fun d => ∀ (kv : Value) (g off B b : Nat) (bs : List UInt8) (w : World), Six w g off d kv → KV w 0 B d kv → B ≤ w.heap.size → Held B b bs w → bs.length + d.bulk ≤ 1099511627776 → d.shape = true →
    Calls Tryd.prog 39 #[.pointer (some ⟨g, off, none⟩), .func (.func 40) #[] #[.pointer (some ⟨b, 0, none⟩)]] w (FlatOut d B b bs w)) (fun d ih => ?_) d
  intro kv g off B b bs w h6 hk hB hh hbd hsh
  obtain ⟨a, cap, rfl⟩ := hk.slice
  have hcap := hk.cap
  have hkids : 0 < d.kids.length → ∃ g' off', a = some ⟨g', off', none⟩ ∧ KidsGo B b w d.kids g' off' := by
    intro h0
    obtain ⟨g', off', rfl, _, hg', kv', _, _⟩ := hk.kid h0
    refine ⟨g', off', rfl, fun j hj bs' W hW hh' hb' => ?_⟩
    obtain ⟨g2, off2, e, _, hg2, kv2, h62, hk2⟩ := hk.kid hj
    cases e
    have hs : ∀ c, c < B → W.heap[c]? = w.heap[c]? := fun c hc => hW.block c hc
    have hsj : (d.kids[j]).shape = true := by
      rw [Doc.shape_eq] at hsh
      simp only [Bool.and_eq_true] at hsh
      exact shapeL_mem hsh.2 _ (List.getElem_mem hj)
    exact ih _ (List.getElem_mem hj) kv2 _ _ B b bs' W (h62.of (hs _ hg2)) (hk2.of (Nat.le_refl _) (Nat.le_refl _) (fun c _ hc => hs c hc)) (Nat.le_trans hB hW.size) hh' hb' hsj
  have hf : d.formed = true := by
    rw [Doc.shape_eq] at hsh
    simp only [Bool.and_eq_true] at hsh
    exact hsh.1
  cases d with
  | mk k t ks brk i y =>
    have hk16 : 1 ≤ k ∧ k ≤ 16 := by
      by_cases h : 1 ≤ k ∧ k ≤ 16
      · exact h
      · have hf' : formedF k t ks.length brk i y = true := hf
        rw [formedF_other k h] at hf'
        cases hf'
    have h0 := h6.kind
    have h1 := h6.text
    have h2 := h6.kids
    have h3 := h6.brk
    simp only [Doc.kind, Doc.text, Doc.kids, Doc.brk] at h0 h1 h2 h3 hcap hkids
    clear h6 hk ih hf
    have : k = 1 ∨ k = 2 ∨ k = 3 ∨ k = 4 ∨ k = 5 ∨ k = 6 ∨ k = 7 ∨ k = 8 ∨ k = 9 ∨ k = 10 ∨ k = 11 ∨ k = 12 ∨ k = 13 ∨ k = 14 ∨ k = 15 ∨ k = 16 := by omega
    rcases this with rfl | rfl | rfl | rfl | rfl | rfl | rfl | rfl | rfl | rfl | rfl | rfl | rfl | rfl | rfl | rfl
    · exact flatly_1 t ks brk i y a cap g off B b bs w h0 h1 h2 h3 hcap hB hh hbd hsh hkids
    · exact flatly_2 t ks brk i y a cap g off B b bs w h0 h1 h2 h3 hcap hB hh hbd hsh hkids
    · exact flatly_3 t ks brk i y a cap g off B b bs w h0 h1 h2 h3 hcap hB hh hbd hsh hkids
    · exact flatly_4 t ks brk i y a cap g off B b bs w h0 h1 h2 h3 hcap hB hh hbd hsh hkids
    · exact flatly_5 t ks brk i y a cap g off B b bs w h0 h1 h2 h3 hcap hB hh hbd hsh hkids
    · exact flatly_6 t ks brk i y a cap g off B b bs w h0 h1 h2 h3 hcap hB hh hbd hsh hkids
    · exact flatly_7 t ks brk i y a cap g off B b bs w h0 h1 h2 h3 hcap hB hh hbd hsh hkids
    · exact flatly_8 t ks brk i y a cap g off B b bs w h0 h1 h2 h3 hcap hB hh hbd hsh hkids
    · exact flatly_9 t ks brk i y a cap g off B b bs w h0 h1 h2 h3 hcap hB hh hbd hsh hkids
    · exact flatly_10 t ks brk i y a cap g off B b bs w h0 h1 h2 h3 hcap hB hh hbd hsh hkids
    · exact flatly_11 t ks brk i y a cap g off B b bs w h0 h1 h2 h3 hcap hB hh hbd hsh hkids
    · exact flatly_12 t ks brk i y a cap g off B b bs w h0 h1 h2 h3 hcap hB hh hbd hsh hkids
    · exact flatly_13 t ks brk i y a cap g off B b bs w h0 h1 h2 h3 hcap hB hh hbd hsh hkids
    · exact flatly_14 t ks brk i y a cap g off B b bs w h0 h1 h2 h3 hcap hB hh hbd hsh hkids
    · exact flatly_15 t ks brk i y a cap g off B b bs w h0 h1 h2 h3 hcap hB hh hbd hsh hkids
    · exact flatly_16 t ks brk i y a cap g off B b bs w h0 h1 h2 h3 hcap hB hh hbd hsh hkids

/-- What Flat answers. -/
def Doc.flatV (d : Doc) : Option (List UInt8) := if d.code = 0 then d.flat else Option.none
def Doc.flatS (d : Doc) : ByteArray := match d.flatV with | some l => ⟨l.toArray⟩ | none => ⟨#[]⟩
def Doc.flatOk (d : Doc) : Bool := d.flatV.isSome
theorem code_shape {d : Doc} (h : d.code = 0) : d.shape = true ∧ d.depth ≤ 64000 := by
  unfold Doc.code at h
  split at h
  · cases h
  · split at h
    · exact ⟨by assumption, by omega⟩
    · cases h

set_option maxHeartbeats 1000000 in
theorem flat_any (d : Doc) (kv : Value) (w : World) (hk : KV w 0 w.heap.size d kv) (hb : d.bulk ≤ 4194304) (hT : Tabs w) :
    Calls Tryd.prog 28 #[docV d kv] w fun e w' => e = .returned (.tuple #[.string d.flatS, .bool d.flatOk]) ∧ Below w.heap.size w w' := by
  have hal := (Below.refl w.heap.size w).alloc (Nat.le_refl _) (.cells #[.int .i64 d.kind, .string d.text, kv, .bool d.brk, .int .i64 d.id, .int .i64 d.width] 24)
  have h6 := six_new w d kv
  obtain ⟨W1, hW1⟩ : ∃ W1, W1 = w.alloc (.cells #[.int .i64 d.kind, .string d.text, kv, .bool d.brk, .int .i64 d.id, .int .i64 d.width] 24) := ⟨_, rfl⟩
  rw [← hW1] at hal h6
  have hz1a : W1.heap.size ≤ w.heap.size + 1 := by rw [hW1]; simp
  have hz1b : w.heap.size + 1 ≤ W1.heap.size := by rw [hW1]; simp
  have HAL := Lib.hid hal
  have H6 := Lib.hid h6
  have HK := Lib.hid hk
  have HT := Lib.hid hT
  have HW1 := Lib.hid hW1
  clear hal h6 hk hT hW1
  unfold docV
  go_enter Tryd.func28, Tryd.ntmps28
  go_wp2_with fail
  rw [← HW1.out]
  have hal2 : Below w.heap.size w (W1.alloc (.cells #[.pointer none, .slice none 0 0] 74)) := HAL.out.alloc (by omega) _
  have hbk := Blk.new' (W := W1) (g := w.heap.size + 1) [.pointer none, .slice none 0 0] 74 (by omega)
  have h62 : Six (W1.alloc (.cells #[.pointer none, .slice none 0 0] 74)) w.heap.size 0 d kv := H6.out.of (Below.heap_alloc _ _ _ (by omega))
  refine (check_any d kv _ ((HK.out.below hal2 (Nat.le_refl _)).wide (Nat.le_refl _) (by simp; omega)) hb (HT.out.below hal2)).mono ?_
  rintro e w2 ⟨rfl, hb2⟩
  have hz2 := hb2.size
  simp only [World.size_alloc] at hz2
  have HB2 := Lib.hid (hal2.call hb2)
  have HBK := Lib.hid (hbk.below hb2)
  have H62 := Lib.hid (h62.of (hb2.block _ (by simp; omega)))
  have HV : Hid (d.flatV = if d.code = 0 then d.flat else Option.none) := Lib.hid rfl
  clear hal2 hbk h62 hb2
  by_cases hc : d.code = 0
  · have hsh := code_shape hc
    have hf : d.flatV = d.flat := by rw [HV.out, if_pos hc]
    rw [hc]
    have hheld : Held (w.heap.size + 1) (w.heap.size + 1) [] w2 := .inl ⟨by omega, .slice none 0 0, HBK.out, World.ownsRow_nil _ _ _ _, by simp [Value.ownBlock]⟩
    have HF := Lib.hid (flatly_any d kv w.heap.size 0 (w.heap.size + 1) (w.heap.size + 1) [] w2 H62.out ((HK.out.below HB2.out (Nat.le_refl _)).wide (Nat.le_refl _) (by omega)) (by omega) hheld (by simp; omega) hsh.1)
    have HC := Lib.hid hc
    clear hc hsh hheld
    cases hfl : d.flat with
    | none =>
      have HD : Hid (d.flatS = ⟨#[]⟩ ∧ d.flatOk = false) := Lib.hid (by unfold Doc.flatS Doc.flatOk; rw [hf, hfl]; exact ⟨rfl, rfl⟩)
      have HFL := Lib.hid hfl
      clear hfl hf
      go_wp2_with fail
      refine HF.out.mono ?_
      intro e w3 h3
      rw [flatOut_none HFL.out] at h3
      obtain ⟨rfl, hb3⟩ := h3
      have HB3 := Lib.hid (HB2.out.trans (hb3.mono (by omega)))
      clear hb3
      go_wp2_with fail
      go_ret2
      exact ⟨by first | (rw [HD.out.1, HD.out.2]; done) | (rw [HD.out.1, HD.out.2]; rfl), HB3.out⟩
    | some l =>
      have HD : Hid (d.flatS = ⟨l.toArray⟩ ∧ d.flatOk = true) := Lib.hid (by unfold Doc.flatS Doc.flatOk; rw [hf, hfl]; exact ⟨rfl, rfl⟩)
      have HFL := Lib.hid hfl
      clear hfl hf
      go_wp2_with fail
      refine HF.out.mono ?_
      intro e w3 h3
      rw [flatOut_some HFL.out] at h3
      obtain ⟨rfl, hh3, hb3⟩ := h3
      rw [List.nil_append] at hh3
      have hz3 := hb3.size
      have HS := Lib.hid (Tryd.Builder_String_any (w.heap.size + 1) (w.heap.size + 1) l w3 hh3 (by omega))
      have HB3 := Lib.hid (HB2.out.trans (hb3.mono (by omega)))
      clear hb3 hh3
      go_wp2_with fail
      refine HS.out.mono ?_
      rintro e w4 ⟨rfl, hb4⟩
      have HB4 := Lib.hid (HB3.out.trans (hb4.mono (by omega)))
      clear hb4
      go_wp2_with fail
      go_ret2
      exact ⟨by first | (rw [HD.out.1, HD.out.2]; done) | (rw [HD.out.1, HD.out.2]; rfl), HB4.out⟩
  · have HD : Hid (d.flatS = ⟨#[]⟩ ∧ d.flatOk = false) := Lib.hid (by unfold Doc.flatS Doc.flatOk; rw [HV.out, if_neg hc]; exact ⟨rfl, rfl⟩)
    have hne : (d.code != 0) = true := by rw [bne_iff_ne]; exact hc
    clear hc
    go_wp2_with fail
    go_ret2
    exact ⟨by first | (rw [HD.out.1, HD.out.2]; done) | (rw [HD.out.1, HD.out.2]; rfl), HB2.out⟩
end

section
open Go.RowKit
set_option maxRecDepth 100000
set_option linter.unusedVariables false
set_option linter.unusedSimpArgs false

/-- The cells of documents, one behind the other. -/
def docsCells (l : List (Doc × Value)) : List Value := l.flatMap fun p => docCells p.1 p.2
theorem docsCells_at : ∀ (l : List (Doc × Value)) (j c : Nat) (hj : j < l.length), c < 6 → (docsCells l)[j * 6 + c]? = (docCells (l[j]).1 (l[j]).2)[c]?
  | p :: l, 0, c, _, hc => by
    simp only [docsCells, List.flatMap_cons, List.getElem_cons_zero, Nat.zero_mul, Nat.zero_add]
    rw [List.getElem?_append_left (by simp [docCells]; omega)]
  | p :: l, j + 1, c, hj, hc => by
    have ih := docsCells_at l j c (by simpa using hj) hc
    simp only [docsCells, List.flatMap_cons, List.getElem_cons_succ] at ih ⊢
    rw [List.getElem?_append_right (by simp [docCells]; omega)]
    have e : (docCells p.1 p.2).length = 6 := rfl
    rw [e, show (j + 1) * 6 + c - 6 = j * 6 + c by omega]
    exact ih
theorem kv_made {W : World} {lo hi g cap : Nat} {D : Doc} {t : TypeId} (l : List (Doc × Value)) (hb : Blk W g (docsCells l) t) (hk : ∀ p ∈ l, KV W lo hi p.1 p.2) (h1 : lo ≤ g) (h2 : g < hi) (hD : D.kids = l.map Prod.fst) (hc : l.length ≤ cap) :
    KV W lo hi D (.slice (some ⟨g, 0, none⟩) l.length cap) := by
  rw [KV_iff]
  refine ⟨_, _, by rw [hD, List.length_map], by rw [hD, List.length_map]; exact hc, fun _ => ⟨g, 0, rfl, h1, h2, EV_iff.2 fun j hj => ?_⟩⟩
  have hjl : j < l.length := by rw [hD, List.length_map] at hj; exact hj
  have e : D.kids[j] = (l[j]).1 := by simp [hD]
  have hcell : ∀ c, c < 6 → W.cell? ⟨g, 0 + j * 6 + c, none⟩ = (docCells (l[j]).1 (l[j]).2)[c]? := fun c h6 => by
    rw [hb.cell, Nat.zero_add, docsCells_at l j c hjl h6]
  rw [e]
  exact ⟨(l[j]).2, ⟨hcell 0 (by omega), hcell 1 (by omega), hcell 2 (by omega), hcell 3 (by omega), hcell 4 (by omega), hcell 5 (by omega)⟩, hk _ (List.getElem_mem hjl)⟩
theorem kv_nil {W : World} {lo hi : Nat} {D : Doc} (hD : D.kids = []) : KV W lo hi D (.slice none 0 0) := by
  rw [KV_iff, hD]
  exact ⟨none, 0, rfl, by simp, fun h => by simp at h⟩
theorem num_any' (n : Int) (w : World) : Calls Tryd.prog 17 #[.int .i64 n] w fun e w' => e = .returned (.int .i64 n) ∧ w = w' := num_any n w

theorem _root_.Go.RowKit.Calls.at_world {P : Program} {f : FuncId} {args : Array Value} {w w' : World} {R : Ending → World → Prop} (e : w = w') (h : Calls P f args w R) : Calls P f args w' R := e ▸ h
def eDoc (k : Int) (ks : List Doc) : Doc := .mk k ⟨#[]⟩ ks false 0 0
end

section
open Go.RowKit
set_option maxRecDepth 100000
set_option linter.unusedVariables false
set_option linter.unusedSimpArgs false
theorem docE : ElemOf Tryd.prog 22 24 6 72 := .mk' (.agg #[.int .i64 0, .string ⟨#[]⟩, .slice none 0 0, .bool false, .int .i64 0, .int .i64 0]) Tryd.underlying22 (by kernel_rfl) rfl (by decide)
theorem alloc_cell (w : World) (o : Obj) (a : Addr) (h : a.block < w.heap.size) : (w.alloc o).cell? a = w.cell? a := World.cell?_of_block (Below.heap_alloc w o _ h)
theorem alloc_frozen (w : World) (o : Obj) (a : Addr) (h : a.block < w.heap.size) : (w.alloc o).frozen? a = w.frozen? a := World.frozen?_of_block (Below.heap_alloc w o _ h)
theorem own_cut0 {W : World} {base e : Nat} {v : Value} {n : Nat} {xs : List Value} (h : W.ownsRow base e 6 v n xs) : (v = .slice none 0 0 ∧ n = 0) ∨ ∃ g cap, v = .slice (some ⟨g, 0, none⟩) n cap ∧ n ≤ cap ∧ base ≤ g ∧ g < W.heap.size := by
  rcases h.2 with h2 | ⟨g, cap, cur, h1, h2, h3, h4, _⟩
  · exact .inl h2
  · exact .inr ⟨g, cap, h1, h4, h2, (Array.getElem?_eq_some_iff.1 h3).1⟩
/-- The kids of a row of one's own. -/
theorem kv_own {W : World} {hi base : Nat} {D : Doc} {v : Value} {t n : Nat} (l : List (Doc × Value)) (hl : l.length = n) (ho : W.ownsRow base t 6 v n (docsCells l)) (hk : ∀ p ∈ l, KV W 0 hi p.1 p.2) (hD : D.kids = l.map Prod.fst) (hh : W.heap.size ≤ hi) :
    KV W 0 hi D v := by
  rcases own_cut0 ho with ⟨rfl, rfl⟩ | ⟨g, cap, rfl, hcap, _, hg⟩
  · exact kv_nil (by rw [hD, List.length_eq_zero_iff.1 hl]; rfl)
  · subst hl
    rw [KV_iff]
    refine ⟨_, _, by rw [hD, List.length_map], by rw [hD, List.length_map]; exact hcap, fun _ => ⟨g, 0, rfl, Nat.zero_le _, by omega, EV_iff.2 fun j hj => ?_⟩⟩
    have hjl : j < l.length := by rw [hD, List.length_map] at hj; exact hj
    have e : D.kids[j] = (l[j]).1 := by simp [hD]
    have hcell : ∀ c, c < 6 → W.cell? ⟨g, 0 + j * 6 + c, none⟩ = (docCells (l[j]).1 (l[j]).2)[c]? := fun c h6 => by
      rw [Nat.zero_add, ho.cellAt (j * 6 + c) (by omega), docsCells_at l j c hjl h6]
    rw [e]
    exact ⟨(l[j]).2, ⟨hcell 0 (by omega), hcell 1 (by omega), hcell 2 (by omega), hcell 3 (by omega), hcell 4 (by omega), hcell 5 (by omega)⟩, hk _ (List.getElem_mem hjl)⟩
end

section
open Go.RowKit
set_option maxRecDepth 100000
set_option linter.unusedVariables false

/-! ### Documents in memory, each list of kids with a property of its own -/
abbrev SlX := World → Nat → Nat → Nat → Nat → Prop
def SlX.Stab (X : SlX) : Prop := ∀ W W' g off n cap, X W g off n cap → W'.heap[g]? = W.heap[g]? → X W' g off n cap
mutual
/-- As KV, and X of each list (of the empty one too, where Z). -/
def KG (Z : Bool) (X : SlX) (W : World) (lo hi : Nat) : Doc → Value → Prop
  | .mk _ _ ks _ _ _, kv => ∃ a cap, kv = .slice a ks.length cap ∧ ks.length ≤ cap ∧ (Z = true ∨ 0 < ks.length → ∃ g off, a = some ⟨g, off, none⟩ ∧ lo ≤ g ∧ g < hi ∧ X W g off ks.length cap ∧ EG Z X W lo hi g ks off)
def EG (Z : Bool) (X : SlX) (W : World) (lo hi g : Nat) : List Doc → Nat → Prop
  | [], _ => True
  | d :: ds, off => (∃ kv, Six W g off d kv ∧ KG Z X W lo hi d kv) ∧ EG Z X W lo hi g ds (off + 6)
end
theorem KG_iff {Z : Bool} {X : SlX} {W : World} {lo hi : Nat} {d : Doc} {kv : Value} : KG Z X W lo hi d kv ↔ ∃ a cap, kv = .slice a d.kids.length cap ∧ d.kids.length ≤ cap ∧ (Z = true ∨ 0 < d.kids.length → ∃ g off, a = some ⟨g, off, none⟩ ∧ lo ≤ g ∧ g < hi ∧ X W g off d.kids.length cap ∧ EG Z X W lo hi g d.kids off) := by
  cases d
  rw [KG]
  rfl
theorem EG_iff {Z : Bool} {X : SlX} {W : World} {lo hi g : Nat} : ∀ {ks : List Doc} {off : Nat}, EG Z X W lo hi g ks off ↔ ∀ j, (h : j < ks.length) → ∃ kv, Six W g (off + j * 6) ks[j] kv ∧ KG Z X W lo hi ks[j] kv
  | [], off => by simp [EG]
  | d :: ds, off => by
    rw [EG, EG_iff]
    constructor
    · rintro ⟨h0, h1⟩ j hj
      cases j with
      | zero => rw [Nat.zero_mul, Nat.add_zero]; exact h0
      | succ j =>
        have := h1 j (by simpa using hj)
        rw [show off + 6 + j * 6 = off + (j + 1) * 6 by omega] at this
        simpa using this
    · intro h
      refine ⟨by have := h 0 (by simp); rw [Nat.zero_mul, Nat.add_zero] at this; exact this, fun j hj => ?_⟩
      have := h (j + 1) (by simpa using hj)
      rw [show off + (j + 1) * 6 = off + 6 + j * 6 by omega] at this
      simpa using this
theorem KG.of {Z : Bool} {X : SlX} (hX : X.Stab) {W W' : World} {lo hi lo' hi' : Nat} (hlo : lo' ≤ lo) (hhi : hi ≤ hi') (hs : ∀ b, lo ≤ b → b < hi → W'.heap[b]? = W.heap[b]?) : ∀ {d : Doc} {kv : Value}, KG Z X W lo hi d kv → KG Z X W' lo' hi' d kv := by
  intro d kv
  revert kv
  refine Doc.ind (P := fun d => ∀ {kv}, KG Z X W lo hi d kv → KG Z X W' lo' hi' d kv) (fun d ih => ?_) d
  intro kv h
  rw [KG_iff] at h ⊢
  obtain ⟨a, cap, rfl, hcap, h⟩ := h
  refine ⟨a, cap, rfl, hcap, fun h0 => ?_⟩
  obtain ⟨g, off, rfl, h1, h2, hx, h3⟩ := h h0
  refine ⟨g, off, rfl, by omega, by omega, hX _ _ _ _ _ _ hx (hs g h1 h2), ?_⟩
  rw [EG_iff] at h3 ⊢
  intro j hj
  obtain ⟨kv, h4, h5⟩ := h3 j hj
  exact ⟨kv, h4.of (hs g h1 h2), ih _ (List.getElem_mem hj) h5⟩
theorem KG.below {Z : Bool} {X : SlX} (hX : X.Stab) {W W' : World} {lo hi : Nat} {d : Doc} {kv : Value} (h : KG Z X W lo hi d kv) (hb : Below W.heap.size W W') (hh : hi ≤ W.heap.size) : KG Z X W' lo hi d kv :=
  KG.of hX (Nat.le_refl _) (Nat.le_refl _) (fun b _ h2 => hb.block b (by omega)) h
theorem KG.wide {Z : Bool} {X : SlX} (hX : X.Stab) {W : World} {lo hi lo' hi' : Nat} {d : Doc} {kv : Value} (h : KG Z X W lo hi d kv) (hlo : lo' ≤ lo) (hhi : hi ≤ hi') : KG Z X W lo' hi' d kv :=
  KG.of hX hlo hhi (fun _ _ _ => rfl) h
theorem KG.kv {Z : Bool} {X : SlX} {W : World} {lo hi : Nat} : ∀ {d : Doc} {kv : Value}, KG Z X W lo hi d kv → KV W lo hi d kv := by
  intro d kv
  revert kv
  refine Doc.ind (P := fun d => ∀ {kv}, KG Z X W lo hi d kv → KV W lo hi d kv) (fun d ih => ?_) d
  intro kv h
  rw [KG_iff] at h
  rw [KV_iff]
  obtain ⟨a, cap, rfl, hcap, h⟩ := h
  refine ⟨a, cap, rfl, hcap, fun h0 => ?_⟩
  obtain ⟨g, off, rfl, h1, h2, hx, h3⟩ := h (.inr h0)
  refine ⟨g, off, rfl, by omega, by omega, ?_⟩
  rw [EG_iff] at h3
  rw [EV_iff]
  intro j hj
  obtain ⟨kv, h4, h5⟩ := h3 j hj
  exact ⟨kv, h4, ih _ (List.getElem_mem hj) h5⟩
theorem kg_nil {X : SlX} {W : World} {lo hi : Nat} {D : Doc} (hD : D.kids = []) : KG false X W lo hi D (.slice none 0 0) := by
  rw [KG_iff, hD]
  exact ⟨none, 0, rfl, by simp, fun h => by simp at h⟩
/-- What may be written: no cell is frozen. -/
def thawX : SlX := fun W g _ _ _ => ∀ q, W.frozen? ⟨g, q, none⟩ = false
theorem thawX_stab : thawX.Stab := fun W W' g off n cap h e q => (World.frozen?_of_block (w := W) e).trans (h q)
def KW := KG false thawX

/-! ### A whole document stored -/
theorem set6_heap (W : World) (g b : Nat) (v0 v1 v2 v3 v4 v5 : Value) (h : b ≠ g) : ((((((W.setCell ⟨g, 0, none⟩ v0).setCell ⟨g, 1, none⟩ v1).setCell ⟨g, 2, none⟩ v2).setCell ⟨g, 3, none⟩ v3).setCell ⟨g, 4, none⟩ v4).setCell ⟨g, 5, none⟩ v5).heap[b]? = W.heap[b]? :=
  ((((((Below.heap_setCell _ _ _ b h).trans (Below.heap_setCell _ _ _ b h)).trans (Below.heap_setCell _ _ _ b h)).trans (Below.heap_setCell _ _ _ b h)).trans (Below.heap_setCell _ _ _ b h)).trans (Below.heap_setCell _ _ _ b h))
theorem set6_below {n : Nat} {w W : World} (h : Below n w W) (g : Nat) (v0 v1 v2 v3 v4 v5 : Value) (hn : n ≤ g) : Below n w ((((((W.setCell ⟨g, 0, none⟩ v0).setCell ⟨g, 1, none⟩ v1).setCell ⟨g, 2, none⟩ v2).setCell ⟨g, 3, none⟩ v3).setCell ⟨g, 4, none⟩ v4).setCell ⟨g, 5, none⟩ v5) :=
  ((((((h.setCell (p := ⟨g, 0, none⟩) hn _).setCell (p := ⟨g, 1, none⟩) hn _).setCell (p := ⟨g, 2, none⟩) hn _).setCell (p := ⟨g, 3, none⟩) hn _).setCell (p := ⟨g, 4, none⟩) hn _).setCell (p := ⟨g, 5, none⟩) hn _)
theorem set6_blk {W : World} {g : Nat} {cs : List Value} {e : TypeId} (h : Blk W g cs e) (hl : cs.length = 6) (d : Doc) (kv : Value) : Blk ((((((W.setCell ⟨g, 0, none⟩ (.int .i64 d.kind)).setCell ⟨g, 1, none⟩ (.string d.text)).setCell ⟨g, 2, none⟩ kv).setCell ⟨g, 3, none⟩ (.bool d.brk)).setCell ⟨g, 4, none⟩ (.int .i64 d.id)).setCell ⟨g, 5, none⟩ (.int .i64 d.width)) g (docCells d kv) e := by
  have := (((((h.set 0 (.int .i64 d.kind)).set 1 (.string d.text)).set 2 kv).set 3 (.bool d.brk)).set 4 (.int .i64 d.id)).set 5 (.int .i64 d.width)
  match cs, hl with
  | [c0, c1, c2, c3, c4, c5], _ => exact this

/-! ### The row -/
structure RowD (Z : Bool) (X : SlX) (W : World) (B : Nat) (l : List (Doc × Value)) (v : Value) : Prop where
  own : W.ownsRow B 24 6 v l.length (docsCells l)
  kids : ∀ p ∈ l, ∃ lo hi, B ≤ lo ∧ hi ≤ W.heap.size ∧ KG Z X W lo hi p.1 p.2 ∧ ∀ g, v.ownBlock = some g → g < lo ∨ hi ≤ g
section
variable {Z : Bool} {X : SlX}
theorem RowD.nil (W : World) (B : Nat) : RowD Z X W B [] (.slice none 0 0) := ⟨World.ownsRow_nil _ _ _ _, by simp⟩
theorem RowD.below (hX : X.Stab) {W W' : World} {B : Nat} {l : List (Doc × Value)} {v : Value} (h : RowD Z X W B l v) (hb : Below W.heap.size W W') : RowD Z X W' B l v :=
  ⟨own_below h.own hb, fun p hp => by
    obtain ⟨lo, hi, h1, h2, h3, h4⟩ := h.kids p hp
    exact ⟨lo, hi, h1, Nat.le_trans h2 hb.size, h3.below hX hb h2, h4⟩⟩
theorem RowD.set (hX : X.Stab) {W : World} {B : Nat} {l : List (Doc × Value)} {v : Value} (h : RowD Z X W B l v) {a : Addr} (ha : a.block < B) (u : Value) : RowD Z X (W.setCell a u) B l v := by
  refine ⟨?_, fun p hp => ?_⟩
  · exact ownsRow_setCell_other h.own (fun e => by have := (h.own.lt _ e).1; omega) u
  · obtain ⟨lo, hi, h1, h2, h3, h4⟩ := h.kids p hp
    exact ⟨lo, hi, h1, by simpa using h2, KG.of hX (Nat.le_refl _) (Nat.le_refl _) (fun b hb _ => Below.heap_setCell W a u b (by omega)) h3, h4⟩
theorem docsCells_push (l : List (Doc × Value)) (p : Doc × Value) : docsCells (l ++ [p]) = docsCells l ++ docCells p.1 p.2 := by simp [docsCells]
/-- The row grows: its kids stay. -/
theorem RowD.grow (hX : X.Stab) {W W1 W' : World} {B : Nat} {l : List (Doc × Value)} {v v' : Value} {gg : Nat} (h : RowD Z X W B l v) (hb : Below W.heap.size W W1) (o : Obj)
    (hg : (W1.alloc o).grownBy W' v.ownBlock) (hgg : v'.ownBlock = some gg) (hat : v.ownBlock = some gg ∨ gg = W1.heap.size + 1) : ∀ p ∈ l, ∃ lo hi, B ≤ lo ∧ hi ≤ W'.heap.size ∧ KG Z X W' lo hi p.1 p.2 ∧ ∀ g, v'.ownBlock = some g → g < lo ∨ hi ≤ g := by
  intro p hp
  have hsz := hb.size
  have hsz2 := hg.size
  simp at hsz2
  have hkeep : ∀ b, b < W1.heap.size → v.ownBlock ≠ some b → W'.heap[b]? = W1.heap[b]? := fun b hb1 hne => (hg.block b (by simp; omega) (Ne.symm hne)).trans (Below.heap_alloc W1 o b hb1)
  have hnew : ∀ g, v'.ownBlock = some g → g = gg := fun g e => by rw [hgg] at e; cases e; rfl
  obtain ⟨lo1, hi1, h1, h2, h3, h4⟩ := h.kids p hp
  refine ⟨lo1, hi1, h1, by omega, KG.of hX (Nat.le_refl _) (Nat.le_refl _) (fun b hb1 hb2 => hkeep b (by omega) (fun e => by have := h4 b e; omega)) (h3.below hX hb h2), fun g e => ?_⟩
  have := hnew g e
  subst this
  rcases hat with e2 | e2
  · exact h4 g e2
  · right; omega
/-- A kid more: it lies at W1 in blocks from lo on, below hi; the row was at W. -/
theorem RowD.push (hX : X.Stab) {W W1 W' : World} {B : Nat} {l : List (Doc × Value)} {v v' : Value} {K : Doc} {kv : Value} {gg lo hi : Nat} (h : RowD Z X W B l v) (hb : Below W.heap.size W W1) (hBW : B ≤ W.heap.size) (hlo : W.heap.size ≤ lo) (hhi : hi ≤ W1.heap.size) (hk : KG Z X W1 lo hi K kv) (o : Obj)
    (hown : W'.ownsRow B 24 6 v' (l.length + 1) (docsCells l ++ docCells K kv)) (hg : (W1.alloc o).grownBy W' v.ownBlock) (hgg : v'.ownBlock = some gg) (hat : v.ownBlock = some gg ∨ gg = W1.heap.size + 1) : RowD Z X W' B (l ++ [(K, kv)]) v' := by
  have hvo : ∀ x, v.ownBlock = some x → B ≤ x ∧ x < W.heap.size := fun x hx => h.own.lt x hx
  have hsz := hb.size
  have hsz2 := hg.size
  simp at hsz2
  have hkeep : ∀ b, b < W1.heap.size → v.ownBlock ≠ some b → W'.heap[b]? = W1.heap[b]? := fun b hb1 hne => (hg.block b (by simp; omega) (Ne.symm hne)).trans (Below.heap_alloc W1 o b hb1)
  have hnew : ∀ g, v'.ownBlock = some g → g = gg := fun g e => by rw [hgg] at e; cases e; rfl
  refine ⟨by rw [docsCells_push, List.length_append]; exact hown, fun p hp => ?_⟩
  rcases List.mem_append.1 hp with hp | hp
  · exact h.grow hX hb o hg hgg hat p hp
  · simp only [List.mem_cons, List.not_mem_nil, or_false] at hp
    subst hp
    refine ⟨lo, hi, by omega, by omega, KG.of hX (Nat.le_refl _) (Nat.le_refl _) (fun b hb1 hb2 => hkeep b (by omega) (fun e => by have := (hvo b e).2; omega)) hk, fun g e => ?_⟩
    have := hnew g e
    subst this
    rcases hat with e2 | e2
    · left; have := (hvo g e2).2; omega
    · right; omega
theorem RowD.slice {W : World} {B : Nat} {l : List (Doc × Value)} {v : Value} (h : RowD Z X W B l v) : ∃ A c, v = .slice A l.length c := by
  rcases own_cut0 h.own with ⟨rfl, h0⟩ | ⟨g, cap, rfl, _⟩
  · exact ⟨none, 0, by rw [h0]⟩
  · exact ⟨_, _, rfl⟩
end
/-- The kids of such a row: a document's, which may be written. -/
theorem RowD.kw {W : World} {B : Nat} {D : Doc} {l : List (Doc × Value)} {v : Value} (h : RowD false thawX W B l v) (hD : D.kids = l.map Prod.fst) : KW W B W.heap.size D v := by
  rcases own_cut0 h.own with ⟨rfl, h0⟩ | ⟨g, cap, rfl, hcap, hgB, hg⟩
  · exact kg_nil (by rw [hD, List.length_eq_zero_iff.1 h0]; rfl)
  · unfold KW
    rw [KG_iff]
    refine ⟨_, _, by rw [hD, List.length_map], by rw [hD, List.length_map]; exact hcap, fun _ => ⟨g, 0, rfl, hgB, hg, fun q => h.own.frozenAt q, EG_iff.2 fun j hj => ?_⟩⟩
    have hjl : j < l.length := by rw [hD, List.length_map] at hj; exact hj
    have e : D.kids[j] = (l[j]).1 := by simp [hD]
    have hcell : ∀ c, c < 6 → W.cell? ⟨g, 0 + j * 6 + c, none⟩ = (docCells (l[j]).1 (l[j]).2)[c]? := fun c h6 => by
      rw [Nat.zero_add, h.own.cellAt (j * 6 + c) (by omega), docsCells_at l j c hjl h6]
    rw [e]
    obtain ⟨lo, hi, h1, h2, h3, _⟩ := h.kids _ (List.getElem_mem hjl)
    exact ⟨(l[j]).2, ⟨hcell 0 (by omega), hcell 1 (by omega), hcell 2 (by omega), hcell 3 (by omega), hcell 4 (by omega), hcell 5 (by omega)⟩, h3.wide thawX_stab h1 h2⟩
end

section
open Go.RowKit

theorem bcells_one (l : List UInt8) : ∀ u ∈ Lib.byteCells l, u.oneCell' = true := by
  intro u hu
  unfold Lib.byteCells at hu
  rw [List.mem_map] at hu
  obtain ⟨b, _, rfl⟩ := hu
  rfl
theorem bcells_app (l m : List UInt8) : Lib.byteCells (l ++ m) = Lib.byteCells l ++ Lib.byteCells m := by simp [Lib.byteCells]
/-- A slice that owns bytes: its address, and each of its cells. -/
theorem own_bytes {w : World} {base t n : Nat} {v : Value} {l : List UInt8} (h : w.ownsRow base t 1 v n (Lib.byteCells l)) (hl : l ≠ []) :
    ∃ g cap, v = .slice (some ⟨g, 0, none⟩) l.length cap ∧ ∀ j (hj : j < l.length), w.cell? ((⟨g, 0, none⟩ : Addr).add j) = some (.int .u8 (l[j].toNat : Int)) := by
  have hn : n = l.length := by have := h.1; rw [Lib.byteCells_length] at this; omega
  subst hn
  have h0 : l.length ≠ 0 := by simpa using hl
  obtain ⟨g, cap, e⟩ : ∃ g cap, v = .slice (some ⟨g, 0, none⟩) l.length cap := by
    rcases h.2 with ⟨_, h'⟩ | ⟨g, cap, _, e, _⟩
    · omega
    · exact ⟨g, cap, e⟩
  subst e
  refine ⟨g, cap, rfl, fun j hj => ?_⟩
  refine h.cells (g := g) rfl j _ ?_
  simp [Lib.byteCells, hj]
/-- An element type's row of the table: bytes. -/
def ByteElem (P : Program) (t e : TypeId) : Prop := ∃ i : TypeInfo, P.underlying t = some (.slice e) ∧ P.info? e = some i ∧ i.zero = some (.int .u8 0) ∧ i.size = 1 ∧ i.bytes = 1
theorem ByteElem.of {P : Program} {t e : TypeId} (h : ElemOf P t e 1 1) (hz : (P.info? e).map (fun i => i.zero) = some (some (.int .u8 0))) : ByteElem P t e := by
  obtain ⟨i, z, h1, h2, h3, h4, h5, h6, h7⟩ := h
  rw [h2] at hz
  simp only [Option.map_some, Option.some.injEq] at hz
  exact ⟨i, h1, h2, hz, h4, h5⟩
theorem wpList_append_str {P : Program} {W : World} {ops : Array Oper} {rest : List Oper} {o : Oper} {a : Act} {Q : Exit → Act → World → Prop} (hgd : o.guard = none) (sl x : Operand) (t u e : TypeId)
    (ho : o.op = .call { callee := .builtin .append, args := #[sl, x], argTypes := #[t, u] }) (hE : ByteElem P t e) (hu : P.underlying u = some .string)
    (w wr : World) (B : Nat) (hbw : Below B w wr) (hBr : B ≤ wr.heap.size) (hbr : Below wr.heap.size wr W)
    (v : Value) (n : Nat) (l : List UInt8) (hs : a.eval sl = v) (hown : wr.ownsRow B e 1 v n (Lib.byteCells l)) (s : ByteArray) (hx : a.eval x = .string s)
    (h63 : n + s.size ≤ maxLen) (hbytes : n + s.size ≤ 140737488355328)
    (h : ∀ v' W', W'.ownsRow B e 1 v' (n + s.size) (Lib.byteCells (l ++ s.data.toList)) → Below B w W' → W.grownBy W' v.ownBlock → (∀ k, v.ownBlock = some k → B ≤ k ∧ k < wr.heap.size) → wpList P ops Q rest (a.put o.dst v') W') : wpList P ops Q (o :: rest) a W := by
  obtain ⟨i, h1, h2, h3, h4, h5⟩ := hE
  have hsz := hbr.size
  refine Lib.wpList_append_own_string (w := W) hgd sl x t u ho B e i h1 hu h2 h3 h4 h5 v n (Lib.byteCells l) hs (own_below hown hbr) s hx h63 hbytes (by omega) ?_
  intro v' W' ho' hg' _
  have hlt := hown.lt
  refine h v' W' ?_ ((hbw.trans (hbr.mono hBr)).grown hg' (by omega) (fun k hk => (hlt k hk).1)) hg' hlt
  rw [bcells_app]
  exact ho'
end

section
open Go.RowKit
set_option maxRecDepth 100000
set_option linter.unusedVariables false


theorem in_any (r : Int) (b n c : Nat) (xs : List Int) (w : World) (hn : xs.length = n) (hbig : n ≤ 1000) (hc : ∀ j, j < n → w.cell? ⟨b, j, none⟩ = some (.int .i64 (xs.getD j 0))) :
    Calls Tryd.prog 58 #[.int .i64 r, .slice (some ⟨b, 0, none⟩) n c] w fun e w' => e = .returned (.bool (inB r xs)) ∧ Below w.heap.size w w' := by
  have HN := Lib.hid hn
  have HC := Lib.hid hc
  clear hn hc
  go_enter Tryd.func58, Tryd.ntmps58
  go_wp2
  go_loop [5] (fun i => ∃ k : Nat, 2 * k ≤ n + 1 ∧ i = .int .i64 (2 * (k : Int)) ∧ inB r (xs.drop (2 * k)) = inB r xs) (fun i => n + 2 - (intOf i).toNat)
  case atStart => exact ⟨0, by omega, rfl, by simp⟩
  case round =>
    obtain ⟨k, hk, rfl, hin⟩ := hrel
    have HIN := Lib.hid hin
    clear hin
    by_cases hlt : 2 * k + 1 < n
    · have c0 : w.cell? ⟨b, 2 * k, none⟩ = some (.int .i64 (xs.getD (2 * k) 0)) := HC.out _ (by omega)
      have c1 : w.cell? ⟨b, 2 * k + 1, none⟩ = some (.int .i64 (xs.getD (2 * k + 1) 0)) := HC.out _ (by omega)
      have HS := Lib.hid (inB_drop r k xs (by rw [HN.out]; exact hlt))
      by_cases h0 : xs[2 * k]?.getD 0 ≤ r
      · by_cases h1 : r ≤ xs[2 * k + 1]?.getD 0
        · go_wp2
          go_ret
          refine ⟨ret_bool ?_, Below.refl _ _⟩
          rw [← HIN.out, HS.out]
          simp [h0, h1]
        · go_wp2
          go_round
          case rel => exact ⟨k + 1, by omega, by go_num, by rw [← HIN.out, HS.out]; simp [h0, h1]⟩
          case measure => simp [intOf]; omega
      · go_wp2
        go_round
        case rel => exact ⟨k + 1, by omega, by go_num, by rw [← HIN.out, HS.out]; simp [h0]⟩
        case measure => simp [intOf]; omega
    · go_wp2
      go_ret
      refine ⟨ret_bool ?_, Below.refl _ _⟩
      rw [← HIN.out, inB_short]
      have := HN.out
      simp
      omega

/-- The cells of a row of numbers that was just built. -/
theorem cells_new (w : World) (t : TypeId) (vs : List Int) (j : Nat) (hj : j < vs.length) : (w.alloc (.cells (vs.map (Value.int .i64)).toArray t)).cell? ⟨w.heap.size, j, none⟩ = some (.int .i64 (vs.getD j 0)) := by
  have e : (w.alloc (.cells (vs.map (Value.int .i64)).toArray t)).heap[w.heap.size]? = some (.cells (vs.map (Value.int .i64)).toArray t) := by
    show (w.heap.push _)[w.heap.size]? = _
    simp
  rw [cell_of_row _ _ _ _ _ _ e]
  simp [hj]
end

section
open Go.RowKit
set_option maxRecDepth 100000
set_option linter.unusedVariables false

theorem wide_any (r : Int) (w : World) :
    Calls Tryd.prog 44 #[.int .i64 r] w fun e w' => e = .returned (.bool (wideB r)) ∧ Below w.heap.size w w' := by
  by_cases h : (0x1100 : Int) ≤ r
  · have HS : Hid (wideB r = inB r wideRows) := Lib.hid (wideB_in r).symm
    go_enter Tryd.func44, Tryd.ntmps44
    go_wp2_with (go_at_call 58; refine (in_any r w.heap.size 28 28 wideRows _ rfl (by decide) (by exact cells_new _ _ wideRows)).mono ?_; rintro e w1 ⟨rfl, hb1⟩)
    go_ret
    exact ⟨ret_bool HS.out.symm, (Below.refl _ w).ac hb1⟩
  · have HS : Hid (wideB r = false) := Lib.hid (by unfold wideB; simp [h])
    go_enter Tryd.func44, Tryd.ntmps44
    go_wp2_with fail
    go_ret
    exact ⟨ret_bool HS.out.symm, Below.refl _ w⟩

theorem cols_wide {r : Int} (h : wideB r = true) : colsB r = 2 := by unfold colsB; rw [if_pos h]
theorem cols_one {r : Int} (h : wideB r = false) : colsB r = 1 := by unfold colsB; rw [if_neg (by rw [h]; decide)]

set_option maxHeartbeats 4000000 in
theorem width_any (s : ByteArray) (w : World) (hs : s.size ≤ 2305843009213693952) :
    Calls Tryd.prog 32 #[.string s] w fun e w' => e = .returned (.int .i64 (widthB s : Nat)) ∧ Below w.heap.size w w' := by
  go_enter Tryd.func32, Tryd.ntmps32
  go_wp2
  go_loopw [3] (fun n wr => ∃ (pos c : Nat), pos ≤ s.size ∧ c ≤ 2 * pos ∧ n = .int .i64 (c : Int) ∧ wr.heap[w.heap.size]? = some (.stringIter s pos) ∧ Below w.heap.size w wr ∧ c + widthRest s pos = widthB s) (fun _ wr => s.size - wr.iterPos w.heap.size)
  case atStart => exact ⟨0, 0, Nat.zero_le _, by omega, rfl, World.iter_heap w s 0, (Below.refl _ w).alloc (Nat.le_refl _) _, by rw [Nat.zero_add]; rfl⟩
  case round =>
    obtain ⟨pos, c, hle, hc, rfl, hit, hbw, hnr⟩ := hrel
    have HR := Lib.hid hnr
    clear hnr
    have hsz : w.heap.size < wr.heap.size := (Array.getElem?_eq_some_iff.1 hit).1
    by_cases hp : pos < s.size
    · have HS := Lib.hid (widthRest_step s pos hp)
      have hin := decode_in s pos hp
      have hps := decode_pos s pos
      have hnx : ∀ ty, (Instr.next (.pointer (some ⟨w.heap.size, 0, none⟩)) true ty).run Tryd.prog wr = _ := fun ty => Lib.run_next_any_at wr w.heap.size s pos ty hit hp
      have hit2 := Lib.iterAt_heap wr w.heap.size s pos (pos + (Utf8.decode s pos).2) hit
      have hbw2 := Lib.below_iterAt hbw (k := w.heap.size) (Nat.le_refl _) s (pos + (Utf8.decode s pos).2)
      have hsz2 : (wr.iterAt w.heap.size s (pos + (Utf8.decode s pos).2)).heap.size = wr.heap.size := Lib.iterAt_size _ _ _ _
      have hd0 := decode_le s pos
      generalize hd : (Utf8.decode s pos).1 = d at *
      generalize hwd : (Utf8.decode s pos).2 = wd at *
      generalize hW : wr.iterAt w.heap.size s (pos + wd) = W at *
      have HIT := Lib.hid hit
      clear hd hwd hit hW
      have HZ := Lib.hid hsz2
      clear hsz2
      have HK : Hid (∀ W2 : World, Below W.heap.size W W2 → W2.heap[w.heap.size]? = some (.stringIter s (pos + wd)) ∧ Below w.heap.size w W2) := Lib.hid fun W2 hb =>
        ⟨(hb.block _ (by rw [HZ.out]; exact hsz)).trans hit2, hbw2.call hb⟩
      have HM : Hid (∀ W2 : World, W2.heap[w.heap.size]? = some (.stringIter s (pos + wd)) → W2.iterPos w.heap.size = pos + wd) := Lib.hid fun W2 hb => by simp [World.iterPos, hb]
      clear hit2
      cases hwb : wideB d
      · have HC := Lib.hid (cols_one hwb)
        go_wp2_with (go_at_call 44; refine (wide_any d _).mono ?_; rintro e w1 ⟨rfl, hb1⟩)
        go_roundw
        case rel => exact ⟨pos + wd, c + 1, hin, by omega, by go_num, (HK.out _ hb1).1, (HK.out _ hb1).2, by rw [← HR.out, HS.out, HC.out]; omega⟩
        case measure => rw [HM.out _ (HK.out _ hb1).1]; simp only [World.iterPos, HIT.out]; omega
      · have HC := Lib.hid (cols_wide hwb)
        go_wp2_with (go_at_call 44; refine (wide_any d _).mono ?_; rintro e w1 ⟨rfl, hb1⟩)
        go_roundw
        case rel => exact ⟨pos + wd, c + 2, hin, by omega, by go_num, (HK.out _ hb1).1, (HK.out _ hb1).2, by rw [← HR.out, HS.out, HC.out]; omega⟩
        case measure => rw [HM.out _ (HK.out _ hb1).1]; simp only [World.iterPos, HIT.out]; omega
    · have HE := Lib.hid (widthRest_end s pos hp)
      have hnx : ∀ ty, (Instr.next (.pointer (some ⟨w.heap.size, 0, none⟩)) true ty).run Tryd.prog wr = _ := fun ty => Lib.run_next_end_at wr w.heap.size s pos ty hit hp
      go_wp2
      go_ret
      exact ⟨ret_int (by rw [← HR.out, HE.out]; omega), hbw⟩
end
end Go.Proofs.YthljgiimdcbfpaaDoor
