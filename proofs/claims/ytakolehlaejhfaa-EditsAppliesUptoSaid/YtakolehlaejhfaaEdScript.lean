/- edits.Script. -/
import Derived.Test.YtakolehlaejhfaaEdLines
import Derived.Test.YtakolehlaejhfaaEdPairs
import Derived.Test.YtakolehlaejhfaaEdEnd
namespace Go.Proofs.Ytakolehlaejhfaa
open Go.RowKit Go.Shelf
set_option maxRecDepth 100000
set_option linter.unusedVariables false
set_option linter.unusedSimpArgs false
attribute [local go_sem] Oper.semAt_some

theorem pairsGives (A1 A2 : Option Addr) (n1 n2 c1 c2 : Nat) (w : World) : Calls Try.prog 28 #[.slice A1 n1 c1, .slice A2 n2 c2] w fun e w' =>
    e = .returned (.func (.func 38) #[] #[.pointer (some ⟨w.heap.size, 0, none⟩), .pointer (some ⟨w.heap.size + 1, 0, none⟩)]) ∧ (w.alloc (.cells #[.slice A1 n1 c1] 40)).alloc (.cells #[.slice A2 n2 c2] 40) = w' := by
  go_enter Try.func28, Try.ntmps28
  go_wp2_with fail
  go_ret
  exact ⟨rfl, rfl⟩

def PutOff (T : Nat → Prop) (p : EdV) : Prop := (∃ A c, p.2 = .slice A 0 c ∧ p.1.put = []) ∨ ∀ g, p.2.ownBlock = some g → ¬ T g
/-- What Script holds between two rounds: bo, bo + 1 .. bo + 4: out, keep, i, k, end. -/
structure ScrAt (w : World) (a b : List Ln) (A2 : Option Addr) (c2 bY : Nat) (T : Nat → Prop) (pre : List (Nat × Nat)) (i k keep : Nat) (v : Value) (es : List EdV) (W : World) : Prop where
  ps : pre ++ pairsB (a.drop i) (b.drop k) i k = pairsB a b 0 0
  eds : es.map (·.1) ++ edsB a.length b (pairsB (a.drop i) (b.drop k) i k) keep i k = scriptB a b
  hi : i ≤ a.length
  hk : k ≤ b.length
  hkeep : keep ≤ pre.length
  hes : es.length ≤ pre.length
  st : EndSt (bY + 6) (bY + 3) (bY + 4) (bY + 1) (bY + 2) bY b A2 c2 keep i k v es W
  ty : TxtAt W 0 (bY + 1) A2 b
  fn : W.cell? ⟨bY + 5, 0, none⟩ = some (.func (.func 26) #[] #[.pointer (some ⟨bY + 3, 0, none⟩), .pointer (some ⟨bY + 4, 0, none⟩), .pointer (some ⟨bY + 1, 0, none⟩), .pointer (some ⟨bY + 2, 0, none⟩), .pointer (some ⟨bY, 0, none⟩)])
  vT : ∀ g, v.ownBlock = some g → ¬ T g
  pT : ∀ p ∈ es, PutOff T p
  tT : ∀ x, T x → bY + 6 ≤ x ∧ x < W.heap.size
  below : Below w.heap.size w W
  sz : bY + 6 ≤ W.heap.size
  bw : w.heap.size ≤ bY
theorem ScrAt.next {w : World} {a b : List Ln} {A2 : Option Addr} {c2 bY : Nat} {T : Nat → Prop} {pre : List (Nat × Nat)} {i k keep : Nat} {v : Value} {es : List EdV} {A B : World} (h : ScrAt w a b A2 c2 bY T pre i k keep v es A) (hk : KX (fun x => False ∨ T x) A B) : ScrAt w a b A2 c2 bY T pre i k keep v es B := by
  have hz := hk.size
  have hno : ∀ x, x < bY + 6 → ¬ (False ∨ T x) := fun x hx e => by
    rcases e with e | e
    · exact e
    · have := (h.tT x e).1; omega
  have hsz := h.sz
  have hbl : ∀ x, x < bY + 6 → B.heap[x]? = A.heap[x]? := fun x hx => hk.block x (by omega) (hno x hx)
  refine ⟨h.ps, h.eds, h.hi, h.hk, h.hkeep, h.hes, ⟨(hbl _ (by omega)).trans h.st.hi, (hbl _ (by omega)).trans h.st.hq, (hbl _ (by omega)).trans h.st.ho, (hbl _ (by omega)).trans h.st.hk, (hbl _ (by omega)).trans h.st.hy,
    (h.ty.of fun x _ hx => hbl x (by omega)).wide (Nat.le_refl _) (by omega), own_kx h.st.own hk fun g hg e => ?_, fun p hp => ?_⟩, h.ty.of fun x _ hx => hbl x (by omega),
    (World.cell?_of_block (w := A) (a := ⟨bY + 5, 0, none⟩) (hbl (bY + 5) (by omega))).trans h.fn, h.vT, h.pT, fun x hx => ⟨(h.tT x hx).1, by have := (h.tT x hx).2; omega⟩, ?_, by omega, h.bw⟩
  · rcases e with e | e
    · exact e
    · exact h.vT g hg e
  · rcases h.pT p hp with ⟨A', c', e1, e2⟩ | hoff
    · exact .inl ⟨A', c', e1, e2⟩
    · exact (h.st.puts p hp).kx hk fun g hg _ _ e => by
        rcases e with e | e
        · exact e
        · exact hoff g hg e
  · have hb := h.below
    have hbw := h.bw
    exact hb.trans ⟨hk.os, hk.tape, hk.output, hk.size, fun x hx => hbl x (by omega)⟩
/-- A round's end: the counters are stored. -/
theorem ScrAt.put {w : World} {a b : List Ln} {A2 : Option Addr} {c2 bY : Nat} {T : Nat → Prop} {pre : List (Nat × Nat)} {i k keep : Nat} {v : Value} {es : List EdV} {W W1 : World} (h : ScrAt w a b A2 c2 bY T pre i k keep v es W) {keep0 keep' i' k' : Nat} {v' : Value} {es' : List EdV}
    (hst : EndSt (bY + 6) (bY + 3) (bY + 4) (bY + 1) (bY + 2) bY b A2 c2 keep0 i k v' es' W1) (hkt : KT (bY + 1) T W W1) (hfn : W1.heap[bY + 5]? = W.heap[bY + 5]?) (hb : Below (bY + 1) W W1) (x : Nat × Nat)
    (hps : (pre ++ [x]) ++ pairsB (a.drop i') (b.drop k') i' k' = pairsB a b 0 0) (heds : es'.map (·.1) ++ edsB a.length b (pairsB (a.drop i') (b.drop k') i' k') keep' i' k' = scriptB a b) (h1 : i' ≤ a.length) (h2 : k' ≤ b.length) (h3 : keep' ≤ pre.length + 1) (h4 : es'.length ≤ pre.length + 1)
    (hvT : ∀ g, v'.ownBlock = some g → ¬ T g) (hpT : ∀ p ∈ es', PutOff T p) {W2 : World}
    (hW2 : W2 = ((W1.setCell ⟨bY + 2, 0, none⟩ (.int .i64 (keep' : Int))).setCell ⟨bY + 3, 0, none⟩ (.int .i64 (i' : Int))).setCell ⟨bY + 4, 0, none⟩ (.int .i64 (k' : Int))) :
    KT (bY + 1) T W W2 ∧ ScrAt w a b A2 c2 bY T (pre ++ [x]) i' k' keep' v' es' W2 := by
  have hT0 : ∀ y, y < bY + 6 → ¬ T y := fun y hy e => by have := (h.tT y e).1; omega
  have hkt2 : KT (bY + 1) T W W2 := by
    rw [hW2]
    exact ((hkt.trans (KT.setCell _ (a := ⟨bY + 2, 0, none⟩) _ (show bY + 1 ≤ bY + 2 by omega) (hT0 (bY + 2) (by omega)))).trans (KT.setCell _ (a := ⟨bY + 3, 0, none⟩) _ (show bY + 1 ≤ bY + 3 by omega) (hT0 (bY + 3) (by omega)))).trans (KT.setCell _ (a := ⟨bY + 4, 0, none⟩) _ (show bY + 1 ≤ bY + 4 by omega) (hT0 (bY + 4) (by omega)))
  have hbW : Below (bY + 1) W W2 := by
    rw [hW2]
    exact ((hb.setCell (p := ⟨bY + 2, 0, none⟩) (show bY + 1 ≤ bY + 2 by omega) _).setCell (p := ⟨bY + 3, 0, none⟩) (show bY + 1 ≤ bY + 3 by omega) _).setCell (p := ⟨bY + 4, 0, none⟩) (show bY + 1 ≤ bY + 4 by omega) _
  have hbl : ∀ y, y < W1.heap.size → y ≠ bY + 2 → y ≠ bY + 3 → y ≠ bY + 4 → W2.heap[y]? = W1.heap[y]? := fun y _ e1 e2 e3 => by
    rw [hW2]
    exact (Below.heap_setCell _ _ _ y (by simpa using e3)).trans ((Below.heap_setCell _ _ _ y (by simpa using e2)).trans (Below.heap_setCell _ _ _ y (by simpa using e1)))
  have hz := h.sz
  have hz1 := hkt.1
  have hsz2 : W1.heap.size ≤ W2.heap.size := by rw [hW2]; simp
  refine ⟨hkt2, ⟨hps, heds, h1, h2, by simpa using h3, by simpa using h4, ⟨?_, ?_, (hbl _ (by omega) (by omega) (by omega) (by omega)).trans hst.ho, ?_, (hbl _ (by omega) (by omega) (by omega) (by omega)).trans hst.hy, ?_, ?_, ?_⟩, ?_, ?_, hvT, hpT, fun y hy => ⟨(h.tT y hy).1, by have := (h.tT y hy).2; have := hkt2.1; omega⟩, ?_, by have := hkt2.1; omega, h.bw⟩⟩
  · rw [hW2]
    exact (((hst.hi.set_other (by simp) _).set 0 _)).set_other (by simp) _
  · rw [hW2]
    exact ((hst.hq.set_other (by simp) _).set_other (by simp) _).set 0 _
  · rw [hW2]
    exact ((hst.hk.set 0 _).set_other (by simp) _).set_other (by simp) _
  · exact (h.ty.below hbW (Nat.le_refl _)).wide (Nat.le_refl _) (by omega)
  · rw [hW2]
    exact ownsRow_setCell_below (ownsRow_setCell_below (ownsRow_setCell_below hst.own (by simp) _) (by simp) _) (by simp) _
  · intro p hp
    rcases hst.puts p hp with hq | hq
    · exact .inl hq
    · refine .inr ?_
      rw [hW2]
      exact ownsRow_setCell_below (ownsRow_setCell_below (ownsRow_setCell_below hq (by simp) _) (by simp) _) (by simp) _
  · exact h.ty.below hbW (Nat.le_refl _)
  · refine (World.cell?_of_block (w := W) (a := ⟨bY + 5, 0, none⟩) ((hbl (bY + 5) (by omega) (by omega) (by omega) (by omega)).trans hfn)).trans h.fn
  · have := h.bw
    exact h.below.trans (hbW.mono (by omega))
end Go.Proofs.Ytakolehlaejhfaa
