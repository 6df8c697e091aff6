/- A range over a function whose iterator keeps rows of its own in memory: what a round keeps of them, and the statement's law. -/
import Derived.Test.YtaojlnibkajfbaaDoorKit
import Derived.RangeFuncNested
import Derived.RangeFuncBound
import Derived.RangeFuncCalls
import Derived.RangeFuncLeaves
import Derived.Shelf.Abstract
import Derived.Shelf.RegionOpen
import Derived.OwnWalkIn
import Derived.TacticsInMore
import Derived.LoopNIn
import Derived.LoopIn
import Derived.Deep.LoopGhost
namespace Go.Proofs.YtaojlnibkajfbaaDoor
open Go.RowKit Go.Shelf
set_option linter.unusedVariables false

/-- Below n0, and from n1 on, all that lay lies. -/
def KpN (n0 n1 : Nat) (A B : World) : Prop := A.heap.size ≤ B.heap.size ∧ (∀ b, b < n0 → B.heap[b]? = A.heap[b]?) ∧ (∀ b, n1 ≤ b → b < A.heap.size → B.heap[b]? = A.heap[b]?)
theorem KpN.refl (n0 n1 : Nat) (A : World) : KpN n0 n1 A A := ⟨Nat.le_refl _, fun _ _ => rfl, fun _ _ _ => rfl⟩
theorem KpN.trans {n0 n1 : Nat} {A B C : World} (h : KpN n0 n1 A B) (k : KpN n0 n1 B C) : KpN n0 n1 A C :=
  ⟨Nat.le_trans h.1 k.1, fun b hb => (k.2.1 b hb).trans (h.2.1 b hb), fun b hb hlt => (k.2.2 b hb (Nat.lt_of_lt_of_le hlt h.1)).trans (h.2.2 b hb hlt)⟩
theorem KpN.below {n0 n1 : Nat} {A B : World} (h : Below A.heap.size A B) (hn : n0 ≤ A.heap.size) : KpN n0 n1 A B :=
  ⟨h.size, fun b hb => h.block b (by omega), fun b _ hlt => h.block b hlt⟩
theorem KpN.setCell {n0 n1 : Nat} (A : World) (a : Addr) (v : Value) (h0 : n0 ≤ a.block) (h1 : a.block < n1) : KpN n0 n1 A (A.setCell a v) :=
  ⟨by simp, fun b hb => Below.heap_setCell A a v b (by omega), fun b hb _ => Below.heap_setCell A a v b (by omega)⟩
/-- What an iterator is that keeps rows of its own: J speaks of what lay ahead of it. -/
def Iter {α : Type} (P : Program) (gf : Nat) (lb : Array Value) (encs : α → Array Value) (n0 n1 : Nat) (S Sp : List α → Prop) (W : World) : Prop :=
  ∀ (l : Nat) (J Jx : List α → World → Prop), (∀ pre A B, J pre A → Below W.heap.size A B → J pre B) → (∀ pre A B, Jx pre A → Below W.heap.size A B → Jx pre B) →
    (∀ pre x W1, J pre W1 → YieldAt Fence.wide 3 P l (encs x) W1 fun e W' =>
      (e = .returned (.bool true) ∧ J (pre ++ [x]) W' ∧ KpN n0 n1 W1 W') ∨ (e = .returned (.bool false) ∧ Jx (pre ++ [x]) W')) →
    J [] W →
    Calls P gf (#[.func (.yield l) #[] #[]] ++ lb) W fun e W' => (∃ v, e = .returned v) ∧ ((∃ xs, S xs ∧ J xs W') ∨ (∃ pre, Sp pre ∧ Jx pre W'))
/-- Where a round may end. -/
def rPost {α : Type} (n0 n1 : Nat) (I : List α → World → Prop) (Ix : Code → List α → World → Prop) (xs : List α) (W : World) : Exit → Act → World → Prop
  | .normal, _, W' => KpN n0 n1 W W' ∧ I xs W'
  | .ret, _, W' => KpN n0 n1 W W' ∧ Ix .ret xs W'
  | .exit id, _, W' => KpN n0 n1 W W' ∧ Ix (.exit id) xs W'
  | .goto t, _, W' => KpN n0 n1 W W' ∧ Ix (.goto t) xs W'
  | .panic _, _, _ => False
  | .outgrown, _, _ => False
theorem below_putObj {B : Nat} {A : World} {l : Nat} (o : Obj) (hl : B ≤ l) : Below B A (A.putObj l o) :=
  ⟨rfl, rfl, rfl, by simp, fun b hb => World.putObj_heap_other (by omega)⟩

/-- THE STATEMENT'S LAW. -/
theorem range_law {α : Type} {P : Program} {g : Operand} {ps : Array Tmp} {assign body : Code} {Q : Exit → Act → World → Prop} {a : Act} {w : World} {gf : Nat} {lb : Array Value}
    (hg : a.eval g = .func (.func gf) #[] lb) (eg : ∀ args w, (callFunc gf args).run P w = .ok (.enter gf args) w) {encs : α → Array Value} (hps : ∀ x, (encs x).size = ps.size) {n0 : Nat} {S Sp : List α → Prop} (hn0 : n0 ≤ w.heap.size)
    (hseq : ∀ W, Below w.heap.size w W → Iter P gf lb encs n0 w.heap.size S Sp W)
    (I : List α → World → Prop) (Ix : Code → List α → World → Prop) (hI : ∀ pre A B, I pre A → Below w.heap.size A B → I pre B) (hIx : ∀ c pre A B, Ix c pre A → Below w.heap.size A B → Ix c pre B) (h0 : I [] w) (a₁ : α → Act)
    (hassign : ∀ (l : Nat) (x : α) (W : World) (K : Act → World → Prop), K (a₁ x) W →
      assign.wpIn (Fence.wide.inRound l) 3 P (Exit.then K (fun _ _ _ => False)) { tmps := (ps.zip (encs x)).foldl (fun t (p, v) => t.setIfInBounds p v) a.tmps, defers := [] } W)
    (hbody : ∀ (l : Nat) (pre : List α) (x : α) (W : World), I pre W → body.wpIn (Fence.wide.inRound l) 3 P (rPost n0 w.heap.size I Ix (pre ++ [x]) W) (a₁ x) W)
    (hdone : ∀ (D : Nat) (xs : List α) (W : World), w.heap.size ≤ D → S xs → I xs W → W.heap[D]? = some (.deferred (some [])) → Q .normal { a with defers := { target := .collected D, args := #[] } :: a.defers } W)
    (hstop : ∀ (D : Nat) (c : Code) (pre : List α) (W : World), w.heap.size ≤ D → Sp pre → Ix c pre W → W.heap[D]? = some (.deferred (some [])) → c.wp P Q { a with defers := { target := .collected D, args := #[] } :: a.defers } W) :
    (Code.rangeFunc g ps assign body).wp P Q a w := by
  refine (wpIn_wide (n := 5)).1 (wpIn_rangeFunc fun fn hfn => ?_)
  have hr0 : Fence.wide.round = none := rfl
  rw [hr0]
  generalize hN : w.heap.size = N at *
  obtain ⟨rc, hrc⟩ : ∃ rc : LoopState → Option Code → Loop, rc = fun st pe => { state := st, pending := pe, fn, tmps := a.tmps, params := ps, assign, body, defers := N } := ⟨_, rfl⟩
  obtain ⟨V, hV⟩ : ∃ V, (w.alloc (.deferred (some []))).alloc (.loop (rc .ready none)) = V := ⟨_, rfl⟩
  have hVs : V.heap.size = N + 2 := by rw [← hV]; simp [hN]
  have hbV : Below N w V := by rw [← hV]; exact ((Below.refl N w).alloc (by omega) _).alloc (by simp; omega) _
  have hVl : V.heap[N + 1]? = some (.loop (rc .ready none)) := by
    rw [← hV]
    have h1 := World.alloc_heap_new (w.alloc (.deferred (some []))) (.loop (rc .ready none))
    rwa [World.size_alloc, hN] at h1
  have hVd : V.heap[N]? = some (.deferred (some [])) := by
    rw [← hV]
    have h1 := World.alloc_heap_new w (.deferred (some []))
    rw [hN] at h1
    exact (Below.heap_alloc _ _ N (by simp; omega)).trans h1
  refine ⟨N + 1, [{ target := .collected N, args := #[] }], V, { target := .fn (.func gf) lb, args := #[.func (.yield (N + 1)) #[] #[]] }, V, gf, #[.func (.yield (N + 1)) #[] #[]] ++ lb, V, ?_, ?_, fun _ _ => trivial, ?_, fun _ => by decide, ?_⟩
  · have h1 := run_enterLoop_outer (P := P) (w := w) fn a.tmps ps assign body
    rw [hN] at h1
    rw [← hV, hrc]
    exact h1
  · simp only [resolve, hg]
    simp [go_sem]
  · simp [invoke, go_sem, eg]
  · refine callsIn_wide.2 ((hseq V hbV (N + 1)
      (fun pre W => I pre W ∧ W.heap[N + 1]? = some (.loop (rc .ready none)) ∧ W.heap[N]? = some (.deferred (some [])))
      (fun pre W => ∃ c, Ix c pre W ∧ W.heap[N + 1]? = some (.loop (rc .done (some c))) ∧ W.heap[N]? = some (.deferred (some [])))
      (fun pre A B h hb => ⟨hI pre A B h.1 (hb.mono (by omega)), (hb.block _ (by omega)).trans h.2.1, (hb.block _ (by omega)).trans h.2.2⟩)
      (fun pre A B h hb => by
        obtain ⟨c, h1, h2, h3⟩ := h
        exact ⟨c, hIx c pre A B h1 (hb.mono (by omega)), (hb.block _ (by omega)).trans h2, (hb.block _ (by omega)).trans h3⟩)
      ?_ ⟨hI [] w V h0 hbV, hVl, hVd⟩).mono ?_)
    · rintro pre x W ⟨hi, hl, hd⟩
      have hlt : N + 1 < W.heap.size := (Array.getElem?_eq_some_iff.1 hl).1
      have hy := run_yield (P := P) (args := encs x) hl (by rw [hrc]; exact hps x)
      rw [hrc] at hy
      refine ⟨fn, _, assign, body, hy, roundIn_of_wpIn hfn (hassign _ x W _ ?_)⟩
      refine ⟨_, run_beginRound hl (by rw [hrc]), ?_⟩
      generalize hX : W.putObj (N + 1) (.loop { rc .ready none with state := .busy }) = X
      have hXl : X.heap[N + 1]? = some (.loop { rc .ready none with state := .busy }) := by rw [← hX]; exact World.putObj_heap_same hlt
      have hXo : ∀ b, b ≠ N + 1 → X.heap[b]? = W.heap[b]? := fun b hb => by rw [← hX]; exact World.putObj_heap_other hb
      have hXs : X.heap.size = W.heap.size := by rw [← hX]; simp
      have hXb : Below N W X := by rw [← hX]; exact below_putObj _ (by omega)
      refine wpIn_mono (hbody _ pre x X (hI _ _ _ hi hXb)) ?_
      have fin : ∀ (jump : Option Code) (Y : World), KpN n0 N X Y →
          (Instr.endRound (N + 1) jump).run P Y = .ok (.bool jump.isNone) (Y.putObj (N + 1) (.loop (rc (if jump.isNone then .ready else .done) jump))) ∧
          (Y.putObj (N + 1) (.loop (rc (if jump.isNone then .ready else .done) jump))).heap[N + 1]? = some (.loop (rc (if jump.isNone then .ready else .done) jump)) ∧
          (Y.putObj (N + 1) (.loop (rc (if jump.isNone then .ready else .done) jump))).heap[N]? = some (.deferred (some [])) := fun jump Y hk => by
        have h1 : Y.heap[N + 1]? = some (.loop { rc .ready none with state := .busy }) := (hk.2.2 _ (by omega) (by omega)).trans hXl
        have h2 := run_endRound (P := P) jump h1
        rw [hrc] at h2 ⊢
        exact ⟨h2, World.putObj_heap_same (Array.getElem?_eq_some_iff.1 h1).1, (World.putObj_heap_other (by omega)).trans ((hk.2.2 N (Nat.le_refl _) (by omega)).trans ((hXo N (by omega)).trans hd))⟩
      rintro e a3 Y hp
      cases e with
      | normal =>
        obtain ⟨hk, hi3⟩ := hp
        obtain ⟨f1, f2, f3⟩ := fin none Y hk
        refine ⟨_, _, f1, .inl ⟨rfl, ⟨hI _ _ _ hi3 (below_putObj _ (by omega)), f2, f3⟩, by simp; have := hk.1; omega, fun b hb => ?_, fun b hb hbl => ?_⟩⟩
        · exact (World.putObj_heap_other (by omega)).trans ((hk.2.1 b hb).trans (hXo b (by omega)))
        · by_cases hb1 : b = N + 1
          · subst hb1
            exact f2.trans hl.symm
          · exact (World.putObj_heap_other hb1).trans ((hk.2.2 b hb (by omega)).trans (hXo b hb1))
      | ret =>
        obtain ⟨hk, hi3⟩ := hp
        obtain ⟨f1, f2, f3⟩ := fin (some .ret) Y hk
        exact ⟨_, _, f1, .inr ⟨rfl, .ret, hIx _ _ _ _ hi3 (below_putObj _ (by omega)), f2, f3⟩⟩
      | exit id =>
        obtain ⟨hk, hi3⟩ := hp
        obtain ⟨f1, f2, f3⟩ := fin (some (.exit id)) Y hk
        exact ⟨_, _, f1, .inr ⟨rfl, .exit id, hIx _ _ _ _ hi3 (below_putObj _ (by omega)), f2, f3⟩⟩
      | goto t =>
        obtain ⟨hk, hi3⟩ := hp
        obtain ⟨f1, f2, f3⟩ := fin (some (.goto t)) Y hk
        exact ⟨_, _, f1, .inr ⟨rfl, .goto t, hIx _ _ _ _ hi3 (below_putObj _ (by omega)), f2, f3⟩⟩
      | panic ch => exact hp.elim
      | outgrown => exact hp.elim
    · rintro e Y ⟨⟨v, rfl⟩, (⟨xs, hS, hi, hl, hd⟩ | ⟨pre, hSp, c, hi, hl, hd⟩)⟩
      · exact ⟨none, _, by have h1 := run_endLoop (P := P) hl (by rw [hrc]; simp); rw [hrc] at h1; exact h1, hdone N xs _ (Nat.le_refl _) hS (hI _ _ _ hi (below_putObj _ (by omega))) ((World.putObj_heap_other (by omega)).trans hd)⟩
      · exact ⟨some c, _, by have h1 := run_endLoop (P := P) hl (by rw [hrc]; simp); rw [hrc] at h1; exact h1, wpIn_wide.2 (hstop N c pre _ (Nat.le_refl _) hSp (hIx _ _ _ _ hi (below_putObj _ (by omega))) ((World.putObj_heap_other (by omega)).trans hd))⟩
end Go.Proofs.YtaojlnibkajfbaaDoor
