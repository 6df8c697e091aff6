/- A range over a function: the iterator's own blocks are named when it has made them (T), and it may write blocks of its own from before (X); the body may grow rows of its own. -/
import Derived.Test.YtakolehlaejhfaaKit
import Derived.RangeFuncNested
import Derived.RangeFuncBound
import Derived.RangeFuncCalls
import Derived.RangeFuncLeaves
import Derived.Shelf.Abstract
import Derived.Shelf.RegionOpen
import Derived.OwnWalkIn
import Derived.TacticsInMore
import Derived.LoopNIn
import Derived.LoopIn
import Derived.Deep.LoopGhost
namespace Go.Proofs.Ytakolehlaejhfaa
open Go.RowKit Go.Shelf
set_option linter.unusedVariables false

/-- All that lay lies, but for the blocks X. -/
structure KX (X : Nat → Prop) (A B : World) : Prop where
  os : B.os = A.os
  tape : B.tape = A.tape
  output : B.output = A.output
  size : A.heap.size ≤ B.heap.size
  block : ∀ b, b < A.heap.size → ¬ X b → B.heap[b]? = A.heap[b]?
theorem KX.refl (X : Nat → Prop) (A : World) : KX X A A := ⟨rfl, rfl, rfl, Nat.le_refl _, fun _ _ _ => rfl⟩
theorem KX.trans {X : Nat → Prop} {A B C : World} (h : KX X A B) (k : KX X B C) : KX X A C :=
  ⟨k.os.trans h.os, k.tape.trans h.tape, k.output.trans h.output, Nat.le_trans h.size k.size, fun b hb hx => (k.block b (Nat.lt_of_lt_of_le hb h.size) hx).trans (h.block b hb hx)⟩
theorem KX.wide {X Y : Nat → Prop} {A B : World} (h : KX X A B) (hXY : ∀ b, X b → Y b) : KX Y A B := ⟨h.os, h.tape, h.output, h.size, fun b hb hy => h.block b hb fun hx => hy (hXY b hx)⟩
theorem KX.of_below {X : Nat → Prop} {A B : World} (h : Below A.heap.size A B) : KX X A B := ⟨h.os, h.tape, h.output, h.size, fun b hb _ => h.block b hb⟩
theorem KX.setCell {X : Nat → Prop} (A : World) {p : Addr} (hp : X p.block) (v : Value) : KX X A (A.setCell p v) :=
  ⟨rfl, rfl, rfl, by simp, fun b _ hx => Below.heap_setCell A p v b (fun e => hx (e ▸ hp))⟩
theorem KX.drew {X : Nat → Prop} {A B : World} (h : KX X A B) : KX X A B.drew := ⟨h.os, h.tape, h.output, h.size, h.block⟩
theorem KX.putObj {X : Nat → Prop} (A : World) {l : Nat} (hl : X l) (o : Obj) : KX X A (A.putObj l o) :=
  ⟨rfl, rfl, rfl, by simp, fun b _ hx => World.putObj_heap_other (fun e => hx (e ▸ hl))⟩
theorem KX.cell {X : Nat → Prop} {A B : World} (h : KX X A B) {p : Addr} (hp : p.block < A.heap.size) (hx : ¬ X p.block) : B.cell? p = A.cell? p := World.cell?_of_block (w := A) (h.block _ hp hx)
theorem KX.below {X : Nat → Prop} {w A B : World} {n : Nat} (hb : Below n w A) (h : KX X A B) (hn : n ≤ w.heap.size) (hX : ∀ b, X b → n ≤ b) : Below n w B :=
  hb.trans ⟨h.os, h.tape, h.output, h.size, fun b hb' => h.block b (by have := hb.size; omega) (fun hx => by have := hX b hx; omega)⟩
theorem own_kx {X : Nat → Prop} {A B : World} {base e size n : Nat} {v : Value} {xs : List Value} (h : A.ownsRow base e size v n xs) (hk : KX X A B) (hx : ∀ g, v.ownBlock = some g → ¬ X g) : B.ownsRow base e size v n xs := by
  refine ⟨h.1, ?_⟩
  rcases h.2 with h2 | ⟨g, cap, cur, h1, h2, h3, h4⟩
  · exact .inl h2
  · exact .inr ⟨g, cap, cur, h1, h2, (hk.block g (Array.getElem?_eq_some_iff.1 h3).1 (hx g (by rw [h1]; rfl))).trans h3, h4⟩
/-- What a round keeps: what lay below n0, and the blocks T. -/
def KT (n0 : Nat) (T : Nat → Prop) (A B : World) : Prop := A.heap.size ≤ B.heap.size ∧ ∀ b, b < A.heap.size → (b < n0 ∨ T b) → B.heap[b]? = A.heap[b]?
theorem KT.refl (n0 : Nat) (T : Nat → Prop) (A : World) : KT n0 T A A := ⟨Nat.le_refl _, fun _ _ _ => rfl⟩
theorem KT.trans {n0 : Nat} {T : Nat → Prop} {A B C : World} (h : KT n0 T A B) (k : KT n0 T B C) : KT n0 T A C :=
  ⟨Nat.le_trans h.1 k.1, fun b hb ht => (k.2 b (Nat.lt_of_lt_of_le hb h.1) ht).trans (h.2 b hb ht)⟩
theorem KT.below {n0 : Nat} {T : Nat → Prop} {A B : World} (h : Below A.heap.size A B) : KT n0 T A B := ⟨h.size, fun b hb _ => h.block b hb⟩
theorem KT.setCell {n0 : Nat} {T : Nat → Prop} (A : World) {a : Addr} (v : Value) (h0 : n0 ≤ a.block) (h1 : ¬ T a.block) : KT n0 T A (A.setCell a v) :=
  ⟨by simp, fun b _ hb => Below.heap_setCell A a v b (fun e => by subst e; rcases hb with hb | hb; omega; exact h1 hb)⟩
theorem KT.grown {n0 : Nat} {T : Nat → Prop} {A B : World} {row : Option Nat} (hg : A.grownBy B row) (h0 : ∀ g, row = some g → n0 ≤ g ∧ ¬ T g) : KT n0 T A B :=
  ⟨hg.size, fun b hb hT => hg.block b hb (fun e => by obtain ⟨h1, h2⟩ := h0 b e.symm; rcases hT with h | h; omega; exact h2 h)⟩
theorem KT.cell {n0 : Nat} {T : Nat → Prop} {A B : World} (h : KT n0 T A B) {p : Addr} (hp : p.block < A.heap.size) (ht : p.block < n0 ∨ T p.block) : B.cell? p = A.cell? p := World.cell?_of_block (w := A) (h.2 _ hp ht)
theorem KT.frozen {n0 : Nat} {T : Nat → Prop} {A B : World} (h : KT n0 T A B) {p : Addr} (hp : p.block < A.heap.size) (ht : p.block < n0 ∨ T p.block) : B.frozen? p = A.frozen? p := World.frozen?_of_block (w := A) (h.2 _ hp ht)
theorem KT.drew {n0 : Nat} {T : Nat → Prop} {A B : World} (h : KT n0 T A B) : KT n0 T A B.drew := h
theorem KX.frozen {X : Nat → Prop} {A B : World} (h : KX X A B) {p : Addr} (hp : p.block < A.heap.size) (hx : ¬ X p.block) : B.frozen? p = A.frozen? p := World.frozen?_of_block (w := A) (h.block _ hp hx)
/-- What an iterator is that makes blocks of its own (T) before it yields, and may write the blocks X between two rounds. -/
def IterT {α : Type} (P : Program) (gf : Nat) (lb : Array Value) (encs : α → Array Value) (n0 m0 : Nat) (X : Nat → Prop) (S Sp : List α → Prop) (W : World) : Prop :=
  ∀ (l : Nat) (J : (Nat → Prop) → List α → World → Prop) (Jx : List α → World → Prop), (∀ T pre A B, J T pre A → KX X A B → J T pre B) → (∀ pre A B, Jx pre A → KX X A B → Jx pre B) →
    (∀ T, (∀ b, T b → m0 ≤ b) → ∀ pre x W1, Sp (pre ++ [x]) → J T pre W1 → YieldAt Fence.wide 3 P l (encs x) W1 fun e W' =>
      (e = .returned (.bool true) ∧ J T (pre ++ [x]) W' ∧ KT n0 T W1 W') ∨ (e = .returned (.bool false) ∧ Jx (pre ++ [x]) W')) →
    (∀ T B, (∀ b, T b → m0 ≤ b ∧ b < B.heap.size) → KX X W B → J T [] B) →
    Calls P gf (#[.func (.yield l) #[] #[]] ++ lb) W fun e W' => (∃ v, e = .returned v) ∧ ((∃ xs T, S xs ∧ J T xs W') ∨ (∃ pre, Sp pre ∧ Jx pre W'))
/-- Where a round may end. -/
def tPost {α : Type} (n0 : Nat) (T : Nat → Prop) (I : (Nat → Prop) → List α → World → Prop) (Ix : Code → List α → World → Prop) (xs : List α) (W : World) : Exit → Act → World → Prop
  | .normal, _, W' => KT n0 T W W' ∧ I T xs W'
  | .ret, _, W' => KT n0 T W W' ∧ Ix .ret xs W'
  | .exit id, _, W' => KT n0 T W W' ∧ Ix (.exit id) xs W'
  | .goto t, _, W' => KT n0 T W W' ∧ Ix (.goto t) xs W'
  | .panic _, _, _ => False
  | .outgrown, _, _ => False

/-- THE STATEMENT'S LAW. -/
theorem range_lawT {α : Type} {P : Program} {g : Operand} {ps : Array Tmp} {assign body : Code} {Q : Exit → Act → World → Prop} {a : Act} {w : World} {gf : Nat} {lb : Array Value}
    (hg : a.eval g = .func (.func gf) #[] lb) (eg : ∀ args w, (callFunc gf args).run P w = .ok (.enter gf args) w) {encs : α → Array Value} (hps : ∀ x, (encs x).size = ps.size) {n0 m0 : Nat} {X : Nat → Prop} {S Sp : List α → Prop} (hm0 : m0 ≤ w.heap.size) (hX : ∀ b, X b → b < w.heap.size)
    (hseq : ∀ W, Below w.heap.size w W → IterT P gf lb encs n0 m0 X S Sp W)
    (I : (Nat → Prop) → List α → World → Prop) (Ix : Code → List α → World → Prop) (hI : ∀ T pre A B, I T pre A → KX (fun b => X b ∨ T b) A B → I T pre B) (hIx : ∀ c pre A B, Ix c pre A → KX (fun b => X b ∨ b = w.heap.size ∨ b = w.heap.size + 1) A B → Ix c pre B)
    (h0 : ∀ T B, (∀ b, T b → m0 ≤ b ∧ b < B.heap.size) → KX X w B → I T [] B) (a₁ : α → Act)
    (hassign : ∀ (l : Nat) (x : α) (W : World) (K : Act → World → Prop), K (a₁ x) W →
      assign.wpIn (Fence.wide.inRound l) 3 P (Exit.then K (fun _ _ _ => False)) { tmps := (ps.zip (encs x)).foldl (fun t (p, v) => t.setIfInBounds p v) a.tmps, defers := [] } W)
    (hbody : ∀ (T : Nat → Prop), (∀ b, T b → m0 ≤ b) → ∀ (l : Nat) (pre : List α) (x : α) (W : World), Sp (pre ++ [x]) → I T pre W → body.wpIn (Fence.wide.inRound l) 3 P (tPost n0 T I Ix (pre ++ [x]) W) (a₁ x) W)
    (hdone : ∀ (D : Nat) (T : Nat → Prop) (xs : List α) (W : World), w.heap.size ≤ D → T D → S xs → I T xs W → W.heap[D]? = some (.deferred (some [])) → Q .normal { a with defers := { target := .collected D, args := #[] } :: a.defers } W)
    (hstop : ∀ (D : Nat) (c : Code) (pre : List α) (W : World), w.heap.size ≤ D → Sp pre → Ix c pre W → W.heap[D]? = some (.deferred (some [])) → c.wp P Q { a with defers := { target := .collected D, args := #[] } :: a.defers } W) :
    (Code.rangeFunc g ps assign body).wp P Q a w := by
  refine (wpIn_wide (n := 5)).1 (wpIn_rangeFunc fun fn hfn => ?_)
  have hr0 : Fence.wide.round = none := rfl
  rw [hr0]
  generalize hN : w.heap.size = N at *
  obtain ⟨rc, hrc⟩ : ∃ rc : LoopState → Option Code → Loop, rc = fun st pe => { state := st, pending := pe, fn, tmps := a.tmps, params := ps, assign, body, defers := N } := ⟨_, rfl⟩
  obtain ⟨V, hV⟩ : ∃ V, (w.alloc (.deferred (some []))).alloc (.loop (rc .ready none)) = V := ⟨_, rfl⟩
  have hVs : V.heap.size = N + 2 := by rw [← hV]; simp [hN]
  have hbV : Below N w V := by rw [← hV]; exact ((Below.refl N w).alloc (by omega) _).alloc (by simp; omega) _
  have hVl : V.heap[N + 1]? = some (.loop (rc .ready none)) := by
    rw [← hV]
    have h1 := World.alloc_heap_new (w.alloc (.deferred (some []))) (.loop (rc .ready none))
    rwa [World.size_alloc, hN] at h1
  have hVd : V.heap[N]? = some (.deferred (some [])) := by
    rw [← hV]
    have h1 := World.alloc_heap_new w (.deferred (some []))
    rw [hN] at h1
    exact (Below.heap_alloc _ _ N (by simp; omega)).trans h1
  -- the blocks of the loop itself
  obtain ⟨U, hU⟩ : ∃ U : (Nat → Prop) → Nat → Prop, U = fun T b => T b ∨ b = N ∨ b = N + 1 := ⟨_, rfl⟩
  have hUm : ∀ T : Nat → Prop, (∀ b, T b → m0 ≤ b) → ∀ b, U T b → m0 ≤ b := by
    intro T hT b hb
    rw [hU] at hb
    rcases hb with hb | rfl | rfl
    · exact hT b hb
    · exact hm0
    · omega
  have hUN : ∀ T, U T N ∧ U T (N + 1) := fun T => by rw [hU]; exact ⟨.inr (.inl rfl), .inr (.inr rfl)⟩
  refine ⟨N + 1, [{ target := .collected N, args := #[] }], V, { target := .fn (.func gf) lb, args := #[.func (.yield (N + 1)) #[] #[]] }, V, gf, #[.func (.yield (N + 1)) #[] #[]] ++ lb, V, ?_, ?_, fun _ _ => trivial, ?_, fun _ => by decide, ?_⟩
  · have h1 := run_enterLoop_outer (P := P) (w := w) fn a.tmps ps assign body
    rw [hN] at h1
    rw [← hV, hrc]
    exact h1
  · simp only [resolve, hg]
    simp [go_sem]
  · simp [invoke, go_sem, eg]
  · refine callsIn_wide.2 ((hseq V hbV (N + 1)
      (fun T pre W => I (U T) pre W ∧ W.heap[N + 1]? = some (.loop (rc .ready none)) ∧ W.heap[N]? = some (.deferred (some [])))
      (fun pre W => ∃ c, Ix c pre W ∧ W.heap[N + 1]? = some (.loop (rc .done (some c))) ∧ W.heap[N]? = some (.deferred (some [])))
      (fun T pre A B h hb => by
        have l1 := (Array.getElem?_eq_some_iff.1 h.2.1).1
        exact ⟨hI _ pre A B h.1 (hb.wide fun _ => Or.inl), (hb.block _ l1 (fun hx => by have := hX _ hx; omega)).trans h.2.1, (hb.block _ (by omega) (fun hx => by have := hX _ hx; omega)).trans h.2.2⟩)
      (fun pre A B h hb => by
        obtain ⟨c, h1, h2, h3⟩ := h
        have l1 := (Array.getElem?_eq_some_iff.1 h2).1
        exact ⟨c, hIx c pre A B h1 (hb.wide fun _ => Or.inl), (hb.block _ l1 (fun hx => by have := hX _ hx; omega)).trans h2, (hb.block _ (by omega) (fun hx => by have := hX _ hx; omega)).trans h3⟩)
      ?_ ?_).mono ?_)
    · rintro T hT pre x W hsp ⟨hi, hl, hd⟩
      have hlt : N + 1 < W.heap.size := (Array.getElem?_eq_some_iff.1 hl).1
      have hy := run_yield (P := P) (args := encs x) hl (by rw [hrc]; exact hps x)
      rw [hrc] at hy
      refine ⟨fn, _, assign, body, hy, roundIn_of_wpIn hfn (hassign _ x W _ ?_)⟩
      refine ⟨_, run_beginRound hl (by rw [hrc]), ?_⟩
      generalize hX' : W.putObj (N + 1) (.loop { rc .ready none with state := .busy }) = Y0
      have hXl : Y0.heap[N + 1]? = some (.loop { rc .ready none with state := .busy }) := by rw [← hX']; exact World.putObj_heap_same hlt
      have hXo : ∀ b, b ≠ N + 1 → Y0.heap[b]? = W.heap[b]? := fun b hb => by rw [← hX']; exact World.putObj_heap_other hb
      have hXs : Y0.heap.size = W.heap.size := by rw [← hX']; simp
      have hiX : I (U T) pre Y0 := by rw [← hX']; exact hI _ _ _ _ hi (KX.putObj W (X := fun b => X b ∨ U T b) (.inr (hUN T).2) _)
      refine wpIn_mono (hbody (U T) (hUm T hT) _ pre x Y0 hsp hiX) ?_
      have fin : ∀ (jump : Option Code) (Y : World), KT n0 (U T) Y0 Y →
          (Instr.endRound (N + 1) jump).run P Y = .ok (.bool jump.isNone) (Y.putObj (N + 1) (.loop (rc (if jump.isNone then .ready else .done) jump))) ∧
          (Y.putObj (N + 1) (.loop (rc (if jump.isNone then .ready else .done) jump))).heap[N + 1]? = some (.loop (rc (if jump.isNone then .ready else .done) jump)) ∧
          (Y.putObj (N + 1) (.loop (rc (if jump.isNone then .ready else .done) jump))).heap[N]? = some (.deferred (some [])) := fun jump Y hk => by
        have h1 : Y.heap[N + 1]? = some (.loop { rc .ready none with state := .busy }) := (hk.2 _ (by omega) (.inr (hUN T).2)).trans hXl
        have h2 := run_endRound (P := P) jump h1
        rw [hrc] at h2 ⊢
        exact ⟨h2, World.putObj_heap_same (Array.getElem?_eq_some_iff.1 h1).1, (World.putObj_heap_other (by omega)).trans ((hk.2 N (by omega) (.inr (hUN T).1)).trans ((hXo N (by omega)).trans hd))⟩
      rintro e a3 Y hp
      cases e with
      | normal =>
        obtain ⟨hk, hi3⟩ := hp
        obtain ⟨f1, f2, f3⟩ := fin none Y hk
        refine ⟨_, _, f1, .inl ⟨rfl, ⟨hI _ _ _ _ hi3 (KX.putObj Y (X := fun b => X b ∨ U T b) (.inr (hUN T).2) _), f2, f3⟩, by simp; have := hk.1; omega, fun b hbs hb => ?_⟩⟩
        by_cases hb1 : b = N + 1
        · subst hb1
          exact f2.trans hl.symm
        · refine (World.putObj_heap_other hb1).trans ((hk.2 b (by omega) ?_).trans (hXo b hb1))
          rcases hb with hb | hb
          · exact .inl hb
          · exact .inr (by rw [hU]; exact .inl hb)
      | ret =>
        obtain ⟨hk, hi3⟩ := hp
        obtain ⟨f1, f2, f3⟩ := fin (some .ret) Y hk
        exact ⟨_, _, f1, .inr ⟨rfl, .ret, hIx _ _ _ _ hi3 (KX.putObj Y (.inr (.inr rfl)) _), f2, f3⟩⟩
      | exit id =>
        obtain ⟨hk, hi3⟩ := hp
        obtain ⟨f1, f2, f3⟩ := fin (some (.exit id)) Y hk
        exact ⟨_, _, f1, .inr ⟨rfl, .exit id, hIx _ _ _ _ hi3 (KX.putObj Y (.inr (.inr rfl)) _), f2, f3⟩⟩
      | goto t =>
        obtain ⟨hk, hi3⟩ := hp
        obtain ⟨f1, f2, f3⟩ := fin (some (.goto t)) Y hk
        exact ⟨_, _, f1, .inr ⟨rfl, .goto t, hIx _ _ _ _ hi3 (KX.putObj Y (.inr (.inr rfl)) _), f2, f3⟩⟩
      | panic ch => exact hp.elim
      | outgrown => exact hp.elim
    · intro T B hT hk
      have hwV : KX X w V := ⟨hbV.os, hbV.tape, hbV.output, hbV.size, fun b hb _ => hbV.block b (by omega)⟩
      refine ⟨h0 (U T) B (fun b hb => ?_) (hwV.trans hk), (hk.block _ (by omega) (fun hx => by have := hX _ hx; omega)).trans hVl, (hk.block _ (by omega) (fun hx => by have := hX _ hx; omega)).trans hVd⟩
      have hs := hk.size
      rw [hU] at hb
      rcases hb with hb | rfl | rfl
      · exact hT b hb
      · omega
      · omega
    · rintro e Y ⟨⟨v, rfl⟩, (⟨xs, T, hS, hi, hl, hd⟩ | ⟨pre, hSp, c, hi, hl, hd⟩)⟩
      · exact ⟨none, _, by have h1 := run_endLoop (P := P) hl (by rw [hrc]; simp); rw [hrc] at h1; exact h1, hdone N (U T) xs _ (Nat.le_refl _) (hUN T).1 hS (hI _ _ _ _ hi (KX.putObj Y (X := fun b => X b ∨ U T b) (.inr (hUN T).2) _)) ((World.putObj_heap_other (by omega)).trans hd)⟩
      · exact ⟨some c, _, by have h1 := run_endLoop (P := P) hl (by rw [hrc]; simp); rw [hrc] at h1; exact h1, wpIn_wide.2 (hstop N c pre _ (Nat.le_refl _) hSp (hIx _ _ _ _ hi (KX.putObj Y (.inr (.inr rfl)) _)) ((World.putObj_heap_other (by omega)).trans hd))⟩
end Go.Proofs.Ytakolehlaejhfaa
