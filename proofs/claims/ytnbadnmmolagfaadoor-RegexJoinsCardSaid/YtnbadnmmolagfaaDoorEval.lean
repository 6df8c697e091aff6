/- A reckoner for code without memory: what a call of a function does whose arguments are written out, in whatever world; sound for 'Calls'. Loops are unrolled, callees are entered; where an operation asks the tape, writes, or draws its order it gives none. -/
import Derived.Test.YtnbadnmmolagfaaDoorKit
import Derived.LoopN
namespace Go.Proofs.YtnbadnmmolagfaaDoor
open Go.RowKit

section
variable (P : Program) (call : FuncId → Array Value → World → Option (Value × World))

def evOps (ops : Array Oper) : List Nat → Act → World → Option (Exit × Act × World)
  | [], a, w => some (.normal, a, w)
  | i :: rest, a, w =>
    match ops[i]? with
    | Option.none => evOps ops rest a w
    | some o =>
      if Region.wanted o (yielded ops a.tmps) then
        match (execOp a.eval o).run P w with
        | .ok (.value v) w' => evOps ops rest (a.put o.dst v) w'
        | .ok .skip w' => evOps ops rest (a.put o.dst undef) w'
        | .ok (.enter f args) w' =>
          match call f args w' with
          | some (v, w'') => evOps ops rest (a.put o.dst v) w''
          | Option.none => Option.none
        | _ => Option.none
      else evOps ops rest (a.put o.dst undef) w

def evLoop (f : Act → World → Option (Exit × Act × World)) : Nat → Act → World → Option (Exit × Act × World)
  | 0, _, _ => Option.none
  | n + 1, a, w =>
    match f a w with
    | some (.normal, a', w') => evLoop f n a' w'
    | r => r

def evCode (n : Nat) : Code → Act → World → Option (Exit × Act × World)
  | .skip, a, w => some (.normal, a, w)
  | .exit id, a, w => some (.exit id, a, w)
  | .ret, a, w => some (.ret, a, w)
  | .seq x y, a, w =>
    match evCode n x a w with
    | some (.normal, a', w') => evCode n y a' w'
    | r => r
  | .cond c x y, a, w =>
    match a.eval c with
    | .bool true => evCode n x a w
    | .bool false => evCode n y a w
    | _ => Option.none
  | .block id x, a, w =>
    match evCode n x a w with
    | some (.exit i, a', w') => if i = id then some (.normal, a', w') else some (.exit i, a', w')
    | r => r
  | .loop x, a, w => evLoop (evCode n x) n a w
  | .region _ ops false, a, w => evOps P call ops (List.range ops.size) a w
  | _, _, _ => Option.none

end

/-- What is asked of the callees' answers. -/
def CallsOk (P : Program) (call : FuncId → Array Value → World → Option (Value × World)) : Prop :=
  ∀ f args w v w', call f args w = some (v, w') → Calls P f args w fun e w'' => e = .returned v ∧ w' = w''

section
variable {P : Program} {call : FuncId → Array Value → World → Option (Value × World)}

theorem evOps_sound (hc : CallsOk P call) {ops : Array Oper} {Q : Exit → Act → World → Prop} : ∀ (l : List Nat) (a : Act) (w : World) (e : Exit) (a' : Act) (w' : World),
    evOps P call ops l a w = some (e, a', w') → Q e a' w' → wpOps P ops Q l a w
  | [], a, w, e, a', w', h, hq => by
    simp only [evOps, Option.some.injEq, Prod.mk.injEq] at h
    obtain ⟨rfl, rfl, rfl⟩ := h
    exact hq
  | i :: rest, a, w, e, a', w', h, hq => by
    unfold evOps at h
    unfold wpOps
    cases ho : ops[i]? with
    | none => simp only [ho] at h; exact evOps_sound hc rest a w e a' w' h hq
    | some o =>
      simp only [ho] at h
      by_cases hw : Region.wanted o (yielded ops a.tmps) = true
      · simp only [hw, if_true] at h ⊢
        refine .inl ?_
        unfold Oper.wp
        cases hr : (execOp a.eval o).run P w with
        | halt x w1 => simp only [hr] at h; cases h
        | ok n w1 =>
          cases n with
          | value v => simp only [hr] at h; exact evOps_sound hc rest _ _ e a' w' h hq
          | skip => simp only [hr] at h; exact evOps_sound hc rest _ _ e a' w' h hq
          | enter f args =>
            simp only [hr] at h
            cases hcall : call f args w1 with
            | none => simp only [hcall] at h; cases h
            | some p =>
              obtain ⟨v, w2⟩ := p
              simp only [hcall] at h
              refine (hc f args w1 v w2 hcall).mono ?_
              rintro e1 w3 ⟨rfl, rfl⟩
              exact evOps_sound hc rest _ _ e a' w' h hq
          | _ => simp only [hr] at h; cases h
      · simp only [hw] at h ⊢
        exact evOps_sound hc rest _ _ e a' w' (by simpa using h) hq

theorem evLoop_sound {c : Code} {f : Act → World → Option (Exit × Act × World)} {Q : Exit → Act → World → Prop}
    (hf : ∀ (Q' : Exit → Act → World → Prop) a w e a' w', f a w = some (e, a', w') → Q' e a' w' → c.wp P Q' a w) : ∀ (n : Nat) (a : Act) (w : World) (e : Exit) (a' : Act) (w' : World),
    evLoop f n a w = some (e, a', w') → Q e a' w' → Code.rounds P c Q n a w
  | 0, _, _, _, _, _, h, _ => by simp [evLoop] at h
  | n + 1, a, w, e, a', w', h, hq => by
    rw [rounds_succ]
    unfold evLoop at h
    cases hr : f a w with
    | none => rw [hr] at h; cases h
    | some p =>
      obtain ⟨x, a1, w1⟩ := p
      rw [hr] at h
      cases x with
      | normal => exact hf _ a w _ _ _ hr (evLoop_sound hf n a1 w1 e a' w' h hq)
      | _ =>
        simp only [Option.some.injEq, Prod.mk.injEq] at h
        obtain ⟨rfl, rfl, rfl⟩ := h
        exact hf _ a w _ _ _ hr hq

theorem evCode_sound (hc : CallsOk P call) (n : Nat) : ∀ (c : Code) (Q : Exit → Act → World → Prop) (a : Act) (w : World) (e : Exit) (a' : Act) (w' : World),
    evCode P call n c a w = some (e, a', w') → Q e a' w' → c.wp P Q a w := by
  intro c
  induction c with
  | skip =>
    intro Q a w e a' w' h hq
    simp only [evCode, Option.some.injEq, Prod.mk.injEq] at h
    obtain ⟨rfl, rfl, rfl⟩ := h
    exact wp_skip hq
  | exit id =>
    intro Q a w e a' w' h hq
    simp only [evCode, Option.some.injEq, Prod.mk.injEq] at h
    obtain ⟨rfl, rfl, rfl⟩ := h
    exact wp_exit hq
  | ret =>
    intro Q a w e a' w' h hq
    simp only [evCode, Option.some.injEq, Prod.mk.injEq] at h
    obtain ⟨rfl, rfl, rfl⟩ := h
    exact wp_ret hq
  | seq x y ihx ihy =>
    intro Q a w e a' w' h hq
    refine wp_seq ?_
    unfold evCode at h
    cases hr : evCode P call n x a w with
    | none => rw [hr] at h; cases h
    | some p =>
      obtain ⟨e1, a1, w1⟩ := p
      rw [hr] at h
      cases e1 with
      | normal => exact ihx _ a w _ _ _ hr (ihy Q a1 w1 e a' w' h hq)
      | _ =>
        simp only [Option.some.injEq, Prod.mk.injEq] at h
        obtain ⟨rfl, rfl, rfl⟩ := h
        exact ihx _ a w _ _ _ hr hq
  | cond c x y ihx ihy =>
    intro Q a w e a' w' h hq
    unfold evCode at h
    cases hv : a.eval c with
    | bool b =>
      rw [hv] at h
      cases b with
      | true => exact wp_cond_true hv (ihx Q a w e a' w' h hq)
      | false => exact wp_cond_false hv (ihy Q a w e a' w' h hq)
    | _ => rw [hv] at h; cases h
  | block id x ihx =>
    intro Q a w e a' w' h hq
    refine wp_block ?_
    unfold evCode at h
    cases hr : evCode P call n x a w with
    | none => rw [hr] at h; cases h
    | some p =>
      obtain ⟨e1, a1, w1⟩ := p
      rw [hr] at h
      refine ihx _ a w _ _ _ hr ?_
      cases e1 with
      | exit i =>
        simp only at h
        by_cases hi : i = id
        · rw [if_pos hi] at h
          simp only [Option.some.injEq, Prod.mk.injEq] at h
          obtain ⟨rfl, rfl, rfl⟩ := h
          simp only [Exit.inBlock, hi, if_true]
          exact hq
        · rw [if_neg hi] at h
          simp only [Option.some.injEq, Prod.mk.injEq] at h
          obtain ⟨rfl, rfl, rfl⟩ := h
          simp only [Exit.inBlock, hi, if_false]
          exact hq
      | _ =>
        simp only [Option.some.injEq, Prod.mk.injEq] at h
        obtain ⟨rfl, rfl, rfl⟩ := h
        exact hq
  | loop x ihx =>
    intro Q a w e a' w' h hq
    unfold evCode at h
    exact wp_loop_rounds n (evLoop_sound (fun Q' a w e a' w' => ihx Q' a w e a' w') n a w e a' w' h hq)
  | region id ops draw =>
    intro Q a w e a' w' h hq
    cases draw with
    | true => unfold evCode at h; cases h
    | false =>
      unfold evCode at h
      exact wp_region (evOps_sound hc _ a w e a' w' h hq)
  | _ => intro Q a w e a' w' h; unfold evCode at h; cases h

end

/-- The one slot that holds the one result. -/
def oneTmp (r : Array ResultVar) : Option Tmp :=
  match r.toList with
  | [.tmp t] => some t
  | _ => Option.none
theorem oneTmp_eq {r : Array ResultVar} {t : Tmp} (h : oneTmp r = some t) : r = #[.tmp t] := by
  unfold oneTmp at h
  split at h
  · rename_i t' he
    injection h with h
    subst h
    apply Array.ext'
    simpa using he
  · cases h

/-- What a body's end hands back. -/
def evEnd (fn : Func) : Exit → Act → World → Option (Value × World)
  | .ret, ⟨tmps, []⟩, w => (oneTmp fn.results).map fun t => (tmps.getD t undef, w)
  | .normal, ⟨tmps, []⟩, w => (oneTmp fn.results).map fun t => (tmps.getD t undef, w)
  | _, _, _ => Option.none
theorem evEnd_sound {P : Program} {fn : Func} {e : Exit} {a : Act} {w w' : World} {v : Value} (h : evEnd fn e a w = some (v, w')) : bodyPost P fn (fun e w'' => e = .returned v ∧ w' = w'') e a w := by
  obtain ⟨tmps, ds⟩ := a
  have fin : ∀ t : Tmp, oneTmp fn.results = some t → (tmps.getD t undef, w) = (v, w') → ds = [] → ds = [] ∧ ∃ u, (results fn tmps).run P w = .ok u w ∧ Ending.returned u = .returned v ∧ w' = w := by
    intro t ht hv hd
    injection hv with hv hw
    exact ⟨hd, _, results_tmp (oneTmp_eq ht) tmps P w, by rw [hv], hw.symm⟩
  cases e with
  | ret =>
    cases ds with
    | nil =>
      simp only [evEnd, Option.map_eq_some_iff] at h
      obtain ⟨t, ht, hv⟩ := h
      exact fin t ht hv rfl
    | cons d l => simp [evEnd] at h
  | normal =>
    cases ds with
    | nil =>
      simp only [evEnd, Option.map_eq_some_iff] at h
      obtain ⟨t, ht, hv⟩ := h
      exact fin t ht hv rfl
    | cons d l => simp [evEnd] at h
  | _ => simp [evEnd] at h

/-- A call: the function's body, its one result out of a slot. -/
def evCall (P : Program) (n : Nat) : Nat → FuncId → Array Value → World → Option (Value × World)
  | 0, _, _, _ => Option.none
  | k + 1, f, args, w =>
    match P.funcs[f]? with
    | some fn =>
      match fn.body with
      | some c =>
        match evCode P (evCall P n k) n c { tmps := args ++ Array.replicate (fn.ntmps - args.size) undef, defers := [] } w with
        | some (e, a, w') => evEnd fn e a w'
        | Option.none => Option.none
      | Option.none => Option.none
    | Option.none => Option.none

theorem evCall_sound (P : Program) (n : Nat) : ∀ k, CallsOk P (evCall P n k)
  | 0 => fun f args w v w' h => by simp [evCall] at h
  | k + 1 => fun f args w v w' h => by
    have ih := evCall_sound P n k
    unfold evCall at h
    cases hf : P.funcs[f]? with
    | none => rw [hf] at h; cases h
    | some fn =>
      rw [hf] at h
      cases hb : fn.body with
      | none => simp only [hb] at h; cases h
      | some c =>
        simp only [hb] at h
        cases hr : evCode P (evCall P n k) n c { tmps := args ++ Array.replicate (fn.ntmps - args.size) undef, defers := [] } w with
        | none => simp only [hr] at h; cases h
        | some p =>
          obtain ⟨e1, a1, w1⟩ := p
          simp only [hr] at h
          exact calls_of_wp hf hb (evCode_sound ih n c _ _ w e1 a1 w1 hr (evEnd_sound h))

/-- A call whose answer the kernel reckons. -/
theorem calls_ev {P : Program} {f : FuncId} {args : Array Value} {w : World} {v : Value} (n k : Nat) (h : evCall P n k f args w = some (v, w)) :
    Calls P f args w fun e w' => e = .returned v ∧ w = w' := evCall_sound P n k f args w v w h
end Go.Proofs.YtnbadnmmolagfaaDoor
