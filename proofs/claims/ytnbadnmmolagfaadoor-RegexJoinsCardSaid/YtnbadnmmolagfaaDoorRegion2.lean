/- A region that draws its order: loads, a chain, a store that waits for all, itself or through another operation. -/
import Derived.Test.YtnbadnmmolagfaaDoorRegion
namespace Go.Proofs.YtnbadnmmolagfaaDoor
set_option linter.unusedVariables false

section
variable {P : Program} {md : Region.Mode}
/-- What is listed is listed with all that it waits for. -/
def ClosedL (md : Region.Mode) (init : Array Oper) (listed : Array Bool) : Prop := ∀ i oi, init[i]? = some oi → listed.getD i false = true → ∀ e ∈ oi.after, Region.binds md e = true → listed.getD e.on false = true
theorem closed_none {init : Array Oper} {n : Nat} : ClosedL md init (Array.replicate n false) := by
  intro i oi _ h
  by_cases hn : i < n <;> simp [Array.getD, hn] at h
/-- THE LAST OPERATION OF A REGION, which all others come ahead of, itself or through another one. -/
theorem wpAny_sink2 {init : Array Oper} {o : Oper} {Q : Exit → Act → World → Prop} (hd : o.dst = none) (hg : o.guard = none)
    (h1 : ∀ i oi, init[i]? = some oi → ∀ e ∈ oi.after, Region.binds md e = true → e.on < i)
    (h2 : ∀ j, j < init.size → (∃ e ∈ o.after, Region.binds md e = true ∧ e.on = j) ∨ ∃ q oq, init[q]? = some oq ∧ (∃ e ∈ oq.after, Region.binds md e = true ∧ e.on = j) ∧ (∃ e ∈ o.after, Region.binds md e = true ∧ e.on = q))
    (h3 : ∀ e ∈ o.after, Region.binds md e = true → e.on < init.size) :
    ∀ (fuel : Nat) (listed : Array Bool) (a : Act) (w : World), listed.size = init.size → ClosedL md init listed → wpAny P md init (sinkQ P o Q) fuel listed a w → wpAny P md (init.push o) Q (fuel + 1) (listed.push false) a w := by
  have hw : ∀ ops t, Region.wanted o (yielded ops t) = true := fun ops t => by simp [Region.wanted, hg]
  -- nothing is ready: all are listed
  have hall : ∀ listed : Array Bool, listed.size = init.size → Region.ready md init listed = [] → ∀ j, j < init.size → listed.getD j true = true := by
    intro listed hs hr
    intro j
    induction j using Nat.strongRecOn with
    | ind j ih =>
      intro hj
      cases hb : listed.getD j true with
      | true => rfl
      | false =>
        exfalso
        have : j ∈ Region.ready md init listed := mem_ready.2 ⟨hb, init[j], by simp [hj], fun e he hbd => by
          have hlt := h1 j init[j] (by simp [hj]) e he hbd
          have := ih e.on hlt (by omega)
          have hl : e.on < listed.size := by omega
          simp [Array.getD, hl] at this ⊢
          exact this⟩
        rw [hr] at this
        cases this
  have tf : ∀ (listed : Array Bool) (j : Nat), j < listed.size → (listed.getD j true = true ↔ listed.getD j false = true) := fun listed j hj => by simp [Array.getD, hj]
  -- the last is ready just where all are listed
  have hlast : ∀ listed : Array Bool, listed.size = init.size → ClosedL md init listed → init.size ∈ Region.ready md (init.push o) (listed.push false) → Region.ready md init listed = [] := by
    intro listed hs hcl hm
    obtain ⟨_, o', ho', hall'⟩ := mem_ready.1 hm
    rw [push_last] at ho'
    cases ho'
    rw [List.eq_nil_iff_forall_not_mem]
    intro j hj
    obtain ⟨hu, oj, hoj, _⟩ := mem_ready.1 hj
    have hjl := (Array.getElem?_eq_some_iff.1 hoj).1
    rcases h2 j hjl with ⟨e, he, hb, hon⟩ | ⟨q, oq, hoq, ⟨e1, he1, hb1, hon1⟩, e, he, hb, hon⟩
    · have := hall' e he hb
      rw [hon, getD_push_lt (by omega)] at this
      rw [(tf listed j (by omega)).2 this] at hu
      cases hu
    · have hql := (Array.getElem?_eq_some_iff.1 hoq).1
      have := hall' e he hb
      rw [hon, getD_push_lt (by omega)] at this
      have h4 := hcl q oq hoq this e1 he1 hb1
      rw [hon1] at h4
      rw [(tf listed j (by omega)).2 h4] at hu
      cases hu
  have hlast' : ∀ listed : Array Bool, listed.size = init.size → Region.ready md init listed = [] → init.size ∈ Region.ready md (init.push o) (listed.push false) := by
    intro listed hs hr
    refine mem_ready.2 ⟨by rw [← hs]; exact getD_push_last, o, push_last, fun e he hb => ?_⟩
    have hlt := h3 e he hb
    rw [getD_push_lt (by omega)]
    exact (tf listed _ (by omega)).1 (hall listed hs hr _ hlt)
  have hother : ∀ (listed : Array Bool) (j : Nat), listed.size = init.size → j ≠ init.size → j ∈ Region.ready md (init.push o) (listed.push false) → j ∈ Region.ready md init listed := by
    intro listed j hs hne hm
    obtain ⟨hu, oj, hoj, hall'⟩ := mem_ready.1 hm
    have hjl : j < init.size := by
      have := (Array.getElem?_eq_some_iff.1 hoj).1
      simp at this
      omega
    rw [push_get hjl] at hoj
    rw [getD_push_lt (by omega)] at hu
    refine mem_ready.2 ⟨hu, oj, hoj, fun e he hb => ?_⟩
    have := hall' e he hb
    have hlt := h1 j oj hoj e he hb
    rwa [getD_push_lt (by omega)] at this
  have hend : ∀ (fuel : Nat) (listed : Array Bool) (a : Act) (w : World), listed.size = init.size → Region.ready md init listed = [] → Q .normal a w → wpAny P md (init.push o) Q fuel ((listed.push false).setIfInBounds init.size true) a w := by
    intro fuel listed a w hs hr hq
    have hr2 : Region.ready md (init.push o) ((listed.push false).setIfInBounds init.size true) = [] := by
      rw [List.eq_nil_iff_forall_not_mem]
      intro j hj
      obtain ⟨hu, oj, hoj, _⟩ := mem_ready.1 hj
      by_cases hjn : j = init.size
      · subst hjn
        simp [Array.getD, hs] at hu
      · have hjl : j < init.size := by
          have := (Array.getElem?_eq_some_iff.1 hoj).1
          simp at this
          omega
        rw [getD_set_ne true (Ne.symm hjn), getD_push_lt (by omega), hall listed hs hr j hjl] at hu
        cases hu
    cases fuel with
    | zero => exact ⟨hr2, hq⟩
    | succ fuel => exact ⟨fun _ => hq, by rw [hr2]; simp⟩
  have hlastOp : ∀ (fuel : Nat) (listed : Array Bool) (a : Act) (w : World), listed.size = init.size → Region.ready md init listed = [] → sinkQ P o Q .normal a w →
      wpOp P (init.push o) Q init.size (wpAny P md (init.push o) Q fuel ((listed.push false).setIfInBounds init.size true)) a w := by
    intro fuel listed a w hs hr hq
    unfold wpOp
    rw [push_last]
    simp only [hw, if_true]
    exact .inl (Oper.wp_mono (fun a' w' h => hend fuel listed a' w' hs hr h) hq)
  intro fuel
  induction fuel with
  | zero =>
    intro listed a w hs _ ⟨hr, hq⟩
    refine ⟨fun h => (by have := hlast' listed hs hr; rw [h] at this; cases this), fun i hi => ?_⟩
    by_cases hin : i = init.size
    · subst hin
      exact hlastOp 0 listed a w hs hr hq
    · have := hother listed i hs hin hi
      rw [hr] at this
      cases this
  | succ fuel ih =>
    intro listed a w hs hcl ⟨hr0, hstep⟩
    refine ⟨fun h => ?_, fun i hi => ?_⟩
    · exfalso
      cases hr : Region.ready md init listed with
      | nil => have := hlast' listed hs hr; rw [h] at this; cases this
      | cons j rest =>
        have hj : j ∈ Region.ready md init listed := by rw [hr]; exact List.mem_cons_self
        obtain ⟨hu, oj, hoj, hall'⟩ := mem_ready.1 hj
        have hjl := (Array.getElem?_eq_some_iff.1 hoj).1
        have : j ∈ Region.ready md (init.push o) (listed.push false) := mem_ready.2 ⟨by rw [getD_push_lt (by omega)]; exact hu, oj, by rw [push_get hjl]; exact hoj, fun e he hb => by
          have hlt := h1 j oj hoj e he hb
          rw [getD_push_lt (by omega)]
          exact hall' e he hb⟩
        rw [h] at this
        cases this
    · by_cases hin : i = init.size
      · subst hin
        have hr := hlast listed hs hcl hi
        exact hlastOp (fuel + 1) listed a w hs hr (hr0 hr)
      · have hm := hother listed i hs hin hi
        have hst := hstep i hm
        obtain ⟨_, oi, hoi, hdeps⟩ := mem_ready.1 hm
        have hcl2 : ClosedL md init (listed.setIfInBounds i true) := by
          intro k ok hok hk e he hb
          by_cases hki : k = i
          · subst hki
            rw [hoi] at hok
            cases hok
            have := hdeps e he hb
            by_cases hei : e.on = k
            · rw [hei]; simp [Array.getD, show k < listed.size by have := (Array.getElem?_eq_some_iff.1 hoi).1; omega]
            · rw [getD_set_ne false (Ne.symm hei)]; exact this
          · rw [getD_set_ne false (Ne.symm hki)] at hk
            have := hcl k ok hok hk e he hb
            by_cases hei : e.on = i
            · rw [hei]; simp [Array.getD, show i < listed.size by have := (Array.getElem?_eq_some_iff.1 hoi).1; omega]
            · rw [getD_set_ne false (Ne.symm hei)]; exact this
        have hil := (Array.getElem?_eq_some_iff.1 hoi).1
        unfold wpOp at hst ⊢
        rw [push_get hil, hoi]
        rw [hoi] at hst
        simp only [yielded_push hd] at hst ⊢
        have hset : (listed.push false).setIfInBounds i true = (listed.setIfInBounds i true).push false := by
          refine Array.ext_getElem? fun k => ?_
          by_cases hk : k = listed.size
          · subst hk
            have e1 : ((listed.push false).setIfInBounds i true)[listed.size]? = some false := by
              rw [Array.getElem?_setIfInBounds_ne (by omega)]
              exact Array.getElem?_push_size
            have hs' : (listed.setIfInBounds i true).size = listed.size := by simp
            have e2 : ((listed.setIfInBounds i true).push false)[(listed.setIfInBounds i true).size]? = some false := Array.getElem?_push_size
            rw [hs'] at e2
            rw [e1, e2]
          · simp [Array.getElem?_setIfInBounds, Array.getElem?_push, hk]
            by_cases hki : i = k
            · subst hki; simp [show i < listed.size by omega, show i < listed.size + 1 by omega]
            · simp [hki]
        rw [hset]
        have hmono : ∀ a' w', wpAny P md init (sinkQ P o Q) fuel (listed.setIfInBounds i true) a' w' → wpAny P md (init.push o) Q (fuel + 1) ((listed.setIfInBounds i true).push false) a' w' := fun a' w' h => ih _ a' w' (by simpa using hs) hcl2 h
        split
        · rename_i hwt
          simp only [hwt, if_true] at hst
          rcases hst with hst | ⟨ha, hl⟩
          · exact .inl (Oper.wp_mono hmono (by rw [Oper.wp_sink] at hst; exact hst))
          · exact .inr ⟨ha, by rwa [letsOut_sink] at hl⟩
        · rename_i hwt
          simp only [hwt] at hst
          exact hmono _ _ hst


variable {ops : Array Oper} {S : World → Prop} {Q : Exit → Act → World → Prop}
def sinkB2 (md : Region.Mode) (init : Array Oper) (o : Oper) : Bool :=
  o.dst.isNone && o.guard.isNone && (List.range init.size).all (fun j => (o.after.any fun e => Region.binds md e && e.on == j) || (List.range init.size).any (fun q => (init[q]?).any (fun oq => oq.after.any fun e => Region.binds md e && e.on == j) && (o.after.any fun e => Region.binds md e && e.on == q))) && o.after.all (fun e => !Region.binds md e || decide (e.on < init.size)) &&
    (List.range init.size).all (fun i => (init[i]?).all fun oi => oi.after.all fun e => !Region.binds md e || decide (e.on < i))
/-- THE REGION: n loads ahead, then a chain, the store at its end. -/
theorem wp_region_chain2 {id : Nat} {a : Act} {w : World} {l : List Oper} (S : World → Prop) (n m : Nat) (o : Oper) (hm : P.follows .mixedOrders = true)
    (hlast : l.drop (n + m) = [o]) (hk : sinkB2 .any (l.take n ++ (l.drop n).take m).toArray o = true)
    (hB : (Region.noSelect (l.take n ++ (l.drop n).take m).toArray && lexHead .any (l.take n ++ (l.drop n).take m).toArray m n 0 (Array.replicate (n + m) false)) = true) 
    (hQ : ∀ c a d v w, Q (.panic c) (Act.put a d v) w → Q (.panic c) a w) (hS : S w.drew)
    (h : wpHeld P (l.take n ++ (l.drop n).take m).toArray S (fun a' => wpSeq P (l.take n ++ (l.drop n).take m).toArray S (sinkQ P o Q) ((l.drop n).take m) a' w.drew) (l.take n) a) : (Code.region id l.toArray true).wp P Q a w := by
  have hnm : n + m + 1 = l.length := by
    have := congrArg List.length hlast
    rw [List.length_drop, List.length_singleton] at this
    omega
  have hl : l = l.take n ++ (l.drop n).take m ++ [o] := by
    have e1 := List.take_append_drop n l
    have e2 := List.take_append_drop m (l.drop n)
    rw [List.drop_drop, hlast] at e2
    rw [List.append_assoc, e2, e1]
  clear hlast
  generalize hhd : l.take n = hd at *
  generalize htl : (l.drop n).take m = tl at *
  have l1 : hd.length = n := by rw [← hhd, List.length_take]; omega
  have l2 : tl.length = m := by rw [← htl, List.length_take, List.length_drop]; omega
  subst hl
  simp only [sinkB2, Bool.and_eq_true, List.all_eq_true, List.mem_range, Option.isNone_iff_eq_none] at hk
  obtain ⟨⟨⟨⟨k1, k2⟩, k3⟩, k4⟩, k5⟩ := hk
  rw [Bool.and_eq_true] at hB
  refine wp_region_any hm ?_
  have hops : (hd ++ tl ++ [o]).toArray = (hd ++ tl).toArray.push o := by simp
  rw [hops]
  have hsz : ((hd ++ tl).toArray.push o).size = (n + m) + 1 := by simp; omega
  rw [hsz]
  have hrep : Array.replicate (n + m + 1) false = (Array.replicate (n + m) false).push false := by rw [Array.replicate_succ]
  rw [hrep]
  have hfin : ∀ e ∈ o.after, Region.binds .any e = true → e.on < (hd ++ tl).toArray.size := fun e he hb => by
    have := Array.all_eq_true_iff_forall_mem.1 k4 e he
    simpa [hb] using this
  refine wpAny_sink2 k1 k2 (fun i oi hoi e he hb => ?_) (fun j hj => ?_) hfin (n + m) _ a _ (by simp; omega) closed_none ?_
  · have := k5 i (Array.getElem?_eq_some_iff.1 hoi).1
    rw [hoi] at this
    have := Array.all_eq_true_iff_forall_mem.1 this e he
    simpa [hb] using this
  · have hh := k3 j hj
    rw [Bool.or_eq_true] at hh
    have conv : ∀ (oo : Oper) (x : Nat), (oo.after.any fun e => Region.binds .any e && e.on == x) = true → ∃ e ∈ oo.after, Region.binds .any e = true ∧ e.on = x := by
      intro oo x h
      obtain ⟨e, he, h3⟩ := Array.any_eq_true'.1 h
      simp only [Bool.and_eq_true, beq_iff_eq] at h3
      exact ⟨e, he, h3.1, h3.2⟩
    rcases hh with hh | hh
    · exact .inl (conv o j hh)
    · obtain ⟨q, _, hq⟩ := List.any_eq_true.1 hh
      rw [Bool.and_eq_true] at hq
      cases hoq : (hd ++ tl).toArray[q]? with
      | none => rw [hoq] at hq; simp at hq
      | some oq =>
        rw [hoq] at hq
        exact .inr ⟨q, oq, hoq, conv oq j (by simpa using hq.1), conv o q hq.2⟩
  · refine wpAny_of_held (S := S) _ _ _ _ ?_
    have := wpAnyH_held (P := P) (md := .any) (ops := (hd ++ tl).toArray) (S := S) (Q := sinkQ P o Q) hB.1 (fun c a d v w hh => hQ c a d v w hh) tl w.drew hS hd 0 (Array.replicate (n + m) false) a
      (fun j hj => by simp [List.getElem?_append_left hj]) (fun j => by simp only [Nat.zero_add, List.getElem?_toArray]; rw [List.getElem?_append_right (by omega), Nat.add_sub_cancel_left]) (by rw [l1, l2]; exact hB.2) h
    rwa [l1, l2] at this
end
end Go.Proofs.YtnbadnmmolagfaaDoor
