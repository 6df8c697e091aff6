/- A region that draws its order: its loads first, in the order of the text, then a chain of calls that make memory, and a store at its end that all wait for. -/
import Derived.OrdersHeld
import Derived.Deep.RegionHeld
import Derived.Deep.AppendLies
namespace Go.Proofs.YtnbadnmmolagfaaDoor
set_option linter.unusedVariables false

section
variable {P : Program} {md : Region.Mode}
/-- What is asked where all but the last operation have come up. -/
def sinkQ (P : Program) (o : Oper) (Q : Exit → Act → World → Prop) : Exit → Act → World → Prop
  | .normal, a, w => o.wp P a w (Q .normal) Q
  | .ret, a, w => Q .ret a w
  | .exit c, a, w => Q (.exit c) a w
  | .goto t, a, w => Q (.goto t) a w
  | .panic c, a, w => Q (.panic c) a w
  | .outgrown, a, w => Q .outgrown a w
theorem letsOut_sink {o : Oper} {Q : Exit → Act → World → Prop} : LetsOut (sinkQ P o Q) = LetsOut Q := rfl
theorem Oper.wp_sink {o oi : Oper} {Q : Exit → Act → World → Prop} {K : Act → World → Prop} {a : Act} {w : World} : oi.wp P a w K (sinkQ P o Q) = oi.wp P a w K Q := by
  unfold Oper.wp
  generalize (execOp a.eval oi).run P w = r
  cases r with
  | ok n w' =>
    cases n <;> rfl
  | halt x w' => cases x <;> rfl

theorem push_get {init : Array Oper} {o : Oper} {j : Nat} (hj : j < init.size) : (init.push o)[j]? = init[j]? := by
  rw [Array.getElem?_push, if_neg (by omega)]
theorem push_last {init : Array Oper} {o : Oper} : (init.push o)[init.size]? = some o := by simp
theorem yielded_push {init : Array Oper} {o : Oper} (hd : o.dst = none) (t : Array Value) : yielded (init.push o) t = yielded init t := by
  funext j
  unfold yielded
  rcases Nat.lt_trichotomy j init.size with h | h | h
  · rw [push_get h]
  · subst h
    rw [push_last]
    simp [hd]
  · rw [Array.getElem?_eq_none (by simp; omega), Array.getElem?_eq_none (by omega)]

theorem getD_push_lt {l : Array Bool} {j : Nat} {d : Bool} (h : j < l.size) (b : Bool) : (l.push b).getD j d = l.getD j d := by
  simp [Array.getD, h, Nat.lt_succ_of_lt h, Array.getElem_push_lt]
theorem getD_push_last {l : Array Bool} {d b : Bool} : (l.push b).getD l.size d = b := by simp [Array.getD]

/-- THE LAST OPERATION OF A REGION, which all others come ahead of. -/
theorem wpAny_sink {init : Array Oper} {o : Oper} {Q : Exit → Act → World → Prop} (hd : o.dst = none) (hg : o.guard = none)
    (h1 : ∀ i oi, init[i]? = some oi → ∀ e ∈ oi.after, Region.binds md e = true → e.on < i)
    (h2 : ∀ j, j < init.size → ∃ e ∈ o.after, Region.binds md e = true ∧ e.on = j)
    (h3 : ∀ e ∈ o.after, Region.binds md e = true → e.on < init.size) :
    ∀ (fuel : Nat) (listed : Array Bool) (a : Act) (w : World), listed.size = init.size → wpAny P md init (sinkQ P o Q) fuel listed a w → wpAny P md (init.push o) Q (fuel + 1) (listed.push false) a w := by
  have hw : ∀ ops t, Region.wanted o (yielded ops t) = true := fun ops t => by simp [Region.wanted, hg]
  -- nothing is ready: all are listed
  have hall : ∀ listed : Array Bool, listed.size = init.size → Region.ready md init listed = [] → ∀ j, j < init.size → listed.getD j true = true := by
    intro listed hs hr
    intro j
    induction j using Nat.strongRecOn with
    | ind j ih =>
      intro hj
      cases hb : listed.getD j true with
      | true => rfl
      | false =>
        exfalso
        have : j ∈ Region.ready md init listed := mem_ready.2 ⟨hb, init[j], by simp [hj], fun e he hbd => by
          have hlt := h1 j init[j] (by simp [hj]) e he hbd
          have := ih e.on hlt (by omega)
          have hl : e.on < listed.size := by omega
          simp [Array.getD, hl] at this ⊢
          exact this⟩
        rw [hr] at this
        cases this
  have tf : ∀ (listed : Array Bool) (j : Nat), j < listed.size → (listed.getD j true = true ↔ listed.getD j false = true) := fun listed j hj => by simp [Array.getD, hj]
  -- the last is ready just where all are listed
  have hlast : ∀ listed : Array Bool, listed.size = init.size → init.size ∈ Region.ready md (init.push o) (listed.push false) → Region.ready md init listed = [] := by
    intro listed hs hm
    obtain ⟨_, o', ho', hall'⟩ := mem_ready.1 hm
    rw [push_last] at ho'
    cases ho'
    rw [List.eq_nil_iff_forall_not_mem]
    intro j hj
    obtain ⟨hu, oj, hoj, _⟩ := mem_ready.1 hj
    have hjl := (Array.getElem?_eq_some_iff.1 hoj).1
    obtain ⟨e, he, hb, hon⟩ := h2 j hjl
    have := hall' e he hb
    rw [hon, getD_push_lt (by omega)] at this
    rw [(tf listed j (by omega)).2 this] at hu
    cases hu
  have hlast' : ∀ listed : Array Bool, listed.size = init.size → Region.ready md init listed = [] → init.size ∈ Region.ready md (init.push o) (listed.push false) := by
    intro listed hs hr
    refine mem_ready.2 ⟨by rw [← hs]; exact getD_push_last, o, push_last, fun e he hb => ?_⟩
    have hlt := h3 e he hb
    rw [getD_push_lt (by omega)]
    exact (tf listed _ (by omega)).1 (hall listed hs hr _ hlt)
  have hother : ∀ (listed : Array Bool) (j : Nat), listed.size = init.size → j ≠ init.size → j ∈ Region.ready md (init.push o) (listed.push false) → j ∈ Region.ready md init listed := by
    intro listed j hs hne hm
    obtain ⟨hu, oj, hoj, hall'⟩ := mem_ready.1 hm
    have hjl : j < init.size := by
      have := (Array.getElem?_eq_some_iff.1 hoj).1
      simp at this
      omega
    rw [push_get hjl] at hoj
    rw [getD_push_lt (by omega)] at hu
    refine mem_ready.2 ⟨hu, oj, hoj, fun e he hb => ?_⟩
    have := hall' e he hb
    have hlt := h1 j oj hoj e he hb
    rwa [getD_push_lt (by omega)] at this
  have hend : ∀ (fuel : Nat) (listed : Array Bool) (a : Act) (w : World), listed.size = init.size → Region.ready md init listed = [] → Q .normal a w → wpAny P md (init.push o) Q fuel ((listed.push false).setIfInBounds init.size true) a w := by
    intro fuel listed a w hs hr hq
    have hr2 : Region.ready md (init.push o) ((listed.push false).setIfInBounds init.size true) = [] := by
      rw [List.eq_nil_iff_forall_not_mem]
      intro j hj
      obtain ⟨hu, oj, hoj, _⟩ := mem_ready.1 hj
      by_cases hjn : j = init.size
      · subst hjn
        simp [Array.getD, hs] at hu
      · have hjl : j < init.size := by
          have := (Array.getElem?_eq_some_iff.1 hoj).1
          simp at this
          omega
        rw [getD_set_ne true (Ne.symm hjn), getD_push_lt (by omega), hall listed hs hr j hjl] at hu
        cases hu
    cases fuel with
    | zero => exact ⟨hr2, hq⟩
    | succ fuel => exact ⟨fun _ => hq, by rw [hr2]; simp⟩
  have hlastOp : ∀ (fuel : Nat) (listed : Array Bool) (a : Act) (w : World), listed.size = init.size → Region.ready md init listed = [] → sinkQ P o Q .normal a w →
      wpOp P (init.push o) Q init.size (wpAny P md (init.push o) Q fuel ((listed.push false).setIfInBounds init.size true)) a w := by
    intro fuel listed a w hs hr hq
    unfold wpOp
    rw [push_last]
    simp only [hw, if_true]
    exact .inl (Oper.wp_mono (fun a' w' h => hend fuel listed a' w' hs hr h) hq)
  intro fuel
  induction fuel with
  | zero =>
    intro listed a w hs ⟨hr, hq⟩
    refine ⟨fun h => (by have := hlast' listed hs hr; rw [h] at this; cases this), fun i hi => ?_⟩
    by_cases hin : i = init.size
    · subst hin
      exact hlastOp 0 listed a w hs hr hq
    · have := hother listed i hs hin hi
      rw [hr] at this
      cases this
  | succ fuel ih =>
    intro listed a w hs ⟨hr0, hstep⟩
    refine ⟨fun h => ?_, fun i hi => ?_⟩
    · exfalso
      cases hr : Region.ready md init listed with
      | nil => have := hlast' listed hs hr; rw [h] at this; cases this
      | cons j rest =>
        have hj : j ∈ Region.ready md init listed := by rw [hr]; exact List.mem_cons_self
        obtain ⟨hu, oj, hoj, hall'⟩ := mem_ready.1 hj
        have hjl := (Array.getElem?_eq_some_iff.1 hoj).1
        have : j ∈ Region.ready md (init.push o) (listed.push false) := mem_ready.2 ⟨by rw [getD_push_lt (by omega)]; exact hu, oj, by rw [push_get hjl]; exact hoj, fun e he hb => by
          have hlt := h1 j oj hoj e he hb
          rw [getD_push_lt (by omega)]
          exact hall' e he hb⟩
        rw [h] at this
        cases this
    · by_cases hin : i = init.size
      · subst hin
        have hr := hlast listed hs hi
        exact hlastOp (fuel + 1) listed a w hs hr (hr0 hr)
      · have hm := hother listed i hs hin hi
        have hst := hstep i hm
        obtain ⟨_, oi, hoi, _⟩ := mem_ready.1 hm
        have hil := (Array.getElem?_eq_some_iff.1 hoi).1
        unfold wpOp at hst ⊢
        rw [push_get hil, hoi]
        rw [hoi] at hst
        simp only [yielded_push hd] at hst ⊢
        have hset : (listed.push false).setIfInBounds i true = (listed.setIfInBounds i true).push false := by
          refine Array.ext_getElem? fun k => ?_
          by_cases hk : k = listed.size
          · subst hk
            have e1 : ((listed.push false).setIfInBounds i true)[listed.size]? = some false := by
              rw [Array.getElem?_setIfInBounds_ne (by omega)]
              exact Array.getElem?_push_size
            have hs' : (listed.setIfInBounds i true).size = listed.size := by simp
            have e2 : ((listed.setIfInBounds i true).push false)[(listed.setIfInBounds i true).size]? = some false := Array.getElem?_push_size
            rw [hs'] at e2
            rw [e1, e2]
          · simp [Array.getElem?_setIfInBounds, Array.getElem?_push, hk]
            by_cases hki : i = k
            · subst hki; simp [show i < listed.size by omega, show i < listed.size + 1 by omega]
            · simp [hki]
        rw [hset]
        have hmono : ∀ a' w', wpAny P md init (sinkQ P o Q) fuel (listed.setIfInBounds i true) a' w' → wpAny P md (init.push o) Q (fuel + 1) ((listed.setIfInBounds i true).push false) a' w' := fun a' w' h => ih _ a' w' (by simpa using hs) h
        split
        · rename_i hwt
          simp only [hwt, if_true] at hst
          rcases hst with hst | ⟨ha, hl⟩
          · exact .inl (Oper.wp_mono hmono (by rw [Oper.wp_sink] at hst; exact hst))
          · exact .inr ⟨ha, by rwa [letsOut_sink] at hl⟩
        · rename_i hwt
          simp only [hwt] at hst
          exact hmono _ _ hst

/-! ### The loads ahead, the chain behind them -/
variable {ops : Array Oper} {S : World → Prop} {Q : Exit → Act → World → Prop}
/-- Operations that yield one value in every world that meets S, in the order of the text. -/
def wpHeld (P : Program) (ops : Array Oper) (S : World → Prop) (K : Act → Prop) : List Oper → Act → Prop
  | [], a => K a
  | o :: rest, a => ∃ v, YieldsIf P ops S o v a ∧ wpHeld P ops S K rest (a.put o.dst v)
/-- Operations one behind the other, S holding behind each. -/
def wpSeq (P : Program) (ops : Array Oper) (S : World → Prop) (Q : Exit → Act → World → Prop) : List Oper → Act → World → Prop
  | [], a, w => Q .normal a w
  | o :: rest, a, w => if Region.wanted o (yielded ops a.tmps) = true then o.wp P a w (fun a' w' => S w' ∧ wpSeq P ops S Q rest a' w') Q else S w ∧ wpSeq P ops S Q rest (a.put o.dst undef) w
def lexTail (md : Region.Mode) (ops : Array Oper) : Nat → Nat → Array Bool → Bool
  | 0, _, listed => (Region.ready md ops listed).isEmpty
  | m + 1, k, listed => Region.ready md ops listed == [k] && lexTail md ops m (k + 1) (listed.setIfInBounds k true)
def lexHead (md : Region.Mode) (ops : Array Oper) (m : Nat) : Nat → Nat → Array Bool → Bool
  | 0, k, listed => lexTail md ops m k listed
  | n + 1, k, listed => (Region.ready md ops listed).contains k && Region.free md ops listed k && lexHead md ops m n (k + 1) (listed.setIfInBounds k true)

theorem wpAnyH_seq : ∀ (l : List Oper) (k : Nat) (listed : Array Bool) (a : Act) (w : World), (∀ j, l[j]? = ops[k + j]?) → lexTail md ops l.length k listed = true → wpSeq P ops S Q l a w → wpAnyH P md ops Q S l.length listed a w
  | [], k, listed, a, w, _, hB, h => ⟨by simpa [lexTail] using hB, h⟩
  | o :: l, k, listed, a, w, hl, hB, h => by
    have h0 : ops[k]? = some o := by simpa using (hl 0).symm
    simp only [List.length_cons, lexTail, Bool.and_eq_true, beq_iff_eq] at hB
    obtain ⟨hr, hB'⟩ := hB
    have hl' : ∀ j, l[j]? = ops[k + 1 + j]? := fun j => by have := hl (j + 1); simpa [Nat.add_assoc, Nat.add_comm 1 j] using this
    refine wpAnyH_all (rs := [k]) hr (by simp) fun i hi => ?_
    obtain rfl : i = k := by simpa using hi
    unfold wpOp
    simp only [h0]
    unfold wpSeq at h
    split
    · rename_i hw
      rw [if_pos hw] at h
      exact .inl (Oper.wp_mono (fun a' w' hh => ⟨hh.1, wpAnyH_seq l (i + 1) _ a' w' hl' hB' hh.2⟩) h)
    · rename_i hw
      rw [if_neg hw] at h
      exact ⟨h.1, wpAnyH_seq l (i + 1) _ _ w hl' hB' h.2⟩
theorem wpAnyH_held (hs : Region.noSelect ops = true) (hQ : ∀ c a d v w, Q (.panic c) (Act.put a d v) w → Q (.panic c) a w) (tl : List Oper) (w : World) (hS : S w) :
    ∀ (l : List Oper) (k : Nat) (listed : Array Bool) (a : Act), (∀ j, j < l.length → l[j]? = ops[k + j]?) → (∀ j, tl[j]? = ops[k + l.length + j]?) → lexHead md ops tl.length l.length k listed = true →
      wpHeld P ops S (fun a' => wpSeq P ops S Q tl a' w) l a → wpAnyH P md ops Q S (l.length + tl.length) listed a w
  | [], k, listed, a, _, ht, hB, h => by
    simp only [List.length_nil, Nat.zero_add]
    exact wpAnyH_seq tl k listed a w (by simpa using ht) (by simpa [lexHead] using hB) h
  | o :: l, k, listed, a, hl, ht, hB, h => by
    have h0 : ops[k]? = some o := by simpa using (hl 0 (by simp)).symm
    simp only [List.length_cons, lexHead, Bool.and_eq_true] at hB
    obtain ⟨⟨hr, hf⟩, hB'⟩ := hB
    obtain ⟨v, hy, hK⟩ := h
    rw [List.length_cons, show l.length + 1 + tl.length = (l.length + tl.length) + 1 by omega]
    refine wpAnyH_take (i := k) (oi := o) (v := v) h0 hs hf hr (fun c a w hh => hQ c a _ _ w hh) hy hS ?_
    exact wpAnyH_held hs hQ tl w hS l (k + 1) _ _ (fun j hj => by have := hl (j + 1) (by simpa using hj); simpa [Nat.add_assoc, Nat.add_comm 1 j] using this)
      (fun j => by have := ht j; simpa [Nat.add_assoc, Nat.add_comm 1, Nat.add_left_comm] using this) hB' hK

/-- One load, what follows behind a variable. -/
theorem wpHeld_step {K : Act → Prop} {a : Act} {o : Oper} {rest : List Oper} (hg : o.guard = none) (h : ∃ v, (∀ w, S w → (execOp a.eval o).run P w = .ok (.value v) w) ∧ wpHeld P ops S K rest (a.put o.dst v)) : wpHeld P ops S K (o :: rest) a := by
  obtain ⟨v, hy, h⟩ := h
  exact ⟨v, .inl ⟨by simp [Region.wanted, hg], hy⟩, h⟩
theorem wpSeq_step {a : Act} {w : World} {o : Oper} {rest : List Oper} (hg : o.guard = none) (h : ∀ K : Act → World → Prop, (∀ a' w', S w' → wpSeq P ops S Q rest a' w' → K a' w') → o.wp P a w K Q) : wpSeq P ops S Q (o :: rest) a w := by
  unfold wpSeq
  rw [if_pos (by simp [Region.wanted, hg])]
  exact h _ fun _ _ h1 h2 => ⟨h1, h2⟩

def sinkB (md : Region.Mode) (init : Array Oper) (o : Oper) : Bool :=
  o.dst.isNone && o.guard.isNone && (List.range init.size).all (fun j => o.after.any fun e => Region.binds md e && e.on == j) && o.after.all (fun e => !Region.binds md e || decide (e.on < init.size)) &&
    (List.range init.size).all (fun i => (init[i]?).all fun oi => oi.after.all fun e => !Region.binds md e || decide (e.on < i))
/-- THE REGION: n loads ahead, then a chain, the store at its end. -/
theorem wp_region_chain {id : Nat} {a : Act} {w : World} {l : List Oper} (S : World → Prop) (n m : Nat) (o : Oper) (hm : P.follows .mixedOrders = true)
    (hlast : l.drop (n + m) = [o]) (hk : sinkB .any (l.take n ++ (l.drop n).take m).toArray o = true)
    (hB : (Region.noSelect (l.take n ++ (l.drop n).take m).toArray && lexHead .any (l.take n ++ (l.drop n).take m).toArray m n 0 (Array.replicate (n + m) false)) = true) 
    (hQ : ∀ c a d v w, Q (.panic c) (Act.put a d v) w → Q (.panic c) a w) (hS : S w.drew)
    (h : wpHeld P (l.take n ++ (l.drop n).take m).toArray S (fun a' => wpSeq P (l.take n ++ (l.drop n).take m).toArray S (sinkQ P o Q) ((l.drop n).take m) a' w.drew) (l.take n) a) : (Code.region id l.toArray true).wp P Q a w := by
  have hnm : n + m + 1 = l.length := by
    have := congrArg List.length hlast
    rw [List.length_drop, List.length_singleton] at this
    omega
  have hl : l = l.take n ++ (l.drop n).take m ++ [o] := by
    have e1 := List.take_append_drop n l
    have e2 := List.take_append_drop m (l.drop n)
    rw [List.drop_drop, hlast] at e2
    rw [List.append_assoc, e2, e1]
  clear hlast
  generalize hhd : l.take n = hd at *
  generalize htl : (l.drop n).take m = tl at *
  have l1 : hd.length = n := by rw [← hhd, List.length_take]; omega
  have l2 : tl.length = m := by rw [← htl, List.length_take, List.length_drop]; omega
  subst hl
  simp only [sinkB, Bool.and_eq_true, List.all_eq_true, List.mem_range, Option.isNone_iff_eq_none] at hk
  obtain ⟨⟨⟨⟨k1, k2⟩, k3⟩, k4⟩, k5⟩ := hk
  rw [Bool.and_eq_true] at hB
  refine wp_region_any hm ?_
  have hops : (hd ++ tl ++ [o]).toArray = (hd ++ tl).toArray.push o := by simp
  rw [hops]
  have hsz : ((hd ++ tl).toArray.push o).size = (n + m) + 1 := by simp; omega
  rw [hsz]
  have hrep : Array.replicate (n + m + 1) false = (Array.replicate (n + m) false).push false := by rw [Array.replicate_succ]
  rw [hrep]
  have hfin : ∀ e ∈ o.after, Region.binds .any e = true → e.on < (hd ++ tl).toArray.size := fun e he hb => by
    have := Array.all_eq_true_iff_forall_mem.1 k4 e he
    simpa [hb] using this
  refine wpAny_sink k1 k2 (fun i oi hoi e he hb => ?_) (fun j hj => ?_) hfin (n + m) _ a _ (by simp; omega) ?_
  · have := k5 i (Array.getElem?_eq_some_iff.1 hoi).1
    rw [hoi] at this
    have := Array.all_eq_true_iff_forall_mem.1 this e he
    simpa [hb] using this
  · obtain ⟨e, he, hh⟩ := Array.any_eq_true'.1 (k3 j hj)
    simp only [Bool.and_eq_true, beq_iff_eq] at hh
    exact ⟨e, he, hh.1, hh.2⟩
  · refine wpAny_of_held (S := S) _ _ _ _ ?_
    have := wpAnyH_held (P := P) (md := .any) (ops := (hd ++ tl).toArray) (S := S) (Q := sinkQ P o Q) hB.1 (fun c a d v w hh => hQ c a d v w hh) tl w.drew hS hd 0 (Array.replicate (n + m) false) a
      (fun j hj => by simp [List.getElem?_append_left hj]) (fun j => by simp only [Nat.zero_add, List.getElem?_toArray]; rw [List.getElem?_append_right (by omega), Nat.add_sub_cancel_left]) (by rw [l1, l2]; exact hB.2) h
    rwa [l1, l2] at this
end
end Go.Proofs.YtnbadnmmolagfaaDoor
