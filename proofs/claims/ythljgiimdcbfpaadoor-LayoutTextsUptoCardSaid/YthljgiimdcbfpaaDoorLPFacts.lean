/- A region that draws its order and makes memory: each operation says a thing of what it yields, and what makes new blocks alone keeps it; so all of it holds at the end, whatever the order was. -/
import Derived.Test.YthljgiimdcbfpaaDoorMGround
import Derived.Test.YthljgiimdcbfpaaDoorMMach
import Derived.OrdersHeld
namespace Go.Proofs.YthljgiimdcbfpaaDoor
open Go.RowKit
set_option linter.unusedVariables false
set_option linter.unusedSimpArgs false

section
variable {P : Program} {md : Region.Mode}
/-- The values f 0, f 1, .. put where the operations put theirs. -/
def putAll : List Oper → Nat → (Nat → Value) → Act → Act
  | [], _, _, a => a
  | o :: l, k, f, a => putAll l (k + 1) f (a.put o.dst (f k))
theorem put_size (a : Act) (d : Option Tmp) (v : Value) : (a.put d v).tmps.size = a.tmps.size := by
  cases d <;> simp [Act.put]
theorem put_defers (a : Act) (d : Option Tmp) (v : Value) : (a.put d v).defers = a.defers := by
  cases d <;> rfl
theorem put_same (a : Act) (d : Tmp) (v : Value) (h : d < a.tmps.size) : (a.put (some d) v).tmps.getD d undef = v := by
  simp [Act.put, Array.getD, h]
theorem put_other (a : Act) (d : Option Tmp) (v : Value) (t : Nat) (h : d ≠ some t) : (a.put d v).tmps.getD t undef = a.tmps.getD t undef := by
  cases d with
  | none => rfl
  | some d =>
    have : d ≠ t := fun e => h (by rw [e])
    simp only [Act.put, Array.getD_eq_getD_getElem?, Array.getElem?_setIfInBounds]
    rw [if_neg this]
theorem putAll_size : ∀ (l : List Oper) (k : Nat) (f : Nat → Value) (a : Act), (putAll l k f a).tmps.size = a.tmps.size ∧ (putAll l k f a).defers = a.defers
  | [], _, _, _ => ⟨rfl, rfl⟩
  | o :: l, k, f, a => by
    obtain ⟨h1, h2⟩ := putAll_size l (k + 1) f (a.put o.dst (f k))
    exact ⟨h1.trans (put_size _ _ _), h2.trans (put_defers _ _ _)⟩
theorem putAll_other : ∀ (l : List Oper) (k : Nat) (f : Nat → Value) (a : Act) (t : Nat), (∀ o ∈ l, o.dst ≠ some t) → (putAll l k f a).tmps.getD t undef = a.tmps.getD t undef
  | [], _, _, _, _, _ => rfl
  | o :: l, k, f, a, t, h => by
    show (putAll l (k + 1) f (a.put o.dst (f k))).tmps.getD t undef = _
    rw [putAll_other l (k + 1) f _ t (fun o ho => h o (by simp [ho])), put_other _ _ _ _ (h o (by simp))]
theorem putAll_at : ∀ (l : List Oper) (k : Nat) (f : Nat → Value) (a : Act) (j : Nat) (o : Oper) (d : Tmp), (∀ (i i' : Nat) (o o' : Oper) (d : Tmp), l[i]? = some o → l[i']? = some o' → o.dst = some d → o'.dst = some d → i = i') →
    l[j]? = some o → o.dst = some d → d < a.tmps.size → (putAll l k f a).tmps.getD d undef = f (k + j)
  | [], _, _, _, _, _, _, _, h, _, _ => by simp at h
  | o :: l, k, f, a, 0, o', d, hi, h, hd, hs => by
    simp only [List.getElem?_cons_zero, Option.some.injEq] at h
    subst h
    show (putAll l (k + 1) f (a.put o.dst (f k))).tmps.getD d undef = _
    rw [putAll_other l (k + 1) f _ d (fun o2 ho2 => by
      obtain ⟨i, hlt, rfl⟩ := List.mem_iff_getElem.1 ho2
      intro e
      have := hi (i + 1) 0 (l[i]) o d (by simp [hlt]) (by simp) e hd
      omega), hd, put_same _ _ _ hs]
    rfl
  | o :: l, k, f, a, j + 1, o', d, hi, h, hd, hs => by
    have h' : l[j]? = some o' := by simpa using h
    have := putAll_at l (k + 1) f (a.put o.dst (f k)) j o' d (fun i i' o o' d h1 h2 h3 h4 => by
      have := hi (i + 1) (i' + 1) o o' d (by simpa using h1) (by simpa using h2) h3 h4
      omega) h' hd (by rw [put_size]; exact hs)
    rw [show k + (j + 1) = k + 1 + j by omega]
    exact this
theorem get_D (x : Array Value) (t : Nat) (h : t < x.size) : x[t] = x.getD t undef := by simp [Array.getD, h]
/-- So far: what has come up has said its thing. -/
structure St (ops : Array Oper) (F : Nat → Value → World → Prop) (G : World → Prop) (a0 : Act) (listed : Array Bool) (a : Act) (w : World) : Prop where
  size : listed.size = ops.size
  defers : a.defers = a0.defers
  tmps : a.tmps.size = a0.tmps.size
  old : ∀ t, (∀ (i : Nat) (o : Oper), ops[i]? = some o → o.dst ≠ some t) → a.tmps.getD t undef = a0.tmps.getD t undef
  glob : G w
  fact : ∀ (i : Nat) (o : Oper) (d : Tmp), ops[i]? = some o → o.dst = some d → listed.getD i false = true → F i (a.tmps.getD d undef) w
theorem listed_set {listed : Array Bool} {i : Nat} (h : listed.getD i true = false) : (listed.setIfInBounds i true).toList.count false + 1 = listed.toList.count false := by
  have hi : i < listed.size := by
    rcases Nat.lt_or_ge i listed.size with h' | h'
    · exact h'
    · simp [Array.getD, Nat.not_lt.2 h'] at h
  have hf : listed.toList[i]'(by simpa using hi) = false := by
    simp [Array.getD, hi] at h
    simpa using h
  rw [Array.toList_setIfInBounds, List.count_set (by simpa using hi), hf]
  have : 0 < listed.toList.count false := List.count_pos_iff.2 (by rw [← hf]; exact List.getElem_mem _)
  rw [if_pos (by decide), if_neg (by decide)]
  omega
theorem listed_none {listed : Array Bool} (h : listed.toList.count false = 0) (j : Nat) : listed.getD j true = true := by
  rcases Nat.lt_or_ge j listed.size with h' | h'
  · cases hb : listed[j] with
    | true => simp [Array.getD, h', hb]
    | false =>
      exfalso
      have := List.count_eq_zero.1 h
      exact this (by rw [← hb]; exact Array.getElem_mem_toList ..)
  · simp [Array.getD, Nat.not_lt.2 h']
variable {ops : Array Oper} {F : Nat → Value → World → Prop} {G : World → Prop} {Q : Exit → Act → World → Prop} {a0 : Act}
theorem wpAny_facts
    (hst : ∀ i v w w', F i v w → Below w.heap.size w w' → F i v w')
    (hinj : ∀ (i i' : Nat) (o o' : Oper) (d : Tmp), ops[i]? = some o → ops[i']? = some o' → o.dst = some d → o'.dst = some d → i = i')
    (hgd : ∀ (i : Nat) (o : Oper), ops[i]? = some o → o.guard = none)
    (hlt : ∀ (i : Nat) (o : Oper) (d : Tmp), ops[i]? = some o → o.dst = some d → d < a0.tmps.size)
    (hord : ∀ (i : Nat) (o : Oper), ops[i]? = some o → ∀ e ∈ o.after, Region.binds md e = true → e.on < i)
    (hop : ∀ (i : Nat) (o : Oper), ops[i]? = some o → ∀ (a : Act) (w : World), G w → (∀ t, (∀ (i : Nat) (o : Oper), ops[i]? = some o → o.dst ≠ some t) → a.tmps.getD t undef = a0.tmps.getD t undef) →
      (∀ e ∈ o.after, Region.binds md e = true → ∀ (oj : Oper) (d : Tmp), ops[e.on]? = some oj → oj.dst = some d → F e.on (a.tmps.getD d undef) w) →
      o.wp P a w (fun a' w' => ∃ v, a' = a.put o.dst v ∧ Below w.heap.size w w' ∧ G w' ∧ F i v w') Q)
    (hQ : ∀ (f : Nat → Value) (w : World), G w → (∀ (i : Nat) (o : Oper) (d : Tmp), ops[i]? = some o → o.dst = some d → F i (f i) w) → Q .normal (putAll ops.toList 0 f a0) w) :
    ∀ (fuel : Nat) (listed : Array Bool) (a : Act) (w : World), St ops F G a0 listed a w → listed.toList.count false ≤ fuel → wpAny P md ops Q fuel listed a w := by
  have tf : ∀ (listed : Array Bool) (j : Nat), j < listed.size → listed.getD j true = true → listed.getD j false = true := fun listed j hj h => by
    simp [Array.getD, hj] at h ⊢
    exact h
  -- all are listed: the end
  have hend : ∀ (listed : Array Bool) (a : Act) (w : World), St ops F G a0 listed a w → (∀ j, j < ops.size → listed.getD j true = true) → Q .normal a w := by
    intro listed a w h hl
    have hall : ∀ (i : Nat) (o : Oper) (d : Tmp), ops[i]? = some o → o.dst = some d → F i (a.tmps.getD d undef) w := fun i o d ho hd => by
      have hi := (Array.getElem?_eq_some_iff.1 ho).1
      exact h.fact i o d ho hd (tf listed i (by rw [h.size]; exact hi) (hl i hi))
    have e : a = putAll ops.toList 0 (fun i => a.tmps.getD ((ops[i]?.bind (·.dst)).getD 0) undef) a0 := by
      obtain ⟨s1, s2⟩ := putAll_size ops.toList 0 (fun i => a.tmps.getD ((ops[i]?.bind (·.dst)).getD 0) undef) a0
      have e1 : a.tmps = (putAll ops.toList 0 (fun i => a.tmps.getD ((ops[i]?.bind (·.dst)).getD 0) undef) a0).tmps := by
        refine Array.ext (h.tmps.trans s1.symm) (fun t h1 h2 => ?_)
        have g1 := get_D a.tmps t h1
        have g2 := get_D _ t h2
        rw [g1, g2]
        by_cases hx : ∃ (i : Nat) (o : Oper), ops[i]? = some o ∧ o.dst = some t
        · obtain ⟨i, o, ho, hd⟩ := hx
          rw [putAll_at ops.toList 0 _ a0 i o t (fun i i' o o' d h1 h2 h3 h4 => hinj i i' o o' d (by simpa using h1) (by simpa using h2) h3 h4) (by simpa using ho) hd (by rw [← h.tmps]; exact h1), Nat.zero_add, ho]
          simp [hd]
        · rw [putAll_other ops.toList 0 _ a0 t (fun o ho hd => by
            obtain ⟨i, hi, rfl⟩ := List.mem_iff_getElem.1 ho
            exact hx ⟨i, _, by simp at hi; simp [hi], hd⟩)]
          exact h.old t (fun i o ho hd => hx ⟨i, o, ho, hd⟩)
      have e2 := h.defers.trans s2.symm
      generalize putAll ops.toList 0 (fun i => a.tmps.getD ((ops[i]?.bind (·.dst)).getD 0) undef) a0 = b at e1 e2
      cases a
      cases b
      subst e1
      subst e2
      rfl
    rw [e]
    refine hQ _ w h.glob (fun i o d ho hd => ?_)
    show F i (a.tmps.getD ((ops[i]?.bind (·.dst)).getD 0) undef) w
    rw [ho]
    show F i (a.tmps.getD (o.dst.getD 0) undef) w
    rw [hd]
    exact hall i o d ho hd
  intro fuel
  induction fuel with
  | zero =>
    intro listed a w h hc
    have hl := fun j => listed_none (Nat.le_zero.1 hc) j
    refine ⟨?_, hend listed a w h (fun j _ => hl j)⟩
    rw [List.eq_nil_iff_forall_not_mem]
    intro j hj
    have := (mem_ready.1 hj).1
    rw [hl j] at this
    cases this
  | succ fuel ih =>
    intro listed a w h hc
    refine ⟨fun hr => hend listed a w h ?_, fun i hi => ?_⟩
    · intro j
      induction j using Nat.strongRecOn with
      | ind j ihj =>
        intro hj
        cases hb : listed.getD j true with
        | true => rfl
        | false =>
          exfalso
          have : j ∈ Region.ready md ops listed := mem_ready.2 ⟨hb, ops[j], by simp [hj], fun e he hbd => by
            have hlt2 := hord j ops[j] (by simp [hj]) e he hbd
            exact tf listed _ (by rw [h.size]; omega) (ihj e.on hlt2 (by omega))⟩
          rw [hr] at this
          cases this
    · obtain ⟨hu, o, ho, hall⟩ := mem_ready.1 hi
      have hil := (Array.getElem?_eq_some_iff.1 ho).1
      unfold wpOp
      rw [ho]
      have hw : Region.wanted o (yielded ops a.tmps) = true := by simp [Region.wanted, hgd i o ho]
      simp only [hw, if_true]
      refine .inl (Oper.wp_mono ?_ (hop i o ho a w h.glob h.old (fun e he hb oj d hoj hd => h.fact e.on oj d hoj hd (hall e he hb))))
      rintro a' w' ⟨v, rfl, hbel, hg, hf⟩
      refine ih _ _ _ ⟨by rw [Array.size_setIfInBounds]; exact h.size, (put_defers _ _ _).trans h.defers, (put_size _ _ _).trans h.tmps, fun t ht => ?_, hg, fun j oj d hoj hd hlj => ?_⟩ (by have := listed_set hu; omega)
      · rw [put_other _ _ _ _ (ht i o ho)]
        exact h.old t ht
      · by_cases hji : j = i
        · subst hji
          rw [ho] at hoj
          injection hoj with hoj
          subst hoj
          rw [hd, put_same _ _ _ (by rw [h.tmps]; exact hlt j o d ho hd)]
          exact hf
        · rw [put_other _ _ _ _ (fun e => hji (hinj j i oj o d hoj ho hd e))]
          rw [getD_set_ne false (Ne.symm hji)] at hlj
          exact hst j _ w w' (h.fact j oj d hoj hd hlj) hbel
/-- A goal that is not looked into. -/
structure Sealed (p : Prop) : Prop where
  out : p
def factsB (init : Array Oper) (n : Nat) : Bool :=
  (List.range init.size).all fun i => (init[i]?).all fun oi => oi.guard.isNone && (match oi.dst with | none => false | some d => decide (d < n) && (List.range init.size).all fun j => (i == j) || (init[j]?).all fun oj => oj.dst != some d)
theorem factsB_spec {init : Array Oper} {n : Nat} (h : factsB init n = true) (i : Nat) (o : Oper) (ho : init[i]? = some o) :
    o.guard = none ∧ ∃ d, o.dst = some d ∧ d < n ∧ ∀ (j : Nat) (oj : Oper), init[j]? = some oj → oj.dst = some d → i = j := by
  unfold factsB at h
  have h1 := List.all_eq_true.1 h i (List.mem_range.2 (Array.getElem?_eq_some_iff.1 ho).1)
  rw [ho] at h1
  simp only [Option.all_some, Bool.and_eq_true, Option.isNone_iff_eq_none] at h1
  refine ⟨h1.1, ?_⟩
  cases hd : o.dst with
  | none => rw [hd] at h1; cases h1.2
  | some d =>
    rw [hd] at h1
    simp only [Bool.and_eq_true, decide_eq_true_eq] at h1
    refine ⟨d, rfl, h1.2.1, fun j oj hj hdj => ?_⟩
    have h2 := List.all_eq_true.1 h1.2.2 j (List.mem_range.2 (Array.getElem?_eq_some_iff.1 hj).1)
    rw [hj] at h2
    simp only [Option.all_some, Bool.or_eq_true, beq_iff_eq, bne_iff_ne, ne_eq] at h2
    rcases h2 with h2 | h2
    · exact h2
    · exact absurd hdj h2
theorem notDst {l : List Oper} {t : Nat} (h : l.all (fun o => o.dst != some t) = true) (i : Nat) (o : Oper) (ho : l[i]? = some o) : o.dst ≠ some t := by
  have := List.all_eq_true.1 h o (List.mem_of_getElem? ho)
  simpa using this
/-- An operation's own walk, what is said of it behind a letter. -/
theorem op_K {F : Nat → Value → World → Prop} {G : World → Prop} {i : Nat} {o : Oper} {a : Act} {w : World}
    (h : ∀ K : Act → World → Prop, (∀ v w', Below w.heap.size w w' → G w' → F i v w' → K (a.put o.dst v) w') → o.wp P a w K Q) :
    o.wp P a w (fun a' w' => ∃ v, a' = a.put o.dst v ∧ Below w.heap.size w w' ∧ G w' ∧ F i v w') Q :=
  h _ fun v _ hb hg hf => ⟨v, rfl, hb, hg, hf⟩
theorem op_Q {o : Oper} {a : Act} {w : World} (h : ∀ (K : Act → World → Prop) (Q' : Exit → Act → World → Prop), (∀ a' w', Q .normal a' w' → K a' w') → o.wp P a w K Q') : o.wp P a w (Q .normal) Q := h _ _ fun _ _ h => h
/-- THE REGION: n operations that make new blocks alone, in any order, and one behind all of them. -/
theorem wp_region_facts {id : Nat} {w : World} {l : List Oper} (F : Nat → Value → World → Prop) (G : World → Prop) (n : Nat) (o : Oper) (hm : P.follows .mixedOrders = true)
    (hlast : l.drop n = [o]) (hk : sinkB .any (l.take n).toArray o = true) (hB : factsB (l.take n).toArray a0.tmps.size = true)
    (hG : G w.drew) (hst : ∀ i v w w', F i v w → Below w.heap.size w w' → F i v w')
    (hop : ∀ (i : Nat) (oi : Oper), (l.take n)[i]? = some oi → ∀ (a : Act) (w : World), G w → (∀ t, (∀ (i : Nat) (o : Oper), (l.take n)[i]? = some o → o.dst ≠ some t) → a.tmps.getD t undef = a0.tmps.getD t undef) →
      (∀ e ∈ oi.after, Region.binds .any e = true → ∀ (oj : Oper) (d : Tmp), (l.take n)[e.on]? = some oj → oj.dst = some d → F e.on (a.tmps.getD d undef) w) →
      oi.wp P a w (fun a' w' => ∃ v, a' = a.put oi.dst v ∧ Below w.heap.size w w' ∧ G w' ∧ F i v w') Q)
    (hQ : ∀ (f : Nat → Value) (w : World), G w → (∀ i, i < n → F i (f i) w) → ∀ (K : Act → World → Prop) (Q' : Exit → Act → World → Prop), (∀ a' w', Q .normal a' w' → K a' w') → Sealed (o.wp P (putAll (l.take n) 0 f a0) w K Q')) :
    (Code.region id l.toArray true).wp P Q a0 w := by
  have hnm : n + 1 = l.length := by
    have := congrArg List.length hlast
    rw [List.length_drop, List.length_singleton] at this
    omega
  have hl : l = l.take n ++ [o] := by rw [← hlast, List.take_append_drop]
  clear hlast
  generalize l.take n = hd at *
  subst hl
  have l1 : hd.length = n := by rw [List.length_append, List.length_singleton] at hnm; omega
  simp only [sinkB, Bool.and_eq_true, List.all_eq_true, List.mem_range, Option.isNone_iff_eq_none] at hk
  obtain ⟨⟨⟨⟨k1, k2⟩, k3⟩, k4⟩, k5⟩ := hk
  refine wp_region_any hm ?_
  have hops : (hd ++ [o]).toArray = hd.toArray.push o := by simp
  rw [hops]
  have hsz : (hd.toArray.push o).size = n + 1 := by simp; omega
  rw [hsz]
  have hrep : Array.replicate (n + 1) false = (Array.replicate n false).push false := by rw [Array.replicate_succ]
  rw [hrep]
  have h1 : ∀ (i : Nat) (oi : Oper), hd.toArray[i]? = some oi → ∀ e ∈ oi.after, Region.binds .any e = true → e.on < i := fun i oi hoi e he hb => by
    have := k5 i (Array.getElem?_eq_some_iff.1 hoi).1
    rw [hoi] at this
    have := Array.all_eq_true_iff_forall_mem.1 this e he
    simpa [hb] using this
  have hF := factsB_spec hB
  have hsize : hd.toArray.size = n := by simpa using l1
  refine wpAny_sink k1 k2 h1 (fun j hj => ?_) (fun e he hb => ?_) n _ a0 _ (by simp; omega) ?_
  · have hh := k3 j hj
    obtain ⟨e, he, h3⟩ := Array.any_eq_true'.1 hh
    simp only [Bool.and_eq_true, beq_iff_eq] at h3
    exact ⟨e, he, h3.1, h3.2⟩
  · have := Array.all_eq_true_iff_forall_mem.1 k4 e he
    simpa [hb] using this
  · refine wpAny_facts (F := F) (G := G) (a0 := a0) hst (fun i i' o o' d h1 h2 h3 h4 => ?_) (fun i o ho => (hF i o ho).1) (fun i o d ho hd => ?_) h1 (fun i oi hoi a w hg hold hdep => ?_) (fun f w hg hf => ?_) _ _ _ _ ⟨by simp; omega, rfl, rfl, fun _ _ => rfl, hG, fun i o d _ _ h => ?_⟩ ?_
    · obtain ⟨_, d', e1, _, e2⟩ := hF i o h1
      rw [h3] at e1
      injection e1 with e1
      subst e1
      exact e2 i' o' h2 h4
    · obtain ⟨_, d', e1, e2, _⟩ := hF i o ho
      rw [hd] at e1
      injection e1 with e1
      subst e1
      exact e2
    · rw [Oper.wp_sink]
      exact hop i oi (by simpa using hoi) a w hg (fun t ht => hold t (fun i o ho => ht i o (by simpa using ho))) (fun e he hb oj d hoj hd => hdep e he hb oj d (by simpa using hoj) hd)
    · refine (hQ f w hg (fun i hi => ?_) _ _ (fun _ _ h => h)).out
      have hi2 : i < hd.toArray.size := by rw [hsize]; exact hi
      have hoi : hd.toArray[i]? = some hd.toArray[i] := Array.getElem?_eq_getElem hi2
      obtain ⟨_, d, hd2, _⟩ := hF i _ hoi
      exact hf i _ d hoi hd2
    · exfalso
      rcases Nat.lt_or_ge i n with h' | h'
      · simp [Array.getD, h'] at h
      · simp [Array.getD, Nat.not_lt.2 h'] at h
    · rw [Array.toList_replicate]
      refine Nat.le_trans List.count_le_length ?_
      simp
end
end Go.Proofs.YthljgiimdcbfpaaDoor
