/- A region that draws its order and makes memory, where operations are guarded by one whose value is known: as LPFacts. -/
import Derived.Test.YthljgiimdcbfpaaDoorLPFacts
namespace Go.Proofs.YthljgiimdcbfpaaDoor
open Go.RowKit
set_option linter.unusedVariables false
set_option linter.unusedSimpArgs false

section
variable {P : Program} {md : Region.Mode}
variable {ops : Array Oper} {F : Nat → Value → World → Prop} {G : World → Prop} {Q : Exit → Act → World → Prop} {a0 : Act}
theorem wpAny_factsG (gj : Nat) (gb : Bool) (hgv : ∀ v w, F gj v w → v = .bool gb)
    (hst : ∀ i v w w', F i v w → Below w.heap.size w w' → F i v w')
    (hinj : ∀ (i i' : Nat) (o o' : Oper) (d : Tmp), ops[i]? = some o → ops[i']? = some o' → o.dst = some d → o'.dst = some d → i = i')
    (hgd : ∀ (i : Nat) (o : Oper), ops[i]? = some o → o.guard = none ∨ (o.guard = some (gj, gb) ∧ (∃ e ∈ o.after, e.on = gj ∧ Region.binds md e = true) ∧ ∃ (oj : Oper) (d : Tmp), ops[gj]? = some oj ∧ oj.dst = some d ∧ d < a0.tmps.size))
    (hlt : ∀ (i : Nat) (o : Oper) (d : Tmp), ops[i]? = some o → o.dst = some d → d < a0.tmps.size)
    (hord : ∀ (i : Nat) (o : Oper), ops[i]? = some o → ∀ e ∈ o.after, Region.binds md e = true → e.on < i)
    (hop : ∀ (i : Nat) (o : Oper), ops[i]? = some o → ∀ (a : Act) (w : World), G w → (∀ t, (∀ (i : Nat) (o : Oper), ops[i]? = some o → o.dst ≠ some t) → a.tmps.getD t undef = a0.tmps.getD t undef) →
      (∀ e ∈ o.after, Region.binds md e = true → ∀ (oj : Oper) (d : Tmp), ops[e.on]? = some oj → oj.dst = some d → F e.on (a.tmps.getD d undef) w) →
      o.wp P a w (fun a' w' => ∃ v, a' = a.put o.dst v ∧ Below w.heap.size w w' ∧ G w' ∧ F i v w') Q)
    (hQ : ∀ (f : Nat → Value) (w : World), G w → (∀ (i : Nat) (o : Oper) (d : Tmp), ops[i]? = some o → o.dst = some d → F i (f i) w) → Q .normal (putAll ops.toList 0 f a0) w) :
    ∀ (fuel : Nat) (listed : Array Bool) (a : Act) (w : World), St ops F G a0 listed a w → listed.toList.count false ≤ fuel → wpAny P md ops Q fuel listed a w := by
  have tf : ∀ (listed : Array Bool) (j : Nat), j < listed.size → listed.getD j true = true → listed.getD j false = true := fun listed j hj h => by
    simp [Array.getD, hj] at h ⊢
    exact h
  -- all are listed: the end
  have hend : ∀ (listed : Array Bool) (a : Act) (w : World), St ops F G a0 listed a w → (∀ j, j < ops.size → listed.getD j true = true) → Q .normal a w := by
    intro listed a w h hl
    have hall : ∀ (i : Nat) (o : Oper) (d : Tmp), ops[i]? = some o → o.dst = some d → F i (a.tmps.getD d undef) w := fun i o d ho hd => by
      have hi := (Array.getElem?_eq_some_iff.1 ho).1
      exact h.fact i o d ho hd (tf listed i (by rw [h.size]; exact hi) (hl i hi))
    have e : a = putAll ops.toList 0 (fun i => a.tmps.getD ((ops[i]?.bind (·.dst)).getD 0) undef) a0 := by
      obtain ⟨s1, s2⟩ := putAll_size ops.toList 0 (fun i => a.tmps.getD ((ops[i]?.bind (·.dst)).getD 0) undef) a0
      have e1 : a.tmps = (putAll ops.toList 0 (fun i => a.tmps.getD ((ops[i]?.bind (·.dst)).getD 0) undef) a0).tmps := by
        refine Array.ext (h.tmps.trans s1.symm) (fun t h1 h2 => ?_)
        have g1 := get_D a.tmps t h1
        have g2 := get_D _ t h2
        rw [g1, g2]
        by_cases hx : ∃ (i : Nat) (o : Oper), ops[i]? = some o ∧ o.dst = some t
        · obtain ⟨i, o, ho, hd⟩ := hx
          rw [putAll_at ops.toList 0 _ a0 i o t (fun i i' o o' d h1 h2 h3 h4 => hinj i i' o o' d (by simpa using h1) (by simpa using h2) h3 h4) (by simpa using ho) hd (by rw [← h.tmps]; exact h1), Nat.zero_add, ho]
          simp [hd]
        · rw [putAll_other ops.toList 0 _ a0 t (fun o ho hd => by
            obtain ⟨i, hi, rfl⟩ := List.mem_iff_getElem.1 ho
            exact hx ⟨i, _, by simp at hi; simp [hi], hd⟩)]
          exact h.old t (fun i o ho hd => hx ⟨i, o, ho, hd⟩)
      have e2 := h.defers.trans s2.symm
      generalize putAll ops.toList 0 (fun i => a.tmps.getD ((ops[i]?.bind (·.dst)).getD 0) undef) a0 = b at e1 e2
      cases a
      cases b
      subst e1
      subst e2
      rfl
    rw [e]
    refine hQ _ w h.glob (fun i o d ho hd => ?_)
    show F i (a.tmps.getD ((ops[i]?.bind (·.dst)).getD 0) undef) w
    rw [ho]
    show F i (a.tmps.getD (o.dst.getD 0) undef) w
    rw [hd]
    exact hall i o d ho hd
  intro fuel
  induction fuel with
  | zero =>
    intro listed a w h hc
    have hl := fun j => listed_none (Nat.le_zero.1 hc) j
    refine ⟨?_, hend listed a w h (fun j _ => hl j)⟩
    rw [List.eq_nil_iff_forall_not_mem]
    intro j hj
    have := (mem_ready.1 hj).1
    rw [hl j] at this
    cases this
  | succ fuel ih =>
    intro listed a w h hc
    refine ⟨fun hr => hend listed a w h ?_, fun i hi => ?_⟩
    · intro j
      induction j using Nat.strongRecOn with
      | ind j ihj =>
        intro hj
        cases hb : listed.getD j true with
        | true => rfl
        | false =>
          exfalso
          have : j ∈ Region.ready md ops listed := mem_ready.2 ⟨hb, ops[j], by simp [hj], fun e he hbd => by
            have hlt2 := hord j ops[j] (by simp [hj]) e he hbd
            exact tf listed _ (by rw [h.size]; omega) (ihj e.on hlt2 (by omega))⟩
          rw [hr] at this
          cases this
    · obtain ⟨hu, o, ho, hall⟩ := mem_ready.1 hi
      have hil := (Array.getElem?_eq_some_iff.1 ho).1
      unfold wpOp
      rw [ho]
      have hw : Region.wanted o (yielded ops a.tmps) = true := by
        rcases hgd i o ho with h0 | ⟨h0, ⟨e, he, hej, heb⟩, oj, d, hoj, hd, hlt2⟩
        · simp [Region.wanted, h0]
        · have hv := hgv _ _ (h.fact gj oj d hoj hd (hej ▸ hall e he heb))
          have hd2 : d < a.tmps.size := by rw [h.tmps]; exact hlt2
          have hy : yielded ops a.tmps gj = some gb := by
            have h3 : a.tmps[d]? = some (.bool gb) := by rw [Array.getElem?_eq_getElem hd2, get_D _ _ hd2, hv]
            unfold yielded
            rw [hoj]
            simp only [Option.bind_some, hd, h3]
          simp [Region.wanted, h0, hy]
      simp only [hw, if_true]
      refine .inl (Oper.wp_mono ?_ (hop i o ho a w h.glob h.old (fun e he hb oj d hoj hd => h.fact e.on oj d hoj hd (hall e he hb))))
      rintro a' w' ⟨v, rfl, hbel, hg, hf⟩
      refine ih _ _ _ ⟨by rw [Array.size_setIfInBounds]; exact h.size, (put_defers _ _ _).trans h.defers, (put_size _ _ _).trans h.tmps, fun t ht => ?_, hg, fun j oj d hoj hd hlj => ?_⟩ (by have := listed_set hu; omega)
      · rw [put_other _ _ _ _ (ht i o ho)]
        exact h.old t ht
      · by_cases hji : j = i
        · subst hji
          rw [ho] at hoj
          injection hoj with hoj
          subst hoj
          rw [hd, put_same _ _ _ (by rw [h.tmps]; exact hlt j o d ho hd)]
          exact hf
        · rw [put_other _ _ _ _ (fun e => hji (hinj j i oj o d hoj ho hd e))]
          rw [getD_set_ne false (Ne.symm hji)] at hlj
          exact hst j _ w w' (h.fact j oj d hoj hd hlj) hbel
def factsBG (init : Array Oper) (n gj : Nat) (gb : Bool) : Bool :=
  decide (gj < init.size) && (List.range init.size).all fun i => (init[i]?).all fun oi => (oi.guard.isNone || (oi.guard == some (gj, gb) && oi.after.any fun e => e.on == gj && Region.binds .any e)) && (match oi.dst with | none => false | some d => decide (d < n) && (List.range init.size).all fun j => (i == j) || (init[j]?).all fun oj => oj.dst != some d)
theorem factsBG_spec {init : Array Oper} {n gj : Nat} {gb : Bool} (h : factsBG init n gj gb = true) (i : Nat) (o : Oper) (ho : init[i]? = some o) :
    (o.guard = none ∨ (o.guard = some (gj, gb) ∧ ∃ e ∈ o.after, e.on = gj ∧ Region.binds .any e = true)) ∧ ∃ d, o.dst = some d ∧ d < n ∧ ∀ (j : Nat) (oj : Oper), init[j]? = some oj → oj.dst = some d → i = j := by
  unfold factsBG at h
  rw [Bool.and_eq_true] at h
  have h1 := List.all_eq_true.1 h.2 i (List.mem_range.2 (Array.getElem?_eq_some_iff.1 ho).1)
  rw [ho] at h1
  simp only [Option.all_some, Bool.and_eq_true, Bool.or_eq_true, Option.isNone_iff_eq_none, beq_iff_eq] at h1
  refine ⟨?_, ?_⟩
  · rcases h1.1 with h2 | ⟨h2, h3⟩
    · exact .inl h2
    · obtain ⟨e, he, h4⟩ := Array.any_eq_true'.1 h3
      simp only [Bool.and_eq_true, beq_iff_eq] at h4
      exact .inr ⟨h2, e, he, h4.1, h4.2⟩
  cases hd : o.dst with
  | none => rw [hd] at h1; cases h1.2
  | some d =>
    rw [hd] at h1
    simp only [Bool.and_eq_true, decide_eq_true_eq] at h1
    refine ⟨d, rfl, h1.2.1, fun j oj hj hdj => ?_⟩
    have h2 := List.all_eq_true.1 h1.2.2 j (List.mem_range.2 (Array.getElem?_eq_some_iff.1 hj).1)
    rw [hj] at h2
    simp only [Option.all_some, Bool.or_eq_true, beq_iff_eq, bne_iff_ne, ne_eq] at h2
    rcases h2 with h2 | h2
    · exact h2
    · exact absurd hdj h2
theorem factsBG_lt {init : Array Oper} {n gj : Nat} {gb : Bool} (h : factsBG init n gj gb = true) : gj < init.size := by
  unfold factsBG at h
  rw [Bool.and_eq_true, decide_eq_true_eq] at h
  exact h.1
/-- THE REGION: n operations that make new blocks alone, in any order, and one behind all of them. -/
theorem wp_region_factsG {id : Nat} {w : World} {l : List Oper} (F : Nat → Value → World → Prop) (G : World → Prop) (n : Nat) (o : Oper) (gj : Nat) (gb : Bool) (hgv : ∀ v w, F gj v w → v = .bool gb) (hm : P.follows .mixedOrders = true)
    (hlast : l.drop n = [o]) (hk : sinkB .any (l.take n).toArray o = true) (hB : factsBG (l.take n).toArray a0.tmps.size gj gb = true)
    (hG : G w.drew) (hst : ∀ i v w w', F i v w → Below w.heap.size w w' → F i v w')
    (hop : ∀ (i : Nat) (oi : Oper), (l.take n)[i]? = some oi → ∀ (a : Act) (w : World), G w → (∀ t, (∀ (i : Nat) (o : Oper), (l.take n)[i]? = some o → o.dst ≠ some t) → a.tmps.getD t undef = a0.tmps.getD t undef) →
      (∀ e ∈ oi.after, Region.binds .any e = true → ∀ (oj : Oper) (d : Tmp), (l.take n)[e.on]? = some oj → oj.dst = some d → F e.on (a.tmps.getD d undef) w) →
      oi.wp P a w (fun a' w' => ∃ v, a' = a.put oi.dst v ∧ Below w.heap.size w w' ∧ G w' ∧ F i v w') Q)
    (hQ : ∀ (f : Nat → Value) (w : World), G w → (∀ i, i < n → F i (f i) w) → ∀ (K : Act → World → Prop) (Q' : Exit → Act → World → Prop), (∀ a' w', Q .normal a' w' → K a' w') → Sealed (o.wp P (putAll (l.take n) 0 f a0) w K Q')) :
    (Code.region id l.toArray true).wp P Q a0 w := by
  have hnm : n + 1 = l.length := by
    have := congrArg List.length hlast
    rw [List.length_drop, List.length_singleton] at this
    omega
  have hl : l = l.take n ++ [o] := by rw [← hlast, List.take_append_drop]
  clear hlast
  generalize l.take n = hd at *
  subst hl
  have l1 : hd.length = n := by rw [List.length_append, List.length_singleton] at hnm; omega
  simp only [sinkB, Bool.and_eq_true, List.all_eq_true, List.mem_range, Option.isNone_iff_eq_none] at hk
  obtain ⟨⟨⟨⟨k1, k2⟩, k3⟩, k4⟩, k5⟩ := hk
  refine wp_region_any hm ?_
  have hops : (hd ++ [o]).toArray = hd.toArray.push o := by simp
  rw [hops]
  have hsz : (hd.toArray.push o).size = n + 1 := by simp; omega
  rw [hsz]
  have hrep : Array.replicate (n + 1) false = (Array.replicate n false).push false := by rw [Array.replicate_succ]
  rw [hrep]
  have h1 : ∀ (i : Nat) (oi : Oper), hd.toArray[i]? = some oi → ∀ e ∈ oi.after, Region.binds .any e = true → e.on < i := fun i oi hoi e he hb => by
    have := k5 i (Array.getElem?_eq_some_iff.1 hoi).1
    rw [hoi] at this
    have := Array.all_eq_true_iff_forall_mem.1 this e he
    simpa [hb] using this
  have hF := factsBG_spec hB
  have hgl := factsBG_lt hB
  have hsize : hd.toArray.size = n := by simpa using l1
  refine wpAny_sink k1 k2 h1 (fun j hj => ?_) (fun e he hb => ?_) n _ a0 _ (by simp; omega) ?_
  · have hh := k3 j hj
    obtain ⟨e, he, h3⟩ := Array.any_eq_true'.1 hh
    simp only [Bool.and_eq_true, beq_iff_eq] at h3
    exact ⟨e, he, h3.1, h3.2⟩
  · have := Array.all_eq_true_iff_forall_mem.1 k4 e he
    simpa [hb] using this
  · refine wpAny_factsG (F := F) (G := G) (a0 := a0) gj gb hgv hst (fun i i' o o' d h1 h2 h3 h4 => ?_) (fun i o ho => by
      rcases (hF i o ho).1 with h0 | ⟨h0, h2⟩
      · exact .inl h0
      · obtain ⟨_, d, e1, e2, _⟩ := hF gj _ (Array.getElem?_eq_getElem hgl)
        exact .inr ⟨h0, h2, _, d, Array.getElem?_eq_getElem hgl, e1, e2⟩) (fun i o d ho hd => ?_) h1 (fun i oi hoi a w hg hold hdep => ?_) (fun f w hg hf => ?_) _ _ _ _ ⟨by simp; omega, rfl, rfl, fun _ _ => rfl, hG, fun i o d _ _ h => ?_⟩ ?_
    · obtain ⟨_, d', e1, _, e2⟩ := hF i o h1
      rw [h3] at e1
      injection e1 with e1
      subst e1
      exact e2 i' o' h2 h4
    · obtain ⟨_, d', e1, e2, _⟩ := hF i o ho
      rw [hd] at e1
      injection e1 with e1
      subst e1
      exact e2
    · rw [Oper.wp_sink]
      exact hop i oi (by simpa using hoi) a w hg (fun t ht => hold t (fun i o ho => ht i o (by simpa using ho))) (fun e he hb oj d hoj hd => hdep e he hb oj d (by simpa using hoj) hd)
    · refine (hQ f w hg (fun i hi => ?_) _ _ (fun _ _ h => h)).out
      have hi2 : i < hd.toArray.size := by rw [hsize]; exact hi
      have hoi : hd.toArray[i]? = some hd.toArray[i] := Array.getElem?_eq_getElem hi2
      obtain ⟨_, d, hd2, _⟩ := hF i _ hoi
      exact hf i _ d hoi hd2
    · exfalso
      rcases Nat.lt_or_ge i n with h' | h'
      · simp [Array.getD, h'] at h
      · simp [Array.getD, Nat.not_lt.2 h'] at h
    · rw [Array.toList_replicate]
      refine Nat.le_trans List.count_le_length ?_
      simp
def ordB (init : Array Oper) : Bool := (List.range init.size).all fun i => (init[i]?).all fun oi => oi.after.all fun e => !Region.binds .any e || decide (e.on < i)
/-- THE REGION: all operations make new blocks alone, in any order. -/
theorem wp_region_allG {id : Nat} {w : World} {l : List Oper} (F : Nat → Value → World → Prop) (G : World → Prop) (gj : Nat) (gb : Bool) (hgv : ∀ v w, F gj v w → v = .bool gb) (hm : P.follows .mixedOrders = true)
    (hk : ordB l.toArray = true) (hB : factsBG l.toArray a0.tmps.size gj gb = true)
    (hG : G w.drew) (hst : ∀ i v w w', F i v w → Below w.heap.size w w' → F i v w')
    (hop : ∀ (i : Nat) (oi : Oper), l[i]? = some oi → ∀ (a : Act) (w : World), G w → (∀ t, (∀ (i : Nat) (o : Oper), l[i]? = some o → o.dst ≠ some t) → a.tmps.getD t undef = a0.tmps.getD t undef) →
      (∀ e ∈ oi.after, Region.binds .any e = true → ∀ (oj : Oper) (d : Tmp), l[e.on]? = some oj → oj.dst = some d → F e.on (a.tmps.getD d undef) w) →
      oi.wp P a w (fun a' w' => ∃ v, a' = a.put oi.dst v ∧ Below w.heap.size w w' ∧ G w' ∧ F i v w') Q)
    (hQ : ∀ (f : Nat → Value) (w : World), G w → (∀ i, i < l.length → F i (f i) w) → ∃ a', putAll l 0 f a0 = a' ∧ Q .normal a' w) :
    (Code.region id l.toArray true).wp P Q a0 w := by
  refine wp_region_any hm ?_
  have h1 : ∀ (i : Nat) (oi : Oper), l.toArray[i]? = some oi → ∀ e ∈ oi.after, Region.binds .any e = true → e.on < i := fun i oi hoi e he hb => by
    have := List.all_eq_true.1 hk i (List.mem_range.2 (Array.getElem?_eq_some_iff.1 hoi).1)
    rw [hoi] at this
    have := Array.all_eq_true_iff_forall_mem.1 this e he
    simpa [hb] using this
  have hF := factsBG_spec hB
  have hgl := factsBG_lt hB
  refine wpAny_factsG (F := F) (G := G) (a0 := a0) gj gb hgv hst (fun i i' o o' d h1 h2 h3 h4 => ?_) (fun i o ho => by
      rcases (hF i o ho).1 with h0 | ⟨h0, h2⟩
      · exact .inl h0
      · obtain ⟨_, d, e1, e2, _⟩ := hF gj _ (Array.getElem?_eq_getElem hgl)
        exact .inr ⟨h0, h2, _, d, Array.getElem?_eq_getElem hgl, e1, e2⟩) (fun i o d ho hd => ?_) h1 (fun i oi hoi a w hg hold hdep => ?_) (fun f w hg hf => ?_) _ _ _ _ ⟨by simp, rfl, rfl, fun _ _ => rfl, hG, fun i o d _ _ h => ?_⟩ ?_
  · obtain ⟨_, d', e1, _, e2⟩ := hF i o h1
    rw [h3] at e1
    injection e1 with e1
    subst e1
    exact e2 i' o' h2 h4
  · obtain ⟨_, d', e1, e2, _⟩ := hF i o ho
    rw [hd] at e1
    injection e1 with e1
    subst e1
    exact e2
  · exact hop i oi (by simpa using hoi) a w hg (fun t ht => hold t (fun i o ho => ht i o (by simpa using ho))) (fun e he hb oj d hoj hd => hdep e he hb oj d (by simpa using hoj) hd)
  · obtain ⟨a', e, hq⟩ := hQ f w hg (fun i hi => by
      have hi2 : i < l.toArray.size := by simpa using hi
      have hoi : l.toArray[i]? = some l.toArray[i] := Array.getElem?_eq_getElem hi2
      obtain ⟨_, d, hd2, _⟩ := hF i _ hoi
      exact hf i _ d hoi hd2)
    rw [show l.toArray.toList = l from rfl, e]
    exact hq
  · exfalso
    rcases Nat.lt_or_ge i l.toArray.size with h' | h'
    · simp [Array.getD, h'] at h
    · simp [Array.getD, Nat.not_lt.2 h'] at h
  · rw [Array.toList_replicate]
    exact Nat.le_trans List.count_le_length (by simp)
end
end Go.Proofs.YthljgiimdcbfpaaDoor
