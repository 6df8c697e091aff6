/- EditsBack in plain Lean: the script done makes the other text; its form; a text and itself. -/
import Derived.Test.YtakolehlaejhfaaEdAllPlain
import Derived.Test.YtakolehlaejhfaaEdLongPlain
namespace Go.Proofs.Ytakolehlaejhfaa

/-- Pairs that ascend, their lines the same. -/
def Chain (a b : List Ln) : List (Nat × Nat) → Nat → Nat → Prop
  | [], i, k => i ≤ a.length ∧ k ≤ b.length
  | p :: ps, i, k => i ≤ p.1 ∧ p.1 < a.length ∧ k ≤ p.2 ∧ p.2 < b.length ∧ a[p.1]? = b[p.2]? ∧ Chain a b ps (p.1 + 1) (p.2 + 1)
theorem chain_pairs (a b : List Ln) : ∀ (ps : List (Nat × Nat)) (i k : Nat), i ≤ a.length → k ≤ b.length → pairsB (a.drop i) (b.drop k) i k = ps → Chain a b ps i k
  | [], i, k, hi, hk, _ => ⟨hi, hk⟩
  | p :: ps, i, k, hi, hk, h => by
    obtain ⟨h1, h2, h3, h4, h5⟩ := pairsB_tail _ _ _ _ _ _ h
    have h6 := (pairsB_ok (a.drop i) (b.drop k) i k p (by rw [h]; simp)).2.2.2.2
    rw [List.length_drop] at h2 h4
    rw [List.getElem?_drop, List.getElem?_drop, show i + (p.1 - i) = p.1 by omega, show k + (p.2 - k) = p.2 by omega] at h6
    rw [List.drop_drop, List.drop_drop, show i + (p.1 + 1 - i) = p.1 + 1 by omega, show k + (p.2 + 1 - k) = p.2 + 1 by omega] at h5
    exact ⟨h1, by omega, h3, by omega, h6, chain_pairs a b ps _ _ (by omega) (by omega) h5.symm⟩
theorem take_flat1 (L : List Ln) (n : Nat) (x : Ln) (h : L[n]? = some x) : (L.take (n + 1)).flatten = (L.take n).flatten ++ x := by
  rw [List.take_add_one, h]; simp
theorem drop_flat1 (L : List Ln) (n : Nat) (x : Ln) (h : L[n]? = some x) : (L.drop n).flatten = x ++ (L.drop (n + 1)).flatten := by
  obtain ⟨h1, rfl⟩ := List.getElem?_eq_some_iff.1 h
  rw [List.drop_eq_getElem_cons h1, List.flatten_cons]
theorem apply_eds (a b : List Ln) : ∀ (ps : List (Nat × Nat)) (keep i k : Nat), keep ≤ i → Chain a b ps i k →
    applyB (a.drop (i - keep)) (edsB a.length b ps keep i k) = some (((a.drop (i - keep)).take keep).flatten ++ (b.drop k).flatten)
  | [], keep, i, k, hki, h => by
    obtain ⟨h1, h2⟩ := h
    rw [edsB_nil]
    split
    · rw [show (a.length : Int) - i = ((a.length - i : Nat) : Int) by omega, apply_one, if_pos (by rw [List.length_drop]; omega)]
    · rename_i hn
      have hb : b.drop k = [] := List.drop_eq_nil_of_le (by omega)
      split
      · rw [show (0 : Int) = ((0 : Nat) : Int) by rfl, apply_one, if_pos (by rw [List.length_drop]; omega), hb]
      · have ha : a.drop (i - keep) = [] := List.drop_eq_nil_of_le (by omega)
        rw [ha, hb]
        simp [applyB]
  | p :: ps, keep, i, k, hki, h => by
    obtain ⟨h1, h2, h3, h4, h5, h6⟩ := h
    have hx : a[p.1]? = some a[p.1] := List.getElem?_eq_getElem h2
    rw [hx] at h5
    have ha := drop_flat1 b p.2 _ h5.symm
    by_cases hc : i < p.1 ∨ k < p.2
    · rw [edsB_yes _ _ _ _ _ _ _ hc]
      have ih := apply_eds a b ps 1 (p.1 + 1) (p.2 + 1) (by omega) h6
      have hg : ¬ badE (a.drop (i - keep)).length ⟨keep, (p.1 : Int) - i, (b.drop k).take (p.2 - k)⟩ := by
        unfold badE
        rw [List.length_drop]
        simp only
        omega
      rw [applyB_good hg]
      simp only [List.drop_drop, Int.toNat_natCast]
      rw [show i - keep + (keep + ((p.1 : Int) - i).toNat) = p.1 + 1 - 1 by omega, ih]
      have e1 : ((a.drop (p.1 + 1 - 1)).take 1).flatten = a[p.1] := by
        rw [show p.1 + 1 - 1 = p.1 by omega, List.drop_eq_getElem_cons h2, List.take_succ_cons, List.take_zero, List.flatten_cons, List.flatten_nil, List.append_nil]
      have e2 : (b.drop k).flatten = ((b.drop k).take (p.2 - k)).flatten ++ (b.drop p.2).flatten := by
        have := congrArg List.flatten (List.take_append_drop (p.2 - k) (b.drop k))
        rw [List.flatten_append, List.drop_drop, show k + (p.2 - k) = p.2 by omega] at this
        exact this.symm
      rw [e1, e2, ha]
      simp
    · rw [edsB_no _ _ _ _ _ _ _ hc]
      have ei : p.1 = i := by omega
      have ek : p.2 = k := by omega
      have ih := apply_eds a b ps (keep + 1) (p.1 + 1) (p.2 + 1) (by omega) h6
      rw [show p.1 + 1 - (keep + 1) = i - keep by omega] at ih
      rw [ih, take_flat1 (a.drop (i - keep)) keep a[p.1] (by rw [List.getElem?_drop, show i - keep + keep = p.1 by omega, hx])]
      rw [← ek, ha]
      simp
theorem apply_script (a b : List Ln) : applyB a (scriptB a b) = some b.flatten := by
  have := apply_eds a b (pairsB a b 0 0) 0 0 0 (Nat.le_refl _) (chain_pairs a b _ 0 0 (Nat.zero_le _) (Nat.zero_le _) rfl)
  simpa [scriptB] using this
/-- What every edit of a script keeps to. -/
def FormAt (es : List Ed) (keep : Nat) : Prop := ∀ j e, es[j]? = some e → ((0 < j ∨ 0 < keep) → 0 < e.keep) ∧ (j + 1 < es.length → 0 < e.drop ∨ e.put ≠ []) ∧ 0 ≤ e.keep ∧ 0 ≤ e.drop
theorem FormAt.one (x : Ed) (keep : Nat) (h1 : 0 < keep → 0 < x.keep) (h2 : 0 ≤ x.keep) (h3 : 0 ≤ x.drop) : FormAt [x] keep := by
  intro j e h
  cases j with
  | succ j => simp at h
  | zero =>
    simp at h; subst h
    exact ⟨fun h => h1 (by omega), by simp, h2, h3⟩
theorem form_eds (a b : List Ln) : ∀ (ps : List (Nat × Nat)) (keep i k : Nat), Chain a b ps i k → FormAt (edsB a.length b ps keep i k) keep
  | [], keep, i, k, h => by
    obtain ⟨h1, h2⟩ := h
    rw [edsB_nil]
    split
    · exact FormAt.one _ _ (by simp) (by simp) (by simp; omega)
    · split
      · exact FormAt.one _ _ (by simp) (by simp) (by simp)
      · intro j e h; simp at h
  | p :: ps, keep, i, k, h => by
    obtain ⟨h1, h2, h3, h4, h5, h6⟩ := h
    by_cases hc : i < p.1 ∨ k < p.2
    · rw [edsB_yes _ _ _ _ _ _ _ hc]
      have ih := form_eds a b ps 1 (p.1 + 1) (p.2 + 1) h6
      intro j e he
      cases j with
      | zero =>
        simp at he; subst he
        refine ⟨by simp, fun _ => ?_, by simp, by simp; omega⟩
        rcases hc with hc | hc
        · exact .inl (by simp; omega)
        · refine .inr (fun e0 => ?_)
          have := congrArg List.length e0
          simp only [List.length_take, List.length_drop, List.length_nil] at this
          omega
      | succ j =>
        rw [List.getElem?_cons_succ] at he
        obtain ⟨g1, g2, g3, g4⟩ := ih j e he
        exact ⟨fun _ => g1 (by omega), fun hl => g2 (by simpa using hl), g3, g4⟩
    · rw [edsB_no _ _ _ _ _ _ _ hc]
      have ih := form_eds a b ps (keep + 1) (p.1 + 1) (p.2 + 1) h6
      intro j e he
      obtain ⟨g1, g2, g3, g4⟩ := ih j e he
      exact ⟨fun _ => g1 (by omega), g2, g3, g4⟩
theorem form_script (a b : List Ln) : FormAt (scriptB a b) 0 := form_eds a b _ 0 0 0 (chain_pairs a b _ 0 0 (Nat.zero_le _) (Nat.zero_le _) rfl)
theorem lcs_self : ∀ a : List Ln, lcs a a = a.length
  | [] => rfl
  | x :: xs => by
    have h1 := lcs_match x xs (x :: xs) 0 rfl
    have h2 := lcs_le (x :: xs) (x :: xs)
    have h3 := lcs_self xs
    simp only [List.drop_succ_cons, List.drop_zero, List.length_cons] at h1 h2 ⊢
    omega
theorem pairs_self (x : Ln) (xs : List Ln) (i k : Nat) : pairsB (x :: xs) (x :: xs) i k = (i, k) :: pairsB xs xs (i + 1) (k + 1) := by
  have h : keptAt x xs (x :: xs) = some 0 := by
    unfold keptAt
    rw [show idxOfLn x (x :: xs) = some 0 by simp [idxOfLn]]
    simp only [List.drop_succ_cons, List.drop_zero, lcs_self, List.length_cons]
    rw [if_pos trivial]
  conv => lhs; unfold pairsB
  rw [h]
  simp
theorem eds_self (b : List Ln) : ∀ (xs : List Ln) (keep i : Nat), i + xs.length = b.length → (edsB b.length b (pairsB xs xs i i) keep i i).length ≤ 1
  | [], keep, i, h => by
    simp only [pairsB]
    rw [edsB_nil]
    split
    · simp
    · split <;> simp
  | x :: xs, keep, i, h => by
    rw [pairs_self, edsB_no _ _ _ _ _ _ _ (by simp)]
    exact eds_self b xs (keep + 1) (i + 1) (by simp at h; omega)
theorem script_self (a : List Ln) : (scriptB a a).length ≤ 1 := eds_self a a 0 0 (by simp)
theorem put_eds (a b : List Ln) : ∀ (ps : List (Nat × Nat)) (keep i k : Nat), Chain a b ps i k → putSum (edsB a.length b ps keep i k) ≤ (b.drop k).flatten.length ∧ ∀ e ∈ edsB a.length b ps keep i k, e.put.length ≤ b.length ∧ e.drop ≤ a.length
  | [], keep, i, k, h => by
    obtain ⟨h1, h2⟩ := h
    rw [edsB_nil]
    split
    · refine ⟨by simp [putSum], fun e he => ?_⟩
      simp at he; subst he
      simp only [List.length_drop]
      omega
    · split
      · exact ⟨by simp [putSum], fun e he => by simp at he; subst he; simp⟩
      · exact ⟨by simp [putSum], fun e he => by simp at he⟩
  | p :: ps, keep, i, k, h => by
    obtain ⟨h1, h2, h3, h4, h5, h6⟩ := h
    by_cases hc : i < p.1 ∨ k < p.2
    · rw [edsB_yes _ _ _ _ _ _ _ hc]
      obtain ⟨g1, g2⟩ := put_eds a b ps 1 (p.1 + 1) (p.2 + 1) h6
      have e2 : (b.drop k).flatten.length = ((b.drop k).take (p.2 - k)).flatten.length + (b.drop p.2).flatten.length := by
        have := congrArg (fun x : List Ln => x.flatten.length) (List.take_append_drop (p.2 - k) (b.drop k))
        simp only [List.flatten_append, List.length_append, List.drop_drop, show k + (p.2 - k) = p.2 by omega] at this
        exact this.symm
      have e3 := drop_flat1 b p.2 _ (List.getElem?_eq_getElem h4)
      rw [e3, List.length_append] at e2
      refine ⟨?_, fun e he => ?_⟩
      · unfold putSum at g1 ⊢
        simp only [List.map_cons, List.sum_cons]
        omega
      · rcases List.mem_cons.1 he with rfl | he
        · simp only [List.length_take, List.length_drop]
          omega
        · exact g2 e he
    · rw [edsB_no _ _ _ _ _ _ _ hc]
      obtain ⟨g1, g2⟩ := put_eds a b ps (keep + 1) (p.1 + 1) (p.2 + 1) h6
      have e3 := drop_flat1 b p.2 _ (List.getElem?_eq_getElem h4)
      have ek : k = p.2 := by omega
      have hl : (b.drop (p.2 + 1)).flatten.length ≤ (b.drop k).flatten.length := by
        rw [ek, e3, List.length_append]; omega
      exact ⟨by omega, g2⟩
theorem put_script (a b : List Ln) : putSum (scriptB a b) ≤ b.flatten.length ∧ ∀ e ∈ scriptB a b, e.put.length ≤ b.length ∧ e.drop ≤ a.length := by
  have := put_eds a b _ 0 0 0 (chain_pairs a b _ 0 0 (Nat.zero_le _) (Nat.zero_le _) rfl)
  simpa [scriptB] using this
end Go.Proofs.Ytakolehlaejhfaa
