/- Package regex in plain Lean: patterns without numbers and names, joined. -/
import Derived.Test.YtnbadnmmolagfaaDoorRegPlain
import Derived.Test.YtnbadnmmolagfaaDoorUtfCut
import Derived.Lib.TrimAscii
namespace Go.Proofs.YtnbadnmmolagfaaDoor
set_option linter.unusedVariables false
set_option linter.unusedSimpArgs false

/-- What may stand behind: nothing, a bar or a closing parenthesis. -/
def Stp (t : Ln) : Prop := t = [] ∨ ∃ t', t = 124 :: t' ∨ t = 41 :: t'

theorem hasP_app : ∀ (w r t : Ln), Stp t → w.all (fun c => c != 124 && c != 41) = true → hasP w (r ++ t) = hasP w r
  | [], r, t, _, _ => by cases r <;> cases t <;> rfl
  | a :: w, [], t, ht, hw => by
    rw [List.all_cons, Bool.and_eq_true] at hw
    have h1 := hw.1
    rw [Bool.and_eq_true] at h1
    show List.isPrefixOf (a :: w) t = false
    rcases ht with rfl | ⟨t', rfl | rfl⟩
    · rfl
    · show (a == 124 && _) = false
      have : (a == 124) = false := by simpa using h1.1
      rw [this]; rfl
    · show (a == 41 && _) = false
      have : (a == 41) = false := by simpa using h1.2
      rw [this]; rfl
  | a :: w, c :: r, t, ht, hw => by
    rw [List.all_cons, Bool.and_eq_true] at hw
    show (a == c && hasP w (r ++ t)) = (a == c && hasP w r)
    rw [hasP_app w r t ht hw.2]
theorem hasP_split : ∀ (w r : Ln), hasP w r = true → r = w ++ r.drop w.length
  | [], r, _ => by simp
  | a :: w, [], h => by cases h
  | a :: w, c :: r, h => by
    have h' : (a == c && hasP w r) = true := h
    rw [Bool.and_eq_true] at h'
    have : a = c := eq_of_beq h'.1
    subst this
    have := hasP_split w r h'.2
    simp only [List.length_cons, List.drop_succ_cons, List.cons_append]
    rw [← this]
theorem hasP_self : ∀ (w q : Ln), hasP w (w ++ q) = true
  | [], q => by cases q <;> rfl
  | a :: w, q => by
    show (a == a && hasP w (w ++ q)) = true
    rw [hasP_self w q]; simp
theorem hasP_len {w r : Ln} (h : hasP w r = true) : w.length ≤ r.length := by
  have := congrArg List.length (hasP_split w r h)
  simp at this; omega
theorem hasP_more {w r : Ln} (t : Ln) (h : hasP w r = true) : hasP w (r ++ t) = true := by
  rw [hasP_split w r h, List.append_assoc]; exact hasP_self _ _
theorem drop_more {w r : Ln} (t : Ln) (h : hasP w r = true) : (r ++ t).drop w.length = r.drop w.length ++ t := List.drop_append_of_le_length (hasP_len h)
theorem drop_app {k : Nat} {r : Ln} (t : Ln) (h : k ≤ r.length) : (r ++ t).drop k = r.drop k ++ t := List.drop_append_of_le_length h
theorem wantL_app {w r r1 : Ln} (t : Ln) (h : wantL w r = .ok r1) : wantL w (r ++ t) = .ok (r1 ++ t) := by
  unfold wantL at h ⊢
  split at h
  · rename_i hp
    rw [if_pos (hasP_more t hp), drop_more t hp]
    injection h with h
    rw [h]
  · cases h
theorem wantL_suf {w r r1 : Ln} (h : wantL w r = .ok r1) : r1 = r.drop w.length := by
  unfold wantL at h
  split at h
  · injection h with h; exact h.symm
  · cases h

theorem decF_first (b0 b1 b2 b3 c1 c2 c3 : Nat) (t2 t3 u2 u3 : Bool) : decF b0 b1 b2 b3 false t2 t3 = decF b0 c1 c2 c3 false u2 u3 := by
  unfold decF; simp
theorem decF_second (b0 b1 b2 b3 c2 c3 : Nat) (t3 u3 : Bool) : decF b0 b1 b2 b3 true false t3 = decF b0 b1 c2 c3 true false u3 := by
  unfold decF; simp
theorem decF_third (b0 b1 b2 b3 c3 : Nat) : decF b0 b1 b2 b3 true true false = decF b0 b1 b2 c3 true true false := by
  unfold decF; simp
theorem bytL (l : Ln) (j : Nat) : byt ⟨l.toArray⟩ j = (l.getD j 0).toNat := by
  rw [byt_list]; simp [List.getD_eq_getElem?_getD]
theorem tailL (l : Ln) (j : Nat) : tailB ⟨l.toArray⟩ j = (decide (j < l.length) && decide (128 ≤ (l.getD j 0).toNat) && decide ((l.getD j 0).toNat < 192)) := by
  unfold tailB
  rw [bytL]
  rfl
theorem getD_app {r t : Ln} {j : Nat} (h : j < r.length) : (r ++ t).getD j 0 = r.getD j 0 := by
  simp [List.getD_eq_getElem?_getD, List.getElem?_append_left h]
theorem tail_in {r t : Ln} {j : Nat} (h : j < r.length) : tailB ⟨(r ++ t).toArray⟩ j = tailB ⟨r.toArray⟩ j := by
  rw [tailL, tailL, getD_app h]
  have h1 : decide (j < (r ++ t).length) = true := by simp; omega
  have h2 : decide (j < r.length) = true := by simpa using h
  rw [h1, h2]
theorem tail_out {r : Ln} {j : Nat} (h : r.length ≤ j) : tailB ⟨r.toArray⟩ j = false := by
  rw [tailL]
  have h2 : decide (j < r.length) = false := by simpa using h
  rw [h2]; rfl
theorem tail_stop {r t : Ln} (ht : Stp t) {j : Nat} (h : j = r.length) : tailB ⟨(r ++ t).toArray⟩ j = false := by
  rw [tailL]
  subst h
  rcases ht with rfl | ⟨t', rfl | rfl⟩
  · simp
  · simp
  · simp
/-- A character at the beginning is the same, whatever stands behind the text. -/
theorem decodeL_app {r t : Ln} (ht : Stp t) (hr : r ≠ []) : Lib.decodeL (r ++ t) = Lib.decodeL r := by
  unfold Lib.decodeL
  have hl := List.length_pos_iff.2 hr
  rw [decode_F, decode_F]
  have b0 : byt ⟨(r ++ t).toArray⟩ 0 = byt ⟨r.toArray⟩ 0 := by rw [bytL, bytL, getD_app hl]
  rw [b0]
  by_cases h1 : 1 < r.length
  · have e1 : byt ⟨(r ++ t).toArray⟩ 1 = byt ⟨r.toArray⟩ 1 := by rw [bytL, bytL, getD_app h1]
    have f1 := tail_in (t := t) h1
    simp only [Nat.zero_add]
    rw [e1, f1]
    by_cases h2 : 2 < r.length
    · have e2 : byt ⟨(r ++ t).toArray⟩ 2 = byt ⟨r.toArray⟩ 2 := by rw [bytL, bytL, getD_app h2]
      have f2 := tail_in (t := t) h2
      rw [e2, f2]
      by_cases h3 : 3 < r.length
      · have e3 : byt ⟨(r ++ t).toArray⟩ 3 = byt ⟨r.toArray⟩ 3 := by rw [bytL, bytL, getD_app h3]
        have f3 := tail_in (t := t) h3
        rw [e3, f3]
      · have f3 := tail_stop (r := r) ht (j := 3) (by omega)
        have g3 := tail_out (r := r) (j := 3) (by omega)
        rw [f3, g3]
        cases tailB ⟨r.toArray⟩ 1
        · exact decF_first _ _ _ _ _ _ _ _ _ _ _
        · cases tailB ⟨r.toArray⟩ 2
          · exact decF_second _ _ _ _ _ _ _ _
          · exact decF_third _ _ _ _ _
    · have f2 := tail_stop (r := r) ht (j := 2) (by omega)
      have g2 := tail_out (r := r) (j := 2) (by omega)
      rw [f2, g2]
      cases tailB ⟨r.toArray⟩ 1
      · exact decF_first _ _ _ _ _ _ _ _ _ _ _
      · exact decF_second _ _ _ _ _ _ _ _
  · have f1 := tail_stop (r := r) ht (j := 1) (by omega)
    have g1 := tail_out (r := r) (j := 1) (by omega)
    simp only [Nat.zero_add]
    rw [f1, g1]
    exact decF_first _ _ _ _ _ _ _ _ _ _ _
theorem nextL_app {r t : Ln} (ht : Stp t) (hr : r ≠ []) : nextL (r ++ t) = nextL r := by
  unfold nextL
  rw [if_neg hr, if_neg (by simp [hr]), decodeL_app ht hr]
theorem nextL_in (r : Ln) : (nextL r).2 ≤ r.length := by
  unfold nextL
  split
  · simp
  · rename_i h
    split
    · simp
    · have h1 : Lib.decodeL r = Utf8.decode ⟨r.toArray⟩ 0 := rfl
      rw [h1]
      have h2 := decode_in (⟨r.toArray⟩ : ByteArray) 0 (by have := List.length_pos_iff.2 h; simpa [ByteArray.size] using this)
      simpa [ByteArray.size] using h2
theorem takeL_okJ {r r1 : Ln} {c : Nat} (h : takeL r = .ok (c, r1)) : r ≠ [] ∧ r1 = r.drop (nextL r).2 ∧ c = (nextL r).1 ∧ (nextL r).2 ≠ 0 := by
  unfold takeL at h
  split at h
  · cases h
  · rename_i hn
    injection h with h
    injection h with h1 h2
    refine ⟨?_, h2.symm, h1.symm, hn⟩
    rintro rfl
    exact hn rfl
theorem takeL_app {r r1 t : Ln} {c : Nat} (ht : Stp t) (h : takeL r = .ok (c, r1)) : takeL (r ++ t) = .ok (c, r1 ++ t) := by
  obtain ⟨hr, h1, h2, h3⟩ := takeL_okJ h
  unfold takeL
  rw [nextL_app ht hr, if_neg h3, drop_app t (nextL_in r), h1, h2]
theorem peek_app {r : Ln} (t : Ln) (hr : r ≠ []) : peekL (r ++ t) = peekL r := by
  unfold peekL
  rw [getD_app (List.length_pos_iff.2 hr)]
theorem peek_nil : peekL [] = 0 := rfl
/-- A letter that is not one of the stops stands there, or it does not. -/
theorem peek_is {r t : Ln} (ht : Stp t) {c : Nat} (hc : c ≠ 0 ∧ c ≠ 124 ∧ c ≠ 41) : (peekL (r ++ t) = c) ↔ (peekL r = c) := by
  cases r with
  | nil =>
    rw [peek_nil]
    rcases ht with rfl | ⟨t', rfl | rfl⟩
    · simp [peekL]
    · show (124 = c) ↔ (0 = c); omega
    · show (41 = c) ↔ (0 = c); omega
  | cons a r => rw [peek_app t (by simp)]
theorem peek_digit {r t : Ln} (ht : Stp t) : digitB (peekL (r ++ t)) = digitB (peekL r) := by
  cases r with
  | nil =>
    rcases ht with rfl | ⟨t', rfl | rfl⟩
    · rfl
    · rfl
    · rfl
  | cons a r => rw [peek_app t (by simp)]
theorem peek_cons {r : Ln} (h : peekL r ≠ 0) : r ≠ [] := by rintro rfl; exact h rfl

theorem takeW_app (r t : Ln) (ht : Stp t) : (r ++ t).takeWhile dig8 = r.takeWhile dig8 := by
  induction r with
  | nil =>
    rcases ht with rfl | ⟨t', rfl | rfl⟩
    · rfl
    · rfl
    · rfl
  | cons a r ih =>
    simp only [List.cons_append, List.takeWhile_cons]
    cases dig8 a
    · rfl
    · simp [ih]
theorem dropW_app (r t : Ln) (ht : Stp t) : (r ++ t).dropWhile dig8 = r.dropWhile dig8 ++ t := by
  induction r with
  | nil =>
    rcases ht with rfl | ⟨t', rfl | rfl⟩
    · rfl
    · rfl
    · rfl
  | cons a r ih =>
    simp only [List.cons_append, List.dropWhile_cons]
    cases dig8 a
    · rfl
    · simp [ih]
theorem digitsL_app {r r1 d t : Ln} (ht : Stp t) (h : digitsL r = .ok (d, r1)) : digitsL (r ++ t) = .ok (d, r1 ++ t) := by
  unfold digitsL at h ⊢
  rw [takeW_app r t ht, dropW_app r t ht]
  split at h
  · cases h
  · rename_i hn
    rw [if_neg hn]
    injection h with h
    injection h with h1 h2
    rw [h1, h2]
theorem skip_app {w r t : Ln} (ht : Stp t) (hw : w.all (fun c => c != 124 && c != 41) = true) : skipL w (r ++ t) = skipL w r ++ t := by
  unfold skipL
  rw [hasP_app w r t ht hw]
  split
  · rename_i h; exact drop_more t h
  · rfl
theorem bind_ok {α β ε : Type} {x : Except ε α} {f : α → Except ε β} {y : β} (h : (x >>= f) = .ok y) : ∃ a, x = .ok a ∧ f a = .ok y := by
  cases x with
  | error e => cases h
  | ok a => exact ⟨a, rfl, h⟩
theorem ok_bind {α β ε : Type} {a : α} {f : α → Except ε β} : ((Except.ok a : Except ε α) >>= f) = f a := rfl

theorem braces_app {r r1 r5 t : Ln} (ht : Stp t) (r' : Ln) (h : bracesL r r1 = .ok r5) : bracesL r' (r1 ++ t) = .ok (r5 ++ t) := by
  unfold bracesL at h ⊢
  obtain ⟨⟨least, r2⟩, h1, h2⟩ := bind_ok h
  rw [digitsL_app ht h1, ok_bind]
  simp only [] at h2 ⊢
  rw [hasP_app [44] r2 t ht (by decide)]
  split at h2
  · rename_i hp
    rw [if_pos hp]
    have hd : (r2 ++ t).drop 1 = r2.drop 1 ++ t := drop_more t hp
    rw [hd, peek_digit ht]
    split at h2
    · rename_i hq
      rw [if_pos hq]
      obtain ⟨⟨most, r4⟩, h3, h4⟩ := bind_ok h2
      rw [digitsL_app ht h3, ok_bind]
      obtain ⟨r5', h5, h6⟩ := bind_ok h4
      simp only [] at h5 h6 ⊢
      rw [wantL_app t h5, ok_bind]
      split at h6
      · cases h6
      · rename_i hb
        rw [if_neg hb, skip_app ht (by decide)]
        injection h6 with h6
        rw [h6]
    · rename_i hq
      rw [if_neg hq]
      obtain ⟨r5', h5, h6⟩ := bind_ok h2
      rw [wantL_app t h5, ok_bind, skip_app ht (by decide)]
      injection h6 with h6
      rw [h6]
  · rename_i hp
    rw [if_neg hp]
    obtain ⟨r5', h5, h6⟩ := bind_ok h2
    rw [wantL_app t h5, ok_bind, skip_app ht (by decide)]
    injection h6 with h6
    rw [h6]
theorem quant_app {r r1 t : Ln} (ht : Stp t) (h : quantL r = .ok r1) : quantL (r ++ t) = .ok (r1 ++ t) := by
  unfold quantL at h ⊢
  rw [hasP_app [42] r t ht (by decide), hasP_app [43] r t ht (by decide), hasP_app [63] r t ht (by decide), hasP_app [123] r t ht (by decide)]
  split at h
  · rename_i hp
    rw [if_pos hp]
    have hl : 1 ≤ r.length := by
      simp only [Bool.or_eq_true] at hp
      rcases hp with (hp | hp) | hp <;> exact hasP_len hp
    rw [drop_app t hl, skip_app ht (by decide)]
    injection h with h
    rw [h]
  · rename_i hp
    rw [if_neg hp]
    split at h
    · rename_i hq
      rw [if_pos hq]
      have hd : (r ++ t).drop 1 = r.drop 1 ++ t := drop_more t hq
      rw [hd]
      exact braces_app ht _ h
    · rename_i hq
      rw [if_neg hq]
      injection h with h
      rw [h]

theorem prop_app {t : Ln} (ht : Stp t) : ∀ (f : Nat) (r r1 : Ln), propR f r = .ok r1 → ∀ g, f ≤ g → propR g (r ++ t) = .ok (r1 ++ t) ∧ r1 ≠ [] ∧ r1.length ≤ r.length
  | 0, r, r1, h, g, hg => by cases h
  | f + 1, r, r1, h, g, hg => by
    obtain ⟨g', rfl⟩ : ∃ g', g = g' + 1 := ⟨g - 1, by omega⟩
    unfold propR at h ⊢
    by_cases hp : peekL r = 125
    · rw [if_pos hp] at h
      rw [if_pos ((peek_is ht (by decide)).2 hp)]
      injection h with h
      subst h
      exact ⟨rfl, peek_cons (by omega), Nat.le_refl _⟩
    · rw [if_neg hp] at h
      rw [if_neg (fun hh => hp ((peek_is ht (by decide)).1 hh))]
      cases ht1 : takeL r with
      | error e => rw [ht1] at h; cases h
      | ok p =>
        obtain ⟨c, r2⟩ := p
        rw [ht1] at h
        rw [takeL_app ht ht1]
        obtain ⟨k1, k2, k3⟩ := prop_app ht f r2 r1 h g' (by omega)
        refine ⟨k1, k2, ?_⟩
        have := (takeL_okJ ht1).2.1
        rw [this, List.length_drop] at k3
        omega
theorem getD0_app {r : Ln} (t : Ln) (hr : r ≠ []) : (r ++ t).getD 0 0 = r.getD 0 0 := getD_app (List.length_pos_iff.2 hr)
theorem set_app {u : Bool} {r t : Ln} {o : Option Ln} (ht : Stp t) (hr : r ≠ []) (h : setL u r = .ok o) : setL u (r ++ t) = .ok (o.map (· ++ t)) := by
  have hl := List.length_pos_iff.2 hr
  unfold setL at h ⊢
  rw [peek_app t hr, getD0_app t hr]
  split at h
  · rename_i hp
    rw [if_pos hp, drop_app t (by omega)]
    injection h with h
    rw [← h]; rfl
  · rename_i hp
    rw [if_neg hp]
    split at h
    · rename_i hq
      rw [if_pos hq, drop_app t (by omega)]
      obtain ⟨r2, h1, h2⟩ := bind_ok h
      rw [wantL_app t h1, ok_bind]
      obtain ⟨r3, h3, h4⟩ := bind_ok h2
      obtain ⟨k1, k2, k3⟩ := prop_app ht _ _ _ h3 ((r2 ++ t).length + 1) (by simp)
      rw [k1, ok_bind]
      have e : (r2 ++ t).take ((r2 ++ t).length - (r3 ++ t).length) = r2.take (r2.length - r3.length) := by
        have : (r2 ++ t).length - (r3 ++ t).length = r2.length - r3.length := by simp; omega
        rw [this, List.take_append_of_le_length (by omega)]
      rw [e]
      split at h4
      · rename_i hb
        rw [if_pos hb, drop_app t (by have := List.length_pos_iff.2 k2; omega)]
        injection h4 with h4
        rw [← h4]; rfl
      · cases h4
    · rename_i hq
      rw [if_neg hq]
      injection h with h
      rw [← h]; rfl
theorem hexes_app {t : Ln} : ∀ (k x : Nat) (r : Ln) (y : Nat) (r1 : Ln), hexesL k x r = .ok (y, r1) → hexesL k x (r ++ t) = .ok (y, r1 ++ t)
  | 0, x, r, y, r1, h => by
    injection h with h
    injection h with h1 h2
    subst h1; subst h2; rfl
  | k + 1, x, r, y, r1, h => by
    unfold hexesL at h ⊢
    have hr : r ≠ [] := by rintro rfl; cases h
    rw [peek_app t hr]
    cases hx : hexL (peekL r) with
    | none => rw [hx] at h; cases h
    | some v =>
      rw [hx] at h
      simp only [] at h ⊢
      rw [drop_app t (List.length_pos_iff.2 hr)]
      exact hexes_app k _ _ _ _ h
theorem braced_app {t : Ln} (ht : Stp t) : ∀ (f x : Nat) (r : Ln) (g : Nat), r.length ≤ f → (r ++ t).length ≤ g → bracedR g x (r ++ t) = ((bracedR f x r).1, (bracedR f x r).2 ++ t)
  | 0, x, r, g, hf, hg => by
    have : r = [] := List.length_eq_zero_iff.1 (by omega)
    subst this
    cases g with
    | zero => rfl
    | succ g =>
      rcases ht with rfl | ⟨t', rfl | rfl⟩
      · rfl
      · rfl
      · rfl
  | f + 1, x, r, g, hf, hg => by
    by_cases hr : r = []
    · subst hr
      cases g with
      | zero => rfl
      | succ g =>
        rcases ht with rfl | ⟨t', rfl | rfl⟩
        · rfl
        · rfl
        · rfl
    · have hl := List.length_pos_iff.2 hr
      obtain ⟨g', rfl⟩ : ∃ g', g = g' + 1 := ⟨g - 1, by simp at hg; omega⟩
      unfold bracedR
      rw [peek_app t hr]
      cases hx : hexL (peekL r) with
      | none => rfl
      | some v =>
        simp only []
        rw [drop_app t hl]
        exact braced_app ht f _ _ g' (by simp; omega) (by simp at hg ⊢; omega)
theorem bracedL_app {r r1 t : Ln} {c : Nat} (ht : Stp t) (h : bracedL r = .ok (c, r1)) : bracedL (r ++ t) = .ok (c, r1 ++ t) := by
  unfold bracedL at h ⊢
  obtain ⟨⟨x, r2⟩, h1, h2⟩ := bind_ok h
  rw [hexes_app _ _ _ _ _ h1, ok_bind]
  simp only [] at h2 ⊢
  rw [braced_app ht r2.length x r2 _ (Nat.le_refl _) (Nat.le_refl _)]
  simp only []
  split at h2
  · cases h2
  · rename_i hb
    simp only [Bool.or_eq_true, not_or, decide_eq_true_eq, Decidable.not_not] at hb
    have h125 : peekL (bracedR r2.length x r2).2 = 125 := by simpa using hb.1
    have hne := peek_cons (r := (bracedR r2.length x r2).2) (by omega)
    rw [peek_app t hne, if_neg (by simp only [Bool.or_eq_true, not_or, decide_eq_true_eq, Decidable.not_not]; exact hb), drop_app t (List.length_pos_iff.2 hne)]
    injection h2 with h2
    injection h2 with h3 h4
    rw [h3, h4]
theorem idle_app {u : Bool} {r q r1 t : Ln} {c d : Nat} {r2 : Ln} (h : idleL u r c r1 = .ok (d, r2)) : idleL u q c (r1 ++ t) = .ok (d, r2 ++ t) := by
  unfold idleL at h ⊢
  split at h
  · cases h
  · rename_i hb
    rw [if_neg hb]
    injection h with h
    injection h with h1 h2
    rw [h1, h2]
theorem escape_app {u : Bool} {r r1 t : Ln} {c : Nat} (ht : Stp t) (h : escapeL u r = .ok (c, r1)) : escapeL u (r ++ t) = .ok (c, r1 ++ t) := by
  unfold escapeL at h ⊢
  obtain ⟨⟨x, r2⟩, h1, h2⟩ := bind_ok h
  rw [takeL_app ht h1, ok_bind]
  simp only [] at h2 ⊢
  split at h2
  · rename_i hx
    rw [if_pos hx]
    split at h2
    · rename_i hl
      have hne : r2 ≠ [] := by rintro rfl; cases hl
      rw [peek_app t hne, if_pos hl, drop_app t (List.length_pos_iff.2 hne)]
      injection h2 with h2
      injection h2 with h3 h4
      rw [h3, h4]
    · cases h2
  · rename_i hx
    rw [if_neg hx]
    split at h2
    · rename_i hx2
      rw [if_pos hx2, peek_digit ht]
      split at h2
      · cases h2
      · rename_i hd
        rw [if_neg hd]
        injection h2 with h2
        injection h2 with h3 h4
        rw [h3, h4]
    · rename_i hx2
      rw [if_neg hx2]
      split at h2
      · rename_i hx3
        rw [if_pos hx3]
        exact hexes_app _ _ _ _ _ h2
      · rename_i hx3
        rw [if_neg hx3]
        split at h2
        · rename_i hx4
          rw [if_pos hx4, hasP_app [123] r2 t ht (by decide)]
          split at h2
          · rename_i hb
            rw [if_pos hb]
            have hb' : hasP [123] r2 = true := by simp only [Bool.and_eq_true] at hb; exact hb.2
            have hd : (r2 ++ t).drop 1 = r2.drop 1 ++ t := drop_more t hb'
            rw [hd]
            exact bracedL_app ht h2
          · rename_i hb
            rw [if_neg hb]
            exact hexes_app _ _ _ _ _ h2
        · rename_i hx4
          rw [if_neg hx4]
          cases hs : simpleL x with
          | some y =>
            rw [hs] at h2
            simp only [] at h2 ⊢
            injection h2 with h2
            injection h2 with h3 h4
            rw [h3, h4]
          | none =>
            rw [hs] at h2
            simp only [] at h2 ⊢
            exact idle_app h2
end Go.Proofs.YtnbadnmmolagfaaDoor
