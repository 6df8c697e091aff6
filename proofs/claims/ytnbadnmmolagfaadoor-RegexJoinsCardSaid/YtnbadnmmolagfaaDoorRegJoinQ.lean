/- Package regex in plain Lean: patterns without numbers and names, joined: classes, atoms, whole patterns. -/
import Derived.Test.YtnbadnmmolagfaaDoorRegJoinP
namespace Go.Proofs.YtnbadnmmolagfaaDoor
set_option linter.unusedVariables false
set_option linter.unusedSimpArgs false

def Pt.more (t : Ln) (p : Pt) : Pt := { p with rem := p.rem + t.length }
theorem point_app {u : Bool} {r r1 t : Ln} {p : Pt} (ht : Stp t) (h : pointL u r = .ok (p, r1)) : pointL u (r ++ t) = .ok (p.more t, r1 ++ t) := by
  unfold pointL at h ⊢
  rw [hasP_app [92] r t ht (by decide)]
  split at h
  · rename_i hp
    rw [if_pos hp]
    have hd : (r ++ t).drop 1 = r.drop 1 ++ t := drop_more t hp
    rw [hd, hasP_app [98] _ t ht (by decide), hasP_app [45] _ t ht (by decide)]
    split at h
    · rename_i hb
      rw [if_pos hb]
      injection h with h
      injection h with h1 h2
      subst h1; subst h2
      have : 1 ≤ (r.drop 1).length := hasP_len hb
      rw [List.length_drop] at this
      rw [drop_app t (by omega)]
      simp [Pt.more]
    · rename_i hb
      rw [if_neg hb]
      split at h
      · rename_i hc
        rw [if_pos hc]
        injection h with h
        injection h with h1 h2
        subst h1; subst h2
        have hc' : hasP [45] (r.drop 1) = true := by simp only [Bool.and_eq_true] at hc; exact hc.2
        have : 1 ≤ (r.drop 1).length := hasP_len hc'
        rw [List.length_drop] at this
        rw [drop_app t (by omega)]
        simp [Pt.more]
      · rename_i hc
        rw [if_neg hc]
        have hne : r.drop 1 ≠ [] := by
          intro he
          rw [he] at h
          cases u <;> cases h
        obtain ⟨o, h1, h2⟩ := bind_ok h
        rw [set_app ht hne h1, ok_bind]
        cases o with
        | some q =>
          simp only [] at h2 ⊢
          injection h2 with h2
          injection h2 with h3 h4
          subst h3; subst h4
          simp [Pt.more]
        | none =>
          simp only [Option.map_none] at h2 ⊢
          obtain ⟨⟨c, q⟩, h3, h4⟩ := bind_ok h2
          rw [escape_app ht h3, ok_bind]
          simp only [] at h4 ⊢
          injection h4 with h4
          injection h4 with h5 h6
          subst h5; subst h6
          simp [Pt.more]
  · rename_i hp
    rw [if_neg hp]
    obtain ⟨⟨c, q⟩, h3, h4⟩ := bind_ok h
    rw [takeL_app ht h3, ok_bind]
    simp only [] at h4 ⊢
    injection h4 with h4
    injection h4 with h5 h6
    subst h5; subst h6
    simp [Pt.more]
theorem ptNext_app {u : Bool} {h h1 : Option Pt} {r r1 t : Ln} {p : Pt} (ht : Stp t) (hh : ptNext u h r = .ok (p, h1, r1)) : ptNext u (h.map (Pt.more t)) (r ++ t) = .ok (p.more t, h1.map (Pt.more t), r1 ++ t) := by
  cases h with
  | some q =>
    unfold ptNext at hh ⊢
    simp only [Option.map_some] at hh ⊢
    injection hh with hh
    injection hh with e1 e2
    injection e2 with e2 e3
    subst e1; subst e2; subst e3; rfl
  | none =>
    unfold ptNext at hh ⊢
    simp only [Option.map_none] at hh ⊢
    obtain ⟨⟨q, r2⟩, h3, h4⟩ := bind_ok hh
    rw [point_app ht h3, ok_bind]
    simp only [] at h4 ⊢
    split at h4
    · rename_i hb
      rw [if_pos (show ((q.more t).single && decide (65535 < (q.more t).val) && !u) = true from hb)]
      injection h4 with h4
      injection h4 with e1 e2
      injection e2 with e2 e3
      subst e1; subst e2; subst e3; rfl
    · rename_i hb
      rw [if_neg (show ¬ ((q.more t).single && decide (65535 < (q.more t).val) && !u) = true from hb)]
      injection h4 with h4
      injection h4 with e1 e2
      injection e2 with e2 e3
      subst e1; subst e2; subst e3; rfl
theorem isSome_map {α β : Type} (o : Option α) (f : α → β) : (o.map f).isSome = o.isSome := by cases o <;> rfl
theorem isNone_map {α β : Type} (o : Option α) (f : α → β) : (o.map f).isNone = o.isNone := by cases o <;> rfl
theorem ne_dec {a b c : Nat} (h : a = c ↔ b = c) : decide (a ≠ c) = decide (b ≠ c) := by
  by_cases hb : b = c
  · have := h.2 hb; simp [hb, this]
  · have : a ≠ c := fun x => hb (h.1 x)
    simp [hb, this]
theorem eq_dec {a b c : Nat} (h : a = c ↔ b = c) : decide (a = c) = decide (b = c) := by
  by_cases hb : b = c
  · have := h.2 hb; simp [hb, this]
  · have : a ≠ c := fun x => hb (h.1 x)
    simp [hb, this]
theorem class_app {u : Bool} {t : Ln} (ht : Stp t) : ∀ (f : Nat) (h : Option Pt) (r r1 : Ln), classR u f h r = .ok r1 → ∀ g, f ≤ g → classR u g (h.map (Pt.more t)) (r ++ t) = .ok (r1 ++ t)
  | 0, h, r, r1, hh, g, hg => by cases hh
  | f + 1, h, r, r1, hh, g, hg => by
    obtain ⟨g', rfl⟩ : ∃ g', g = g' + 1 := ⟨g - 1, by omega⟩
    unfold classR at hh ⊢
    rw [isNone_map, eq_dec (peek_is ht (r := r) (c := 93) (by decide))]
    split at hh
    · rename_i hb
      rw [if_pos hb]
      have hp : peekL r = 93 := by simp only [Bool.and_eq_true, decide_eq_true_eq] at hb; exact hb.2
      have hne := peek_cons (r := r) (by omega)
      rw [drop_app t (List.length_pos_iff.2 hne)]
      injection hh with hh
      rw [hh]
    · rename_i hb
      rw [if_neg hb]
      cases hn : ptNext u h r with
      | error e => rw [hn] at hh; cases hh
      | ok x =>
        obtain ⟨a, h1, r2⟩ := x
        rw [hn] at hh
        rw [ptNext_app ht hn]
        simp only [] at hh ⊢
        rw [isSome_map, ne_dec (peek_is ht (r := r2) (c := 45) (by decide)), hasP_app [45, 93] r2 t ht (by decide)]
        split at hh
        · rename_i hc
          rw [if_pos hc]
          exact class_app ht f h1 r2 r1 hh g' (by omega)
        · rename_i hc
          rw [if_neg hc]
          have hp : peekL r2 = 45 := by
            simp only [Bool.or_eq_true, not_or, decide_eq_true_eq, Decidable.not_not, ne_eq] at hc
            exact hc.1.2
          have hne := peek_cons (r := r2) (by omega)
          rw [drop_app t (List.length_pos_iff.2 hne)]
          cases hn2 : ptNext u none (r2.drop 1) with
          | error e => rw [hn2] at hh; cases hh
          | ok y =>
            obtain ⟨b, h2, r3⟩ := y
            rw [hn2] at hh
            have hm := ptNext_app ht hn2
            simp only [Option.map_none] at hm
            rw [hm]
            simp only [] at hh ⊢
            split at hh
            · cases hh
            · rename_i hd
              rw [if_neg (show ¬ (!(a.more t).single || !(b.more t).single || decide ((b.more t).val < (a.more t).val)) = true from hd)]
              exact class_app ht f h2 r3 r1 hh g' (by omega)
theorem classL_app {u : Bool} {r r1 t : Ln} (ht : Stp t) (h : classL u r = .ok r1) : classL u (r ++ t) = .ok (r1 ++ t) := by
  unfold classL at h ⊢
  rw [skip_app ht (by decide)]
  exact class_app ht _ none _ _ h _ (by simp; omega)

/-- Has a pattern no numbers and no names? -/
def plainB : Ln → Bool
  | [] => true
  | c :: r => !((c == 92 && (decide (49 ≤ peekL r) && decide (peekL r ≤ 57) || peekL r == 107)) || (c == 63 && peekL r == 60)) && plainB r
theorem plain_drop : ∀ (k : Nat) (r : Ln), plainB r = true → plainB (r.drop k) = true
  | 0, r, h => by simpa using h
  | k + 1, [], h => rfl
  | k + 1, c :: r, h => by
    unfold plainB at h
    rw [Bool.and_eq_true] at h
    exact plain_drop k r h.2
def Suf (q r : Ln) : Prop := ∃ k, q = r.drop k
theorem Suf.refl (r : Ln) : Suf r r := ⟨0, rfl⟩
theorem Suf.drop (k : Nat) (r : Ln) : Suf (r.drop k) r := ⟨k, rfl⟩
theorem Suf.trans {a b c : Ln} (h : Suf a b) (k : Suf b c) : Suf a c := by
  obtain ⟨i, rfl⟩ := h
  obtain ⟨j, rfl⟩ := k
  exact ⟨j + i, by rw [List.drop_drop]⟩
theorem Suf.len {a b : Ln} (h : Suf a b) : a.length ≤ b.length := by
  obtain ⟨i, rfl⟩ := h
  simp
theorem Suf.plain {a b : Ln} (h : Suf a b) (hb : plainB b = true) : plainB a = true := by
  obtain ⟨i, rfl⟩ := h
  exact plain_drop i b hb
theorem takeL_suf {r r1 : Ln} {c : Nat} (h : takeL r = .ok (c, r1)) : Suf r1 r ∧ r1.length < r.length := by
  obtain ⟨h1, h2, h3, h4⟩ := takeL_okJ h
  have := nextL_in r
  have := List.length_pos_iff.2 h1
  refine ⟨⟨_, h2⟩, ?_⟩
  rw [h2, List.length_drop]
  omega
theorem wantL_suf' {w r r1 : Ln} (h : wantL w r = .ok r1) : Suf r1 r := ⟨_, wantL_suf h⟩
theorem digits_suf {r d r1 : Ln} (h : digitsL r = .ok (d, r1)) : Suf r1 r := by
  unfold digitsL at h
  split at h
  · cases h
  · injection h with h
    injection h with h1 h2
    subst h2
    refine ⟨(r.takeWhile dig8).length, ?_⟩
    have e := List.drop_left (l₁ := r.takeWhile dig8) (l₂ := r.dropWhile dig8)
    rw [List.takeWhile_append_dropWhile] at e
    exact e.symm
theorem skip_suf (w r : Ln) : Suf (skipL w r) r := by
  unfold skipL
  split
  · exact ⟨_, rfl⟩
  · exact Suf.refl r
theorem quant_suf {r r1 : Ln} (h : quantL r = .ok r1) : Suf r1 r := by
  unfold quantL at h
  split at h
  · injection h with h
    rw [← h]
    exact (skip_suf _ _).trans ⟨_, rfl⟩
  · split at h
    · unfold bracesL at h
      obtain ⟨⟨least, r2⟩, h1, h2⟩ := bind_ok h
      have s1 : Suf r2 r := (digits_suf h1).trans ⟨_, rfl⟩
      simp only [] at h2
      split at h2
      · split at h2
        · obtain ⟨⟨most, r4⟩, h3, h4⟩ := bind_ok h2
          obtain ⟨r5', h5, h6⟩ := bind_ok h4
          simp only [] at h5 h6
          split at h6
          · cases h6
          · injection h6 with h6
            rw [← h6]
            exact (skip_suf _ _).trans ((wantL_suf' h5).trans ((digits_suf h3).trans (Suf.trans ⟨_, rfl⟩ s1)))
        · obtain ⟨r5', h5, h6⟩ := bind_ok h2
          injection h6 with h6
          rw [← h6]
          exact (skip_suf _ _).trans ((wantL_suf' h5).trans (Suf.trans ⟨_, rfl⟩ s1))
      · obtain ⟨r5', h5, h6⟩ := bind_ok h2
        injection h6 with h6
        rw [← h6]
        exact (skip_suf _ _).trans ((wantL_suf' h5).trans s1)
    · injection h with h
      rw [h]; exact Suf.refl _
theorem prop_suf : ∀ (f : Nat) (r r1 : Ln), propR f r = .ok r1 → Suf r1 r
  | 0, r, r1, h => by cases h
  | f + 1, r, r1, h => by
    unfold propR at h
    by_cases hp : peekL r = 125
    · rw [if_pos hp] at h
      injection h with h
      rw [h]; exact Suf.refl _
    · rw [if_neg hp] at h
      cases ht1 : takeL r with
      | error e => rw [ht1] at h; cases h
      | ok p =>
        obtain ⟨c, r2⟩ := p
        rw [ht1] at h
        exact (prop_suf f r2 r1 h).trans (takeL_suf ht1).1
theorem set_suf {u : Bool} {r r1 : Ln} (h : setL u r = .ok (some r1)) : Suf r1 r := by
  unfold setL at h
  split at h
  · injection h with h
    injection h with h
    rw [← h]; exact ⟨_, rfl⟩
  · split at h
    · obtain ⟨r2, h1, h2⟩ := bind_ok h
      obtain ⟨r3, h3, h4⟩ := bind_ok h2
      split at h4
      · injection h4 with h4
        injection h4 with h4
        rw [← h4]
        exact Suf.trans ⟨_, rfl⟩ ((prop_suf _ _ _ h3).trans ((wantL_suf' h1).trans ⟨_, rfl⟩))
      · cases h4
    · cases h
theorem hexes_suf : ∀ (k x : Nat) (r : Ln) (y : Nat) (r1 : Ln), hexesL k x r = .ok (y, r1) → Suf r1 r
  | 0, x, r, y, r1, h => by
    injection h with h
    injection h with h1 h2
    rw [h2]; exact Suf.refl _
  | k + 1, x, r, y, r1, h => by
    unfold hexesL at h
    cases hx : hexL (peekL r) with
    | none => rw [hx] at h; cases h
    | some v =>
      rw [hx] at h
      exact (hexes_suf k _ _ _ _ h).trans ⟨_, rfl⟩
theorem bracedR_suf : ∀ (f x : Nat) (r : Ln), Suf (bracedR f x r).2 r
  | 0, x, r => Suf.refl _
  | f + 1, x, r => by
    unfold bracedR
    cases hx : hexL (peekL r) with
    | none => exact Suf.refl _
    | some v => exact (bracedR_suf f _ _).trans ⟨_, rfl⟩
theorem escape_suf {u : Bool} {r r1 : Ln} {c : Nat} (h : escapeL u r = .ok (c, r1)) : Suf r1 r := by
  unfold escapeL at h
  obtain ⟨⟨x, r2⟩, h1, h2⟩ := bind_ok h
  have s1 := (takeL_suf h1).1
  simp only [] at h2
  split at h2
  · split at h2
    · injection h2 with h2
      injection h2 with h3 h4
      rw [← h4]; exact Suf.trans ⟨_, rfl⟩ s1
    · cases h2
  · split at h2
    · split at h2
      · cases h2
      · injection h2 with h2
        injection h2 with h3 h4
        rw [← h4]; exact s1
    · split at h2
      · exact (hexes_suf _ _ _ _ _ h2).trans s1
      · split at h2
        · split at h2
          · unfold bracedL at h2
            obtain ⟨⟨y, r3⟩, h3, h4⟩ := bind_ok h2
            simp only [] at h4
            split at h4
            · cases h4
            · injection h4 with h4
              injection h4 with h5 h6
              rw [← h6]
              exact Suf.trans ⟨_, rfl⟩ ((bracedR_suf _ _ _).trans ((hexes_suf _ _ _ _ _ h3).trans (Suf.trans ⟨_, rfl⟩ s1)))
          · exact (hexes_suf _ _ _ _ _ h2).trans s1
        · cases hs : simpleL x with
          | some y =>
            rw [hs] at h2
            injection h2 with h2
            injection h2 with h3 h4
            rw [← h4]; exact s1
          | none =>
            rw [hs] at h2
            simp only [] at h2
            unfold idleL at h2
            split at h2
            · cases h2
            · injection h2 with h2
              injection h2 with h3 h4
              rw [← h4]; exact s1
theorem point_suf {u : Bool} {r r1 : Ln} {p : Pt} (h : pointL u r = .ok (p, r1)) : Suf r1 r := by
  unfold pointL at h
  split at h
  · split at h
    · injection h with h
      injection h with h1 h2
      rw [← h2]; exact ⟨_, rfl⟩
    · split at h
      · injection h with h
        injection h with h1 h2
        rw [← h2]; exact ⟨_, rfl⟩
      · obtain ⟨o, h1, h2⟩ := bind_ok h
        cases o with
        | some q =>
          simp only [] at h2
          injection h2 with h2
          injection h2 with h3 h4
          rw [← h4]; exact (set_suf h1).trans ⟨_, rfl⟩
        | none =>
          simp only [] at h2
          obtain ⟨⟨c, q⟩, h3, h4⟩ := bind_ok h2
          simp only [] at h4
          injection h4 with h4
          injection h4 with h5 h6
          rw [← h6]; exact (escape_suf h3).trans ⟨_, rfl⟩
  · obtain ⟨⟨c, q⟩, h3, h4⟩ := bind_ok h
    simp only [] at h4
    injection h4 with h4
    injection h4 with h5 h6
    rw [← h6]; exact (takeL_suf h3).1
theorem ptNext_suf {u : Bool} {h h1 : Option Pt} {r r1 : Ln} {p : Pt} (hh : ptNext u h r = .ok (p, h1, r1)) : Suf r1 r := by
  cases h with
  | some q =>
    unfold ptNext at hh
    injection hh with hh
    injection hh with e1 e2
    injection e2 with e2 e3
    rw [e3]; exact Suf.refl _
  | none =>
    unfold ptNext at hh
    simp only [] at hh
    obtain ⟨⟨q, r2⟩, h3, h4⟩ := bind_ok hh
    simp only [] at h4
    split at h4 <;>
    · injection h4 with h4
      injection h4 with e1 e2
      injection e2 with e2 e3
      rw [← e3]; exact point_suf h3
theorem classR_suf {u : Bool} : ∀ (f : Nat) (h : Option Pt) (r r1 : Ln), classR u f h r = .ok r1 → Suf r1 r
  | 0, h, r, r1, hh => by cases hh
  | f + 1, h, r, r1, hh => by
    unfold classR at hh
    split at hh
    · injection hh with hh
      rw [← hh]; exact ⟨_, rfl⟩
    · cases hn : ptNext u h r with
      | error e => rw [hn] at hh; cases hh
      | ok x =>
        obtain ⟨a, h1, r2⟩ := x
        rw [hn] at hh
        simp only [] at hh
        split at hh
        · exact (classR_suf f h1 r2 r1 hh).trans (ptNext_suf hn)
        · cases hn2 : ptNext u none (r2.drop 1) with
          | error e => rw [hn2] at hh; cases hh
          | ok y =>
            obtain ⟨b, h2, r3⟩ := y
            rw [hn2] at hh
            simp only [] at hh
            split at hh
            · cases hh
            · exact (classR_suf f h2 r3 r1 hh).trans ((ptNext_suf hn2).trans (Suf.trans ⟨_, rfl⟩ (ptNext_suf hn)))
theorem classL_suf {u : Bool} {r r1 : Ln} (h : classL u r = .ok r1) : Suf r1 r := (classR_suf _ _ _ _ h).trans (skip_suf _ _)

/-- A reader that asks no numbers and no names. -/
abbrev pl (r : Ln) (g : Nat) : St := ⟨r, g, [], [], []⟩
/-- What a reader of a part makes of a text, it makes of it whatever stands behind and however many groups are ahead. -/
def Loc (p q : St → Except Flt St) (r r1 : Ln) (g : Nat) (s1 : St) (t : Ln) : Prop :=
  ∃ d, s1 = pl r1 (g + d) ∧ ∀ g2, q (pl (r ++ t) g2) = .ok (pl (r1 ++ t) (g2 + d))
/-- What a pattern's reader makes of a text. -/
def PatLoc (u : Bool) (f : Nat) : Prop := ∀ r g s1, plainB r = true → patF u f (pl r g) = .ok s1 →
  ∃ d, s1 = pl s1.r (g + d) ∧ Suf s1.r r ∧ (s1.r = [] ∨ peekL s1.r = 41) ∧ ∀ t, Stp t → ∀ g2 m, (r ++ t).length < m → ∃ m', (s1.r ++ t).length < m' ∧ patF u m (pl (r ++ t) g2) = patF u m' (pl (s1.r ++ t) (g2 + d))
/-- What a term's reader makes of a text. -/
def TermLoc (R : (St → Except Flt St) → St → Except Flt St) (u : Bool) (f : Nat) : Prop := ∀ r g s1, plainB r = true → R (patF u f) (pl r g) = .ok s1 →
  ∃ d, s1 = pl s1.r (g + d) ∧ Suf s1.r r ∧ s1.r.length < r.length ∧ ∀ t, Stp t → ∀ g2 m, (r ++ t).length ≤ m → R (patF u m) (pl (r ++ t) g2) = .ok (pl (s1.r ++ t) (g2 + d))
theorem pat_41 {u : Bool} {m : Nat} {s : St} (h : peekL s.r = 41) : patF u (m + 1) s = .ok s := by
  unfold patF
  rw [if_neg (by intro he; rw [he] at h; cases h), if_neg (by omega), if_pos h]
theorem group_loc {u : Bool} {f k e : Nat} (hP : PatLoc u f) {r : Ln} {g : Nat} {s1 : St} (hk : 1 ≤ k) (hkr : k ≤ r.length) (hpl : plainB r = true) (h : groupS (patF u f) (pl (r.drop k) (g + e)) = .ok s1) :
    ∃ d, s1 = pl s1.r (g + d) ∧ Suf s1.r r ∧ s1.r.length < r.length ∧ ∀ t, Stp t → ∀ g2 m, (r ++ t).length ≤ m → groupS (patF u m) (pl ((r ++ t).drop k) (g2 + e)) = .ok (pl (s1.r ++ t) (g2 + d)) := by
  unfold groupS at h
  obtain ⟨p, h1, h2⟩ := bind_ok h
  obtain ⟨r2, h3, h4⟩ := bind_ok h2
  obtain ⟨d, hp, hs, he, ha⟩ := hP (r.drop k) (g + e) p (plain_drop k r hpl) h1
  injection h4 with h4
  have e1 : p = pl p.r (g + e + d) := hp
  have e2 : s1 = pl r2 (g + (e + d)) := by
    rw [← h4, e1]
    show pl r2 (g + e + d) = _
    rw [Nat.add_assoc]
  have e3 : s1.r = r2 := by rw [e2]
  have hs2 : Suf r2 r := (wantL_suf' h3).trans (hs.trans ⟨k, rfl⟩)
  refine ⟨e + d, by rw [e3]; exact e2, by rw [e3]; exact hs2, ?_, ?_⟩
  · rw [e3, wantL_suf h3, List.length_drop]
    have := hs.len
    rw [List.length_drop] at this
    omega
  · intro t ht g2 m hm
    obtain ⟨m', hm', hq⟩ := ha t ht (g2 + e) m (by rw [List.length_append, List.length_drop]; rw [List.length_append] at hm; omega)
    have h41 : peekL (p.r ++ t) = 41 := by
      have hx : hasP [41] p.r = true := by
        unfold wantL at h3
        split at h3
        · assumption
        · cases h3
      have := hasP_split _ _ (hasP_more t hx)
      rw [this]; rfl
    obtain ⟨m'', rfl⟩ : ∃ m'', m' = m'' + 1 := ⟨m' - 1, by omega⟩
    unfold groupS
    rw [drop_app t hkr, hq, pat_41 (s := pl (p.r ++ t) (g2 + e + d)) h41, ok_bind]
    show (wantL [41] (p.r ++ t) >>= _) = _
    rw [wantL_app t h3, ok_bind, e3, Nat.add_assoc]
theorem plain_q {r : Ln} (h : plainB r = true) : hasP [40, 63, 60] r = false := by
  match r with
  | [] => rfl
  | [a] => simp [hasP, Lib.hasPrefix, List.isPrefixOf]
  | [a, b] => simp [hasP, Lib.hasPrefix, List.isPrefixOf]
  | a :: b :: c :: r =>
    cases hq : hasP [40, 63, 60] (a :: b :: c :: r) with
    | false => rfl
    | true =>
      have e := hasP_split _ _ hq
      simp only [List.cons_append, List.nil_append, List.cons.injEq] at e
      obtain ⟨rfl, rfl, rfl, _⟩ := e
      exfalso
      revert h
      simp [plainB, peekL]
theorem hasP_front {w v r : Ln} (h : hasP (w ++ v) r = true) : hasP w r = true := by
  rw [hasP_split _ _ h, List.append_assoc]; exact hasP_self _ _
theorem hasP_not {w : Ln} (v : Ln) {r : Ln} (h : hasP w r = false) : hasP (w ++ v) r = false := by
  cases hq : hasP (w ++ v) r with
  | false => rfl
  | true => rw [hasP_front hq] at h; cases h
theorem escaped_loc {u : Bool} {r : Ln} {g : Nat} {s1 : St} (hpl : plainB r = true) (h92 : peekL r = 92) (h : escapedS u (pl r g) = .ok s1) :
    ∃ d, s1 = pl s1.r (g + d) ∧ Suf s1.r r ∧ s1.r.length < r.length ∧ ∀ t, Stp t → ∀ g2, escapedS u (pl (r ++ t) g2) = .ok (pl (s1.r ++ t) (g2 + d)) := by
  cases r with
  | nil => cases h92
  | cons c r =>
    have hc : c = 92 := by
      have : c.toNat = 92 := h92
      exact UInt8.toNat_inj.1 this
    subst hc
    unfold plainB at hpl
    simp only [Bool.and_eq_true, Bool.not_eq_true', Bool.or_eq_false_iff] at hpl
    have hd : ¬ (49 ≤ peekL r ∧ peekL r ≤ 57) := by
      intro hh
      have := hpl.1.1
      simp [hh.1, hh.2] at this
    have hk : hasP [107] r = false := by
      cases hq : hasP [107] r with
      | false => rfl
      | true =>
        have e := hasP_split _ _ hq
        have : peekL r = 107 := by rw [e]; rfl
        have h2 := hpl.1.1
        simp [this] at h2
    have hne : r ≠ [] := by
      rintro rfl
      cases u <;> cases h
    unfold escapedS at h ⊢
    simp only [List.drop_succ_cons, List.drop_zero, List.cons_append] at h ⊢
    rw [if_neg hd, if_neg (by rw [hk]; decide)] at h
    obtain ⟨o, h1, h2⟩ := bind_ok h
    have hs : ∀ t, Stp t → setL u (r ++ t) = .ok (o.map (· ++ t)) := fun t ht => set_app ht hne h1
    cases o with
    | some q =>
      simp only [] at h2
      injection h2 with h2
      have hq := set_suf h1
      refine ⟨0, by rw [← h2]; rfl, ?_, ?_, ?_⟩
      · rw [← h2]; exact hq.trans ⟨1, rfl⟩
      · rw [← h2]; have := hq.len; simp; omega
      · intro t ht g2
        rw [peek_app t hne, if_neg hd, hasP_app [107] r t ht (by decide), if_neg (by rw [hk]; decide), hs t ht, ok_bind, ← h2]
        rfl
    | none =>
      simp only [] at h2
      obtain ⟨⟨c, q⟩, h3, h4⟩ := bind_ok h2
      simp only [] at h4
      injection h4 with h4
      have hq := escape_suf h3
      refine ⟨0, by rw [← h4]; rfl, ?_, ?_, ?_⟩
      · rw [← h4]; exact hq.trans ⟨1, rfl⟩
      · rw [← h4]; have := hq.len; simp; omega
      · intro t ht g2
        rw [peek_app t hne, if_neg hd, hasP_app [107] r t ht (by decide), if_neg (by rw [hk]; decide), hs t ht, ok_bind, ← h4]
        simp only [Option.map_none]
        rw [escape_app ht h3, ok_bind]
        rfl
theorem atom_loc {u : Bool} {f : Nat} (hP : PatLoc u f) : TermLoc (atomS u) u f := by
  intro r g s1 hpl h
  have hq := plain_q hpl
  unfold atomS at h ⊢
  simp only [] at h ⊢
  split at h
  · rename_i h1
    obtain ⟨d, k1, k2, k3, k4⟩ := group_loc (k := 3) (e := 0) hP (by omega) (hasP_len h1) hpl h
    refine ⟨d, k1, k2, k3, fun t ht g2 m hm => ?_⟩
    rw [hasP_app [40, 63, 58] r t ht (by decide), if_pos h1]
    exact k4 t ht g2 m hm
  · rename_i h1
    rw [if_neg (by rw [hq]; decide)] at h
    split at h
    · rename_i h2
      obtain ⟨d, k1, k2, k3, k4⟩ := group_loc (k := 1) (e := 1) hP (by omega) (hasP_len h2) hpl h
      refine ⟨d, k1, k2, k3, fun t ht g2 m hm => ?_⟩
      rw [hasP_app [40, 63, 58] r t ht (by decide), if_neg h1, hasP_app [40, 63, 60] r t ht (by decide), if_neg (by rw [hq]; decide), hasP_app [40] r t ht (by decide), if_pos h2]
      exact k4 t ht g2 m hm
    · rename_i h2
      split at h
      · rename_i h3
        obtain ⟨r1, h4, h5⟩ := bind_ok h
        injection h5 with h5
        have hs := classL_suf h4
        have hl : 1 ≤ r.length := hasP_len h3
        refine ⟨0, by rw [← h5]; rfl, by rw [← h5]; exact hs.trans ⟨1, rfl⟩, ?_, fun t ht g2 m hm => ?_⟩
        · rw [← h5]; have := hs.len; rw [List.length_drop] at this; show r1.length < _; omega
        rw [hasP_app [40, 63, 58] r t ht (by decide), if_neg h1, hasP_app [40, 63, 60] r t ht (by decide), if_neg (by rw [hq]; decide), hasP_app [40] r t ht (by decide), if_neg h2, hasP_app [91] r t ht (by decide), if_pos h3, drop_app t hl, classL_app ht h4, ok_bind, ← h5]
        rfl
      · rename_i h3
        split at h
        · rename_i h4
          obtain ⟨d, k1, k2, k3, k4⟩ := escaped_loc hpl h4 h
          refine ⟨d, k1, k2, k3, fun t ht g2 m hm => ?_⟩
          rw [hasP_app [40, 63, 58] r t ht (by decide), if_neg h1, hasP_app [40, 63, 60] r t ht (by decide), if_neg (by rw [hq]; decide), hasP_app [40] r t ht (by decide), if_neg h2, hasP_app [91] r t ht (by decide), if_neg h3, if_pos ((peek_is ht (by decide)).2 h4)]
          exact k4 t ht g2
        · rename_i h4
          split at h
          · cases h
          · rename_i h5
            obtain ⟨⟨c, r1⟩, h6, h7⟩ := bind_ok h
            simp only [] at h7
            injection h7 with h7
            obtain ⟨hs, hl⟩ := takeL_suf h6
            have hne := (takeL_okJ h6).1
            refine ⟨0, by rw [← h7]; rfl, by rw [← h7]; exact hs, by rw [← h7]; exact hl, fun t ht g2 m hm => ?_⟩
            rw [hasP_app [40, 63, 58] r t ht (by decide), if_neg h1, hasP_app [40, 63, 60] r t ht (by decide), if_neg (by rw [hq]; decide), hasP_app [40] r t ht (by decide), if_neg h2, hasP_app [91] r t ht (by decide), if_neg h3, if_neg (fun hh => h4 ((peek_is ht (by decide)).1 hh)), peek_app t hne, getD0_app t hne, if_neg h5, takeL_app ht h6, ok_bind, ← h7]
            rfl
theorem term_loc {u : Bool} {f : Nat} (hP : PatLoc u f) : TermLoc (termS u) u f := by
  intro r g s1 hpl h
  have step : ∀ (w : Ln), hasP w r = true → 1 ≤ w.length → ∀ s1 : St, (.ok (pl (r.drop w.length) g) : Except Flt St) = .ok s1 →
      ∃ d, s1 = pl s1.r (g + d) ∧ Suf s1.r r ∧ s1.r.length < r.length ∧ ∀ t, Stp t → ∀ g2 (m : Nat), (r ++ t).length ≤ m → (.ok (pl ((r ++ t).drop w.length) g2) : Except Flt St) = .ok (pl (s1.r ++ t) (g2 + d)) := by
    intro w hw hwl s1 h
    injection h with h
    have := hasP_len hw
    refine ⟨0, by rw [← h]; rfl, by rw [← h]; exact ⟨_, rfl⟩, by rw [← h]; simp; omega, fun t ht g2 m hm => ?_⟩
    rw [drop_more t hw, ← h]
    rfl
  unfold termS at h ⊢
  simp only [] at h ⊢
  have a1 : ∀ t, Stp t → hasP [94] (r ++ t) = hasP [94] r := fun t ht => hasP_app _ r t ht (by decide)
  have a2 : ∀ t, Stp t → hasP [36] (r ++ t) = hasP [36] r := fun t ht => hasP_app _ r t ht (by decide)
  have a3 : ∀ t, Stp t → hasP [92, 98] (r ++ t) = hasP [92, 98] r := fun t ht => hasP_app _ r t ht (by decide)
  have a4 : ∀ t, Stp t → hasP [92, 66] (r ++ t) = hasP [92, 66] r := fun t ht => hasP_app _ r t ht (by decide)
  have a5 : ∀ t, Stp t → hasP [40, 63, 61] (r ++ t) = hasP [40, 63, 61] r := fun t ht => hasP_app _ r t ht (by decide)
  have a6 : ∀ t, Stp t → hasP [40, 63, 33] (r ++ t) = hasP [40, 63, 33] r := fun t ht => hasP_app _ r t ht (by decide)
  have a7 : ∀ t, Stp t → hasP [40, 63, 60, 61] (r ++ t) = hasP [40, 63, 60, 61] r := fun t ht => hasP_app _ r t ht (by decide)
  have a8 : ∀ t, Stp t → hasP [40, 63, 60, 33] (r ++ t) = hasP [40, 63, 60, 33] r := fun t ht => hasP_app _ r t ht (by decide)
  split at h
  · rename_i h1
    obtain ⟨d, k1, k2, k3, k4⟩ := step [94] h1 (by decide) s1 h
    refine ⟨d, k1, k2, k3, fun t ht g2 m hm => ?_⟩
    rw [a1 t ht, if_pos h1]
    exact k4 t ht g2 m hm
  · rename_i h1
    split at h
    · rename_i h2
      obtain ⟨d, k1, k2, k3, k4⟩ := step [36] h2 (by decide) s1 h
      refine ⟨d, k1, k2, k3, fun t ht g2 m hm => ?_⟩
      rw [a1 t ht, if_neg h1, a2 t ht, if_pos h2]
      exact k4 t ht g2 m hm
    · rename_i h2
      split at h
      · rename_i h3
        obtain ⟨d, k1, k2, k3, k4⟩ := step [92, 98] h3 (by decide) s1 h
        refine ⟨d, k1, k2, k3, fun t ht g2 m hm => ?_⟩
        rw [a1 t ht, if_neg h1, a2 t ht, if_neg h2, a3 t ht, if_pos h3]
        exact k4 t ht g2 m hm
      · rename_i h3
        split at h
        · rename_i h4
          obtain ⟨d, k1, k2, k3, k4⟩ := step [92, 66] h4 (by decide) s1 h
          refine ⟨d, k1, k2, k3, fun t ht g2 m hm => ?_⟩
          rw [a1 t ht, if_neg h1, a2 t ht, if_neg h2, a3 t ht, if_neg h3, a4 t ht, if_pos h4]
          exact k4 t ht g2 m hm
        · rename_i h4
          split at h
          · rename_i h5
            obtain ⟨d, k1, k2, k3, k4⟩ := group_loc (k := 3) (e := 0) hP (by omega) (hasP_len h5) hpl h
            refine ⟨d, k1, k2, k3, fun t ht g2 m hm => ?_⟩
            rw [a1 t ht, if_neg h1, a2 t ht, if_neg h2, a3 t ht, if_neg h3, a4 t ht, if_neg h4, a5 t ht, if_pos h5]
            exact k4 t ht g2 m hm
          · rename_i h5
            split at h
            · rename_i h6
              obtain ⟨d, k1, k2, k3, k4⟩ := group_loc (k := 3) (e := 0) hP (by omega) (hasP_len h6) hpl h
              refine ⟨d, k1, k2, k3, fun t ht g2 m hm => ?_⟩
              rw [a1 t ht, if_neg h1, a2 t ht, if_neg h2, a3 t ht, if_neg h3, a4 t ht, if_neg h4, a5 t ht, if_neg h5, a6 t ht, if_pos h6]
              exact k4 t ht g2 m hm
            · rename_i h6
              split at h
              · rename_i h7
                obtain ⟨d, k1, k2, k3, k4⟩ := group_loc (k := 4) (e := 0) hP (by omega) (hasP_len h7) hpl h
                refine ⟨d, k1, k2, k3, fun t ht g2 m hm => ?_⟩
                rw [a1 t ht, if_neg h1, a2 t ht, if_neg h2, a3 t ht, if_neg h3, a4 t ht, if_neg h4, a5 t ht, if_neg h5, a6 t ht, if_neg h6, a7 t ht, if_pos h7]
                exact k4 t ht g2 m hm
              · rename_i h7
                split at h
                · rename_i h8
                  obtain ⟨d, k1, k2, k3, k4⟩ := group_loc (k := 4) (e := 0) hP (by omega) (hasP_len h8) hpl h
                  refine ⟨d, k1, k2, k3, fun t ht g2 m hm => ?_⟩
                  rw [a1 t ht, if_neg h1, a2 t ht, if_neg h2, a3 t ht, if_neg h3, a4 t ht, if_neg h4, a5 t ht, if_neg h5, a6 t ht, if_neg h6, a7 t ht, if_neg h7, a8 t ht, if_pos h8]
                  exact k4 t ht g2 m hm
                · rename_i h8
                  obtain ⟨p, h9, h10⟩ := bind_ok h
                  obtain ⟨r2, h11, h12⟩ := bind_ok h10
                  obtain ⟨d, k1, k2, k3, k4⟩ := atom_loc hP r g p hpl h9
                  injection h12 with h12
                  have e1 : s1 = pl r2 (g + d) := by rw [← h12, k1]
                  have e2 : s1.r = r2 := by rw [e1]
                  have hs := quant_suf h11
                  refine ⟨d, by rw [e2]; exact e1, by rw [e2]; exact hs.trans k2, by rw [e2]; have := hs.len; omega, fun t ht g2 m hm => ?_⟩
                  rw [a1 t ht, if_neg h1, a2 t ht, if_neg h2, a3 t ht, if_neg h3, a4 t ht, if_neg h4, a5 t ht, if_neg h5, a6 t ht, if_neg h6, a7 t ht, if_neg h7, a8 t ht, if_neg h8, k4 t ht g2 m hm, ok_bind]
                  show (quantL (p.r ++ t) >>= _) = _
                  rw [quant_app ht h11, ok_bind, e2]
theorem pat_loc (u : Bool) : ∀ f, PatLoc u f
  | 0 => by intro r g s1 hpl h; cases h
  | f + 1 => by
    intro r g s1 hpl h
    have ih := pat_loc u f
    unfold patF at h
    simp only [] at h
    split at h
    · rename_i h1
      injection h with h
      subst h1
      subst h
      exact ⟨0, rfl, Suf.refl _, .inl rfl, fun t ht g2 m hm => ⟨m, hm, rfl⟩⟩
    · rename_i h1
      split at h
      · rename_i h2
        obtain ⟨d, k1, k2, k3, k4⟩ := ih (r.drop 1) g s1 (plain_drop 1 r hpl) h
        refine ⟨d, k1, k2.trans ⟨1, rfl⟩, k3, fun t ht g2 m hm => ?_⟩
        obtain ⟨m1, rfl⟩ : ∃ m1, m = m1 + 1 := ⟨m - 1, by omega⟩
        have hl := List.length_pos_iff.2 h1
        obtain ⟨m', hm', hq⟩ := k4 t ht g2 m1 (by rw [List.length_append, List.length_drop]; rw [List.length_append] at hm; omega)
        refine ⟨m', hm', ?_⟩
        rw [← hq]
        conv => lhs; unfold patF
        simp only []
        rw [if_neg (by simp [h1]), peek_app t h1, if_pos h2, drop_app t hl]
      · rename_i h2
        split at h
        · rename_i h3
          injection h with h
          subst h
          exact ⟨0, rfl, Suf.refl _, .inr h3, fun t ht g2 m hm => ⟨m, hm, rfl⟩⟩
        · rename_i h3
          cases htm : termS u (patF u f) (pl r g) with
          | error e => rw [htm] at h; cases h
          | ok p =>
            rw [htm] at h
            simp only [] at h
            obtain ⟨d, k1, k2, k3, k4⟩ := term_loc ih r g p hpl htm
            rw [k1] at h
            obtain ⟨e, j1, j2, j3, j4⟩ := ih p.r (g + d) s1 (k2.plain hpl) h
            refine ⟨d + e, by rw [← Nat.add_assoc]; exact j1, j2.trans k2, j3, fun t ht g2 m hm => ?_⟩
            obtain ⟨m1, rfl⟩ : ∃ m1, m = m1 + 1 := ⟨m - 1, by omega⟩
            obtain ⟨m', hm', hq⟩ := j4 t ht (g2 + d) m1 (by rw [List.length_append] at hm ⊢; omega)
            refine ⟨m', hm', ?_⟩
            rw [← Nat.add_assoc, ← hq]
            conv => lhs; unfold patF
            simp only []
            rw [if_neg (by simp [h1]), peek_app t h1, if_neg h2, if_neg h3, k4 t ht g2 m1 (by omega)]
end Go.Proofs.YtnbadnmmolagfaaDoor
