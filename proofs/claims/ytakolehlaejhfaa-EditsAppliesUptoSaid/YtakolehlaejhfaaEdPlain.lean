/- Package edits in plain Lean: lines, common lines, pairs, edits. -/
namespace Go.Proofs.Ytakolehlaejhfaa

abbrev Ln := List UInt8
def strOf (l : Ln) : ByteArray := ⟨l.toArray⟩
theorem strOf_inj {a b : Ln} : strOf a = strOf b ↔ a = b := by
  constructor
  · intro h
    have := congrArg (fun s : ByteArray => s.data.toList) h
    simpa [strOf] using this
  · rintro rfl; rfl
theorem strOf_list (s : ByteArray) : strOf s.data.toList = s := by cases s; simp [strOf]
theorem strOf_size (l : Ln) : (strOf l).size = l.length := by simp [strOf, ByteArray.size]

/-- A text's lines. -/
def linesB : Ln → List Ln
  | [] => []
  | c :: cs => if c = 10 then [c] :: linesB cs else match linesB cs with
    | [] => [[c]]
    | l :: ls => (c :: l) :: ls
theorem linesB_nl : ∀ (p rest : Ln), (∀ c ∈ p, c ≠ 10) → linesB (p ++ 10 :: rest) = (p ++ [10]) :: linesB rest
  | [], rest, _ => by simp [linesB]
  | c :: p, rest, h => by
    have hc : c ≠ 10 := h c (by simp)
    have ih := linesB_nl p rest (fun x hx => h x (by simp [hx]))
    simp only [List.cons_append, linesB, if_neg hc, ih]
theorem linesB_end : ∀ (p : Ln), (∀ c ∈ p, c ≠ 10) → p ≠ [] → linesB p = [p]
  | [], _, h => absurd rfl h
  | c :: p, h, _ => by
    have hc : c ≠ 10 := h c (by simp)
    by_cases hp : p = []
    · subst hp; simp [linesB, hc]
    · have ih := linesB_end p (fun x hx => h x (by simp [hx])) hp
      simp only [linesB, if_neg hc, ih]
theorem linesB_flat : ∀ s : Ln, (linesB s).flatten = s
  | [] => rfl
  | c :: cs => by
    have ih := linesB_flat cs
    unfold linesB
    split
    · simp [ih]
    · cases h : linesB cs with
      | nil => rw [h] at ih; simp at ih; simp [← ih]
      | cons l ls => rw [h] at ih; simp at ih ⊢; exact ih
theorem linesB_ne : ∀ (s : Ln), ∀ l ∈ linesB s, l ≠ []
  | [], l, h => by simp [linesB] at h
  | c :: cs, l, h => by
    unfold linesB at h
    split at h
    · rcases List.mem_cons.1 h with rfl | h
      · simp
      · exact linesB_ne cs l h
    · cases hc : linesB cs with
      | nil => rw [hc] at h; simp at h; simp [h]
      | cons a as =>
        rw [hc] at h
        rcases List.mem_cons.1 h with rfl | h
        · simp
        · exact linesB_ne cs l (by rw [hc]; simp [h])
theorem flat_len : ∀ (L : List Ln), (∀ l ∈ L, l ≠ []) → L.length ≤ L.flatten.length
  | [], _ => Nat.le_refl _
  | l :: L, h => by
    have h1 := flat_len L (fun x hx => h x (by simp [hx]))
    have h2 : 0 < l.length := List.length_pos_iff.2 (h l (by simp))
    simp only [List.length_cons, List.flatten_cons, List.length_append]
    omega
theorem linesB_len (s : Ln) : (linesB s).length ≤ s.length := by
  have := flat_len (linesB s) (linesB_ne s)
  rwa [linesB_flat] at this

/-- How many lines two lists have in common. -/
def lcsStep (f : List Ln → Nat) (x : Ln) : List Ln → Nat
  | [] => 0
  | y :: ys => if x = y then max (max (f (y :: ys)) (lcsStep f x ys)) (f ys + 1) else max (f (y :: ys)) (lcsStep f x ys)
def lcs : List Ln → List Ln → Nat
  | [] => fun _ => 0
  | x :: xs => lcsStep (lcs xs) x
theorem lcs_nil (b : List Ln) : lcs [] b = 0 := rfl
theorem lcs_nil' (a : List Ln) : lcs a [] = 0 := by cases a <;> rfl
theorem lcs_cons (x y : Ln) (xs ys : List Ln) : lcs (x :: xs) (y :: ys) = if x = y then max (max (lcs xs (y :: ys)) (lcs (x :: xs) ys)) (lcs xs ys + 1) else max (lcs xs (y :: ys)) (lcs (x :: xs) ys) := rfl
theorem lcs_l (x : Ln) (xs b : List Ln) : lcs xs b ≤ lcs (x :: xs) b := by
  cases b with
  | nil => simp [lcs_nil']
  | cons y ys => rw [lcs_cons]; split <;> omega
theorem lcs_r (a : List Ln) (y : Ln) (ys : List Ln) : lcs a ys ≤ lcs a (y :: ys) := by
  cases a with
  | nil => simp [lcs_nil]
  | cons x xs => rw [lcs_cons]; split <;> omega
theorem lcs_drop_r (a b : List Ln) (n : Nat) : lcs a (b.drop n) ≤ lcs a b := by
  induction n generalizing b with
  | zero => simp
  | succ n ih =>
    cases b with
    | nil => simp
    | cons y ys => exact Nat.le_trans (ih ys) (lcs_r a y ys)
theorem lcs_drop_l (a b : List Ln) (n : Nat) : lcs (a.drop n) b ≤ lcs a b := by
  induction n generalizing a with
  | zero => simp
  | succ n ih =>
    cases a with
    | nil => simp
    | cons x xs => exact Nat.le_trans (ih xs) (lcs_l x xs b)
theorem lcs_le : ∀ (a b : List Ln), lcs a b ≤ a.length
  | [], _ => Nat.le_refl _
  | x :: xs, [] => by simp [lcs_nil']
  | x :: xs, y :: ys => by
    have h1 := lcs_le xs (y :: ys)
    have h2 := lcs_le (x :: xs) ys
    have h3 := lcs_le xs ys
    rw [lcs_cons]
    simp only [List.length_cons] at *
    split <;> omega
theorem lcs_comm : ∀ (a b : List Ln), lcs a b = lcs b a
  | [], b => by rw [lcs_nil, lcs_nil']
  | x :: xs, [] => by rw [lcs_nil, lcs_nil']
  | x :: xs, y :: ys => by
    rw [lcs_cons, lcs_cons, lcs_comm xs (y :: ys), lcs_comm (x :: xs) ys, lcs_comm xs ys]
    by_cases h : x = y
    · rw [if_pos h, if_pos h.symm]; omega
    · rw [if_neg h, if_neg (fun e => h e.symm)]; omega
/-- A match at any place bears at least so many. -/
theorem lcs_match (x : Ln) (xs : List Ln) : ∀ (b : List Ln) (j : Nat), b[j]? = some x → lcs xs (b.drop (j + 1)) + 1 ≤ lcs (x :: xs) b
  | [], j, h => by simp at h
  | y :: ys, 0, h => by
    simp at h
    subst h
    rw [lcs_cons, if_pos rfl]
    simp
    omega
  | y :: ys, j + 1, h => by
    have := lcs_match x xs ys j (by simpa using h)
    have h2 := lcs_r (x :: xs) y ys
    simp only [List.drop_succ_cons]
    omega
/-- More than without the first line: then it is kept, at some place. -/
theorem lcs_kept (x : Ln) (xs : List Ln) : ∀ (b : List Ln), lcs xs b < lcs (x :: xs) b → ∃ j, b[j]? = some x ∧ lcs xs (b.drop (j + 1)) + 1 = lcs (x :: xs) b
  | [], h => by simp [lcs_nil'] at h
  | y :: ys, h => by
    by_cases h2 : lcs (x :: xs) (y :: ys) = lcs (x :: xs) ys
    · have h3 : lcs xs ys < lcs (x :: xs) ys := by
        have := lcs_r xs y ys
        omega
      obtain ⟨j, e1, e2⟩ := lcs_kept x xs ys h3
      exact ⟨j + 1, by simpa using e1, by simpa [h2] using e2⟩
    · have h4 := lcs_r (x :: xs) y ys
      have hc := lcs_cons x y xs ys
      by_cases hxy : x = y
      · rw [if_pos hxy] at hc
        exact ⟨0, by simp [hxy], by simp; omega⟩
      · rw [if_neg hxy] at hc
        exfalso
        omega
/-- The first place of x. -/
def idxOfLn (x : Ln) : List Ln → Option Nat
  | [] => none
  | y :: ys => if y = x then some 0 else (idxOfLn x ys).map (· + 1)
theorem idxOf_some (x : Ln) : ∀ (b : List Ln) (j : Nat), idxOfLn x b = some j → b[j]? = some x ∧ ∀ k, k < j → b[k]? ≠ some x
  | [], j, h => by simp [idxOfLn] at h
  | y :: ys, j, h => by
    unfold idxOfLn at h
    split at h
    · rename_i hy
      cases h
      exact ⟨by simp [hy], by omega⟩
    · rename_i hy
      cases hi : idxOfLn x ys with
      | none => rw [hi] at h; cases h
      | some i =>
        rw [hi] at h
        simp at h
        subst h
        obtain ⟨h1, h2⟩ := idxOf_some x ys i hi
        refine ⟨by simpa using h1, fun k hk => ?_⟩
        cases k with
        | zero => simpa using hy
        | succ k => simpa using h2 k (by omega)
theorem idxOf_none (x : Ln) : ∀ (b : List Ln), idxOfLn x b = none → ∀ k : Nat, b[k]? ≠ some x
  | [], _, k => by simp
  | y :: ys, h, k => by
    unfold idxOfLn at h
    split at h
    · cases h
    · rename_i hy
      have h' : idxOfLn x ys = none := by
        cases hi : idxOfLn x ys with
        | none => rfl
        | some i => rw [hi] at h; cases h
      cases k with
      | zero => simpa using hy
      | succ k => simpa using idxOf_none x ys h' k
theorem idxOf_of (x : Ln) (b : List Ln) (j : Nat) (h1 : b[j]? = some x) (h2 : ∀ k, k < j → b[k]? ≠ some x) : idxOfLn x b = some j := by
  cases h : idxOfLn x b with
  | none => exact absurd h1 (idxOf_none x b h j)
  | some i =>
    obtain ⟨h3, h4⟩ := idxOf_some x b i h
    rcases Nat.lt_trichotomy i j with hl | rfl | hl
    · exact absurd h3 (h2 i hl)
    · rfl
    · exact absurd h1 (h4 j hl)
/-- Is the first line of a kept, and where? -/
def keptAt (x : Ln) (xs b : List Ln) : Option Nat :=
  match idxOfLn x b with
  | none => none
  | some j => if lcs xs (b.drop (j + 1)) + 1 = lcs (x :: xs) b then some j else none
theorem keptAt_some {x : Ln} {xs b : List Ln} {j : Nat} (h : keptAt x xs b = some j) : b[j]? = some x ∧ (∀ k, k < j → b[k]? ≠ some x) ∧ lcs xs (b.drop (j + 1)) + 1 = lcs (x :: xs) b := by
  unfold keptAt at h
  split at h
  · cases h
  · rename_i i hi
    split at h
    · rename_i hl
      cases h
      obtain ⟨h1, h2⟩ := idxOf_some x b _ hi
      exact ⟨h1, h2, hl⟩
    · cases h
/-- Where no first match will do, no later one will. -/
theorem keptAt_none {x : Ln} {xs b : List Ln} (h : keptAt x xs b = none) : (∀ k, b[k]? = some x → lcs xs (b.drop (k + 1)) + 1 ≠ lcs (x :: xs) b) ∧ lcs (x :: xs) b = lcs xs b := by
  have key : ∀ k, b[k]? = some x → lcs xs (b.drop (k + 1)) + 1 ≠ lcs (x :: xs) b := by
    intro k hk e
    cases hi : idxOfLn x b with
    | none => exact idxOf_none x b hi k hk
    | some j =>
      obtain ⟨h1, h2⟩ := idxOf_some x b j hi
      have hjk : j ≤ k := by
        rcases Nat.lt_or_ge k j with hl | hl
        · exact absurd hk (h2 k hl)
        · exact hl
      have h3 := lcs_match x xs b j h1
      have h4 : lcs xs (b.drop (k + 1)) ≤ lcs xs (b.drop (j + 1)) := by
        have := lcs_drop_r xs (b.drop (j + 1)) (k - j)
        rwa [List.drop_drop, show j + 1 + (k - j) = k + 1 by omega] at this
      unfold keptAt at h
      rw [hi] at h
      simp only at h
      split at h
      · cases h
      · omega
  refine ⟨key, ?_⟩
  have h1 := lcs_l x xs b
  rcases Nat.lt_or_ge (lcs xs b) (lcs (x :: xs) b) with hl | hl
  · obtain ⟨j, e1, e2⟩ := lcs_kept x xs b hl
    exact absurd e2 (key j e1)
  · omega
/-- The pairs of kept lines, least first; i and k: where the lists begin. -/
def pairsB : List Ln → List Ln → Nat → Nat → List (Nat × Nat)
  | [], _, _, _ => []
  | x :: xs, b, i, k => match keptAt x xs b with
    | none => pairsB xs b (i + 1) k
    | some j => (i, k + j) :: pairsB xs (b.drop (j + 1)) (i + 1) (k + j + 1)
theorem pairsB_zero : ∀ (a b : List Ln) (i k : Nat), lcs a b = 0 → pairsB a b i k = []
  | [], _, _, _, _ => rfl
  | x :: xs, b, i, k, h => by
    unfold pairsB
    cases hk : keptAt x xs b with
    | none => exact pairsB_zero xs b (i + 1) k (by have := (keptAt_none hk).2; omega)
    | some j => have := (keptAt_some hk).2.2; omega
theorem pairsB_len : ∀ (a b : List Ln) (i k : Nat), (pairsB a b i k).length = lcs a b
  | [], _, _, _ => rfl
  | x :: xs, b, i, k => by
    unfold pairsB
    cases hk : keptAt x xs b with
    | none => simp only; rw [pairsB_len xs b (i + 1) k, (keptAt_none hk).2]
    | some j => simp only [List.length_cons]; rw [pairsB_len xs _ (i + 1) (k + j + 1), (keptAt_some hk).2.2]
/-- The pairs ascend; the lines are the same. -/
theorem pairsB_ok : ∀ (a b : List Ln) (i k : Nat), ∀ p ∈ pairsB a b i k, i ≤ p.1 ∧ p.1 < i + a.length ∧ k ≤ p.2 ∧ p.2 < k + b.length ∧ a[p.1 - i]? = b[p.2 - k]?
  | [], _, _, _, p, h => by simp [pairsB] at h
  | x :: xs, b, i, k, p, h => by
    unfold pairsB at h
    cases hk : keptAt x xs b with
    | none =>
      rw [hk] at h
      obtain ⟨h1, h2, h3, h4, h5⟩ := pairsB_ok xs b (i + 1) k p h
      refine ⟨by omega, by simp; omega, h3, h4, ?_⟩
      rw [show p.1 - i = (p.1 - (i + 1)) + 1 by omega, List.getElem?_cons_succ]
      exact h5
    | some j =>
      rw [hk] at h
      obtain ⟨e1, _, _⟩ := keptAt_some hk
      have hjb : j < b.length := (List.getElem?_eq_some_iff.1 e1).1
      rcases List.mem_cons.1 h with rfl | h
      · exact ⟨Nat.le_refl _, by simp, by simp, by simp; omega, by simp [e1]⟩
      · obtain ⟨h1, h2, h3, h4, h5⟩ := pairsB_ok xs _ (i + 1) (k + j + 1) p h
        rw [List.length_drop] at h4
        refine ⟨by omega, by simp; omega, by omega, by omega, ?_⟩
        rw [show p.1 - i = (p.1 - (i + 1)) + 1 by omega, List.getElem?_cons_succ, h5, List.getElem?_drop]
        congr 1
        omega

structure Ed where
  keep : Int
  drop : Int
  put : List Ln
deriving DecidableEq
/-- The edits out of the pairs that are left: la, lb the lists' ends, b the second list. -/
def edsB (la : Nat) (b : List Ln) : List (Nat × Nat) → Nat → Nat → Nat → List Ed
  | [], keep, i, k => if i < la ∨ k < b.length then [⟨keep, (la : Int) - i, b.drop k⟩] else if 0 < keep then [⟨keep, 0, []⟩] else []
  | p :: ps, keep, i, k =>
    if i < p.1 ∨ k < p.2 then ⟨keep, (p.1 : Int) - i, (b.drop k).take (p.2 - k)⟩ :: edsB la b ps 1 (p.1 + 1) (p.2 + 1)
    else edsB la b ps (keep + 1) (p.1 + 1) (p.2 + 1)
/-- The script. -/
def scriptB (a b : List Ln) : List Ed := edsB a.length b (pairsB a b 0 0) 0 0 0
/-- The edits done. -/
def applyB : List Ln → List Ed → Option Ln
  | left, [] => if left = [] then some [] else none
  | left, e :: es =>
    if e.keep < 0 ∨ e.drop < 0 ∨ (left.length : Int) < e.keep ∨ (left.length : Int) - e.keep < e.drop then none
    else (applyB (left.drop (e.keep.toNat + e.drop.toNat)) es).map (fun r => (left.take e.keep.toNat).flatten ++ e.put.flatten ++ r)
end Go.Proofs.Ytakolehlaejhfaa
