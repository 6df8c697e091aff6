/- EditsLongest in plain Lean: common lines of small numbers; what a script keeps. -/
import Derived.Test.YtakolehlaejhfaaEdAllPlain
import Derived.Test.YtakolehlaejhfaaEdPlain2
namespace Go.Proofs.Ytakolehlaejhfaa

def lngStep (f : List Nat → Nat) (x : Nat) : List Nat → Nat
  | [] => 0
  | y :: ys => if x = y then 1 + f ys else max (f (y :: ys)) (lngStep f x ys)
def lng : List Nat → List Nat → Nat
  | [] => fun _ => 0
  | x :: xs => lngStep (lng xs) x
theorem lng_nil (b : List Nat) : lng [] b = 0 := rfl
theorem lng_nil' (a : List Nat) : lng a [] = 0 := by cases a <;> rfl
theorem lng_cons (x y : Nat) (xs ys : List Nat) : lng (x :: xs) (y :: ys) = if x = y then 1 + lng xs ys else max (lng xs (y :: ys)) (lng (x :: xs) ys) := rfl
theorem lng_le : ∀ (a b : List Nat), lng a b ≤ a.length
  | [], _ => Nat.le_refl _
  | x :: xs, [] => by simp [lng_nil']
  | x :: xs, y :: ys => by
    have h1 := lng_le xs (y :: ys)
    have h2 := lng_le (x :: xs) ys
    have h3 := lng_le xs ys
    rw [lng_cons]
    simp only [List.length_cons] at *
    split <;> omega
theorem lcs_succ_r : ∀ (a : List Ln) (y : Ln) (ys : List Ln), lcs a (y :: ys) ≤ lcs a ys + 1
  | [], y, ys => by rw [lcs_nil]; omega
  | x :: xs, y, ys => by
    have h1 := lcs_succ_r xs y ys
    have h2 := lcs_l x xs ys
    rw [lcs_cons]
    split <;> omega
theorem lcs_succ_l (x : Ln) (xs b : List Ln) : lcs (x :: xs) b ≤ lcs xs b + 1 := by
  rw [lcs_comm (x :: xs) b, lcs_comm xs b]
  exact lcs_succ_r b x xs
theorem lcs_same (x : Ln) (xs ys : List Ln) : lcs (x :: xs) (x :: ys) = lcs xs ys + 1 := by
  have h1 := lcs_succ_r xs x ys
  have h2 := lcs_succ_l x xs ys
  rw [lcs_cons, if_pos rfl]
  omega
theorem dl_inj : ∀ a, a < 4 → ∀ b, b < 4 → dl a = dl b → a = b := by decide +kernel
theorem decB_nl : ∀ a : Nat, a < 4 → ∀ c ∈ decB (a : Int), c ≠ 10 := by decide +kernel
theorem lng_lcs : ∀ (a b : List Nat), (∀ x ∈ a, x < 4) → (∀ x ∈ b, x < 4) → lcs (a.map dl) (b.map dl) = lng a b
  | [], _, _, _ => rfl
  | x :: xs, [], _, _ => by rw [lng_nil']; exact lcs_nil' _
  | x :: xs, y :: ys, ha, hb => by
    have h1 := lng_lcs xs (y :: ys) (fun z hz => ha z (by simp [hz])) hb
    have h2 := lng_lcs (x :: xs) ys ha (fun z hz => hb z (by simp [hz]))
    have h3 := lng_lcs xs ys (fun z hz => ha z (by simp [hz])) (fun z hz => hb z (by simp [hz]))
    rw [lng_cons]
    simp only [List.map_cons] at *
    by_cases hxy : x = y
    · subst hxy
      rw [if_pos rfl, lcs_same, h3]
      omega
    · rw [if_neg hxy, lcs_cons, if_neg (fun e => hxy (dl_inj x (ha x (by simp)) y (hb y (by simp)) e)), h1, h2]
theorem nums_lines : ∀ (a : List Nat), (∀ x ∈ a, x < 4) → linesB (a.map dl).flatten = a.map dl
  | [], _ => rfl
  | x :: xs, h => by
    have ih := nums_lines xs (fun z hz => h z (by simp [hz]))
    have := linesB_nl (decB (x : Int)) (xs.map dl).flatten (decB_nl x (h x (by simp)))
    rw [ih] at this
    simp only [List.map_cons, List.flatten_cons, dl, List.append_assoc, List.singleton_append] at this ⊢
    exact this
/-- How many lines edits keep. -/
def keptB (es : List Ed) : Int := (es.map (·.keep)).sum
theorem kept_eds (la : Nat) (b : List Ln) : ∀ (ps : List (Nat × Nat)) (keep i k : Nat), keptB (edsB la b ps keep i k) = (keep : Int) + ps.length ∧ ∀ e ∈ edsB la b ps keep i k, 0 ≤ e.keep ∧ e.keep ≤ (keep : Int) + ps.length
  | [], keep, i, k => by
    rw [edsB_nil]
    split
    · simp [keptB]
    · split
      · simp [keptB]
      · have : keep = 0 := by omega
        subst this
        simp [keptB]
  | p :: ps, keep, i, k => by
    by_cases hc : i < p.1 ∨ k < p.2
    · rw [edsB_yes _ _ _ _ _ _ _ hc]
      obtain ⟨h1, h2⟩ := kept_eds la b ps 1 (p.1 + 1) (p.2 + 1)
      refine ⟨?_, fun e he => ?_⟩
      · simp only [keptB, List.map_cons, List.sum_cons] at h1 ⊢
        rw [h1]
        simp only [List.length_cons]
        omega
      · rcases List.mem_cons.1 he with rfl | he
        · simp only [List.length_cons]
          omega
        · have := h2 e he
          simp only [List.length_cons]
          omega
    · rw [edsB_no _ _ _ _ _ _ _ hc]
      obtain ⟨h1, h2⟩ := kept_eds la b ps (keep + 1) (p.1 + 1) (p.2 + 1)
      refine ⟨by rw [h1]; simp only [List.length_cons]; omega, fun e he => ?_⟩
      have := h2 e he
      simp only [List.length_cons]
      omega
theorem kept_script (a b : List Ln) : keptB (scriptB a b) = lcs a b ∧ ∀ e ∈ scriptB a b, 0 ≤ e.keep ∧ e.keep ≤ lcs a b := by
  obtain ⟨h1, h2⟩ := kept_eds a.length b (pairsB a b 0 0) 0 0 0
  rw [pairsB_len] at h1 h2
  unfold scriptB
  exact ⟨by rw [h1]; omega, fun e he => by have := h2 e he; omega⟩
theorem eds_len (la : Nat) (b : List Ln) : ∀ (ps : List (Nat × Nat)) (keep i k : Nat), (edsB la b ps keep i k).length ≤ ps.length + 1
  | [], keep, i, k => by rw [edsB_nil]; split; simp; split <;> simp
  | p :: ps, keep, i, k => by
    by_cases hc : i < p.1 ∨ k < p.2
    · rw [edsB_yes _ _ _ _ _ _ _ hc]
      have := eds_len la b ps 1 (p.1 + 1) (p.2 + 1)
      simp only [List.length_cons]
      omega
    · rw [edsB_no _ _ _ _ _ _ _ hc]
      have := eds_len la b ps (keep + 1) (p.1 + 1) (p.2 + 1)
      simp only [List.length_cons]
      omega
end Go.Proofs.Ytakolehlaejhfaa
