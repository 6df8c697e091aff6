/- What a document is flat: plain. -/
import Derived.Test.YtaojlnibkajfbaaDoorDocPlain
namespace Go.Proofs.YtaojlnibkajfbaaDoor
open Go.RowKit

mutual
/-- A document's text on the flat way; none: it can't be gone. -/
def Doc.flat : Doc → Option (List UInt8)
  | .mk k t ks b _ _ =>
    if k = 1 then some t.data.toList
    else if k = 3 then some [32]
    else if k = 5 ∨ k = 6 ∨ k = 16 then Option.none
    else if k = 14 ∨ k = 4 ∨ k = 15 then some []
    else if k = 7 ∨ k = 8 then (if b = true then Option.none else flatH ks)
    else if k = 10 then flatT ks
    else flatL ks
/-- All of a list; its first; all but its first. -/
def flatL : List Doc → Option (List UInt8)
  | [] => some []
  | d :: ds => (d.flat).bind fun a => (flatL ds).map fun b => a ++ b
def flatH : List Doc → Option (List UInt8)
  | [] => some []
  | d :: _ => d.flat
def flatT : List Doc → Option (List UInt8)
  | [] => some []
  | _ :: ds => flatL ds
end
theorem Doc.flat_eq (d : Doc) : d.flat = if d.kind = 1 then some d.text.data.toList
    else if d.kind = 3 then some [32]
    else if d.kind = 5 ∨ d.kind = 6 ∨ d.kind = 16 then Option.none
    else if d.kind = 14 ∨ d.kind = 4 ∨ d.kind = 15 then some []
    else if d.kind = 7 ∨ d.kind = 8 then (if d.brk = true then Option.none else flatH d.kids)
    else if d.kind = 10 then flatT d.kids
    else flatL d.kids := by cases d; rfl
theorem flatL_app (a b : List Doc) : flatL (a ++ b) = (flatL a).bind fun x => (flatL b).map fun y => x ++ y := by
  induction a with
  | nil => cases h : flatL b <;> simp [flatL, h]
  | cons d a ih =>
    simp only [List.cons_append, flatL, ih]
    cases d.flat <;> simp
    cases flatL a <;> simp
    cases flatL b <;> simp
theorem flatL_one (d : Doc) : flatL [d] = d.flat := by
  simp only [flatL]
  cases d.flat <;> simp
theorem flatH_take (ks : List Doc) : flatH ks = flatL (ks.take 1) := by
  cases ks with
  | nil => rfl
  | cons d ds => simp only [flatH, List.take_succ_cons, List.take_zero, flatL_one]
theorem flatT_drop (ks : List Doc) : flatT ks = flatL (ks.drop 1) := by
  cases ks with
  | nil => rfl
  | cons d ds => rfl
theorem flatL_len : ∀ (ks : List Doc), (∀ d ∈ ks, ∀ l, d.flat = some l → l.length ≤ d.bulk) → ∀ l, flatL ks = some l → l.length ≤ bulkL ks
  | [], _, l, h => by cases h; simp
  | d :: ds, hd, l, h => by
    simp only [flatL] at h
    cases h1 : d.flat with
    | none => rw [h1] at h; cases h
    | some a =>
      rw [h1] at h
      cases h2 : flatL ds with
      | none => rw [h2] at h; cases h
      | some b =>
        rw [h2] at h
        cases h
        have := hd d (by simp) a h1
        have := flatL_len ds (fun x hx => hd x (by simp [hx])) b h2
        simp only [List.length_append, bulkL]
        omega
theorem bulkL_take (ks : List Doc) (n : Nat) : bulkL (ks.take n) ≤ bulkL ks := by
  have := bulkL_app (ks.take n) (ks.drop n)
  rw [List.take_append_drop] at this
  omega
theorem bulkL_drop (ks : List Doc) (n : Nat) : bulkL (ks.drop n) ≤ bulkL ks := by
  have := bulkL_app (ks.take n) (ks.drop n)
  rw [List.take_append_drop] at this
  omega
theorem bulkL_get {ks : List Doc} {j : Nat} (h : j < ks.length) : bulkL (ks.take j) + (ks[j]).bulk ≤ bulkL ks := by
  have h1 : ks.take (j + 1) = ks.take j ++ [ks[j]] := by rw [List.take_succ_eq_append_getElem h]
  have h2 := bulkL_take ks (j + 1)
  rw [h1, bulkL_app] at h2
  simpa [bulkL] using h2
theorem Doc.flat_len (d : Doc) : ∀ l, d.flat = some l → l.length ≤ d.bulk := by
  refine Doc.ind (P := fun d => ∀ l, d.flat = some l → l.length ≤ d.bulk) (fun d ih l h => ?_) d
  rw [Doc.flat_eq] at h
  rw [Doc.bulk_eq]
  have ht : d.text.size = d.text.data.toList.length := by simp
  have hL := flatL_len d.kids ih
  split at h
  · cases h; omega
  · split at h
    · cases h; simp
    · split at h
      · cases h
      · split at h
        · cases h; simp
        · split at h
          · split at h
            · cases h
            · rw [flatH_take] at h
              have := flatL_len (d.kids.take 1) (fun x hx => ih x (List.mem_of_mem_take hx)) l h
              have := bulkL_take d.kids 1
              omega
          · split at h
            · rw [flatT_drop] at h
              have := flatL_len (d.kids.drop 1) (fun x hx => ih x (List.mem_of_mem_drop hx)) l h
              have := bulkL_drop d.kids 1
              omega
            · have := hL l h
              omega
end Go.Proofs.YtaojlnibkajfbaaDoor
