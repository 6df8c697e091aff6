/- LayoutChoices in plain words: each of its documents is laid out as it wants. -/
import Derived.Test.YthljgiimdcbfpaaDoorMDoc
namespace Go.Proofs.YthljgiimdcbfpaaDoor
open Go.RowKit
set_option maxRecDepth 100000
set_option linter.unusedVariables false
set_option linter.unusedSimpArgs false

def ifD (id : Int) (a b : Doc) : Doc := .mk 10 ⟨#[]⟩ [a, b] false id 0
def chW (k : Nat) : Doc := .mk 1 ⟨(List.replicate k 119).toArray⟩ [] false 0 0
def chC (k : Nat) : Doc := .mk 2 ⟨#[]⟩ [chW k, .mk 4 ⟨#[]⟩ [] false 0 0, ifD 0 (tD [66]) (tD [70])] false 0 0
def chG (k : Nat) : Doc := .mk 7 ⟨#[]⟩ [chC k] false 1 0
def chI : Doc := .mk 2 ⟨#[]⟩ [.mk 5 ⟨#[]⟩ [] false 0 0, tD [105]] false 0 0
def chN : Doc := .mk 12 ⟨#[]⟩ [chI] false 1 0
def chD (k : Nat) : Doc := .mk 2 ⟨#[]⟩ [chG k, .mk 5 ⟨#[]⟩ [] false 0 0, ifD 1 (tD [98]) (tD [102]), chN] false 0 0
def chWant (w k : Nat) : Ln := if k + 1 ≤ w then List.replicate k 119 ++ [70, 10, 102, 10, 105] else List.replicate k 119 ++ [10, 66, 10, 98, 10, 32, 32, 32, 105]
def chB (w k : Nat) : Bool := decide ((layN (chD k) ⟨w, 3, false, false⟩).2 = 0) && ((layN (chD k) ⟨w, 3, false, false⟩).1 == chWant w k)
theorem ch_some : chB 5 4 = true ∧ chB 5 5 = true ∧ chB 30 30 = true ∧ chB 1 30 = true := by decide +kernel
theorem ch_all : (List.range 30).all (fun w => (List.range 30).all fun k => chB (w + 1) (k + 1)) = true := by decide +kernel
theorem ch_is {w k : Nat} (hw : 1 ≤ w ∧ w ≤ 30) (hk : 1 ≤ k ∧ k ≤ 30) : chB w k = true := by
  have h1 := List.all_eq_true.1 ch_all (w - 1) (List.mem_range.2 (by omega))
  have h2 := List.all_eq_true.1 h1 (k - 1) (List.mem_range.2 (by omega))
  rw [show w - 1 + 1 = w by omega, show k - 1 + 1 = k by omega] at h2
  exact h2
theorem ch_bulk {k : Nat} (hk : k ≤ 30) : (chD k).bulk ≤ 1000 := by
  have h : (chD k).bulk = k + 29 - 29 + (chD 0).bulk := by
    simp only [chD, chG, chC, chW, chN, chI, ifD, tD, Doc.bulk, bulkL, ByteArray.size, List.size_toArray, List.length_replicate]
    omega
  have : (chD 0).bulk ≤ 100 := by decide +kernel
  omega
end Go.Proofs.YthljgiimdcbfpaaDoor
