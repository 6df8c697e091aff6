/- May a document be, but for its kids: plain. -/
import Derived.Test.YtaojlnibkajfbaaDoorDocPlain
import Derived.Test.YtaojlnibkajfbaaDoorDocText
namespace Go.Proofs.YtaojlnibkajfbaaDoor
open Go.RowKit

def formedY (y : Int) : Bool := decide (0 ≤ y) && decide (y ≤ 10000)
/-- May a document be, but for its kids? (kind, text, how many kids, Break, ID, By) -/
def formedF (k : Int) (t : ByteArray) (n : Nat) (b : Bool) (i y : Int) : Bool :=
  if k = 1 then textB t && n == 0 && i == 0 && y == 0 && !b
  else if k = 2 then t.size == 0 && i == 0 && y == 0 && !b
  else if k = 3 ∨ k = 4 ∨ k = 5 ∨ k = 6 ∨ k = 15 ∨ k = 16 then t.size == 0 && n == 0 && i == 0 && y == 0 && !b
  else if k = 7 then t.size == 0 && n == 1 && decide (0 ≤ i) && y == 0
  else if k = 8 then t.size == 0 && decide (1 ≤ n) && i == 0 && y == 0
  else if k = 9 then t.size == 0 && (n == 0 || n % 2 == 1) && i == 0 && y == 0 && !b
  else if k = 10 then t.size == 0 && n == 2 && decide (0 ≤ i) && y == 0 && !b
  else if k = 13 then t.size == 0 && n == 1 && i == 0 && formedY y && !b
  else if k = 11 ∨ k = 14 then t.size == 0 && n == 1 && i == 0 && y == 0 && !b
  else if k = 12 then t.size == 0 && n == 1 && decide (1 ≤ i) && y == 0 && !b
  else false
theorem text_none {t : ByteArray} (h : t.size = 0) : t = ⟨#[]⟩ := by
  obtain ⟨d⟩ := t
  have : d = #[] := Array.eq_empty_of_size_eq_zero h
  rw [this]
theorem text_full {t : ByteArray} (h : ¬ t.size = 0) : t.toList.isEmpty = false := by
  cases hx : t.toList with
  | nil =>
    exfalso
    rw [ByteArray.toList_eq] at hx
    have := size_list t
    rw [hx] at this
    exact h this
  | cons a b => rfl
end Go.Proofs.YtaojlnibkajfbaaDoor
