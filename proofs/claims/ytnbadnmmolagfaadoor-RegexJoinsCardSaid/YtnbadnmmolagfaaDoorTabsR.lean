/- The library's decoder where its two tables read as its text lays them; the call Num. -/
import Derived.Test.YtnbadnmmolagfaaDoorRows
import Derived.Test.YtnbadnmmolagfaaDoorKit
import Derived.Test.YtnbadnmmolagfaaDoorUtfCut
import Derived.Test.YtnbadnmmolagfaaDoorShelf
namespace Go.Proofs.YtnbadnmmolagfaaDoor
open Go.RowKit
set_option maxRecDepth 100000
set_option linter.unusedVariables false

/-- The library's two tables, in this program's blocks. -/
def Tabs (w : World) : Prop := Lib.Utf8Tabs 1 2 w ∧ 2 < w.heap.size
theorem Tabs.of {w : World} (h : Lib.Utf8Tabs 1 2 w) : Tabs w := by
  refine ⟨h, ?_⟩
  have h1 := World.block_lt_of_cell? w _ (h.1 0 (by decide))
  have h2 := World.block_lt_of_cell? w _ (h.2 0 (by decide)).1
  simp at h1 h2
  omega
theorem Tabs.below {w w' : World} (h : Tabs w) (hb : Below w.heap.size w w') : Tabs w' := by
  have hz := h.2
  refine ⟨⟨fun c hc => (hb.cell (p := ⟨1, c, none⟩) (by simp; omega)).trans (h.1.1 c hc), fun i hi => ⟨(hb.cell (p := ⟨2, 2 * i, none⟩) (by simp; omega)).trans (h.1.2 i hi).1, (hb.cell (p := ⟨2, 2 * i + 1, none⟩) (by simp; omega)).trans (h.1.2 i hi).2⟩⟩, Nat.lt_of_lt_of_le hz hb.size⟩

theorem decodeGo_rest (s : ByteArray) (p : Nat) (h : p < s.size) : Lib.decodeGo (s.extract p s.size) = Utf8.decode s p := by
  unfold Lib.decodeGo
  rw [size_rest, if_neg (by omega), (char_rest s p 0).1, Nat.add_zero]
theorem decodeRune_rest (s : ByteArray) (p : Nat) (h : p < s.size) (w : World) (hT : Tabs w) :
    Calls Tryd.prog 47 #[.string (s.extract p s.size)] w fun e w' => e = .returned (.tuple #[.int .i32 (Utf8.decode s p).1, .int .i64 (Utf8.decode s p).2]) ∧ Below w.heap.size w w' := by
  have h1 := Tryd.utf8_DecodeRuneInString (s.extract p s.size) w hT.1
  rw [decodeGo_rest s p h] at h1
  exact h1

theorem num_any (n : Int) (w : World) :
    Calls Tryd.prog 12 #[.int .i64 n] w fun e w' => e = .returned (.int .i64 n) ∧ w = w' := by
  go_enter Tryd.func12, Tryd.ntmps12
  go_wp2
  go_ret
  exact ⟨rfl, rfl⟩
end Go.Proofs.YtnbadnmmolagfaaDoor
