/- doc.formed: whatever the document. -/
import Derived.Test.YtaojlnibkajfbaaDoorDocFormA
import Derived.Test.YtaojlnibkajfbaaDoorDocFormB
import Derived.Test.YtaojlnibkajfbaaDoorDocFormC
import Derived.Test.YtaojlnibkajfbaaDoorDocFormD
import Derived.Test.YtaojlnibkajfbaaDoorDocFormE
namespace Go.Proofs.YtaojlnibkajfbaaDoor
open Go.RowKit
set_option maxRecDepth 100000
set_option linter.unusedVariables false

set_option maxHeartbeats 4000000 in
theorem formed_other (k : Int) (hk : ¬ (1 ≤ k ∧ k ≤ 16)) (t : ByteArray) (a : Option Addr) (n cap : Nat) (b : Bool) (i y : Int) (g off : Nat) (w : World) (hn : n ≤ 1099511627776) (h0 : w.cell? ⟨g, off, none⟩ = some (.int .i64 k)) (h2 : w.cell? ⟨g, off + 2, none⟩ = some (.slice a n cap))
    (h3 : w.cell? ⟨g, off + 3, none⟩ = some (.bool b)) (h4 : w.cell? ⟨g, off + 4, none⟩ = some (.int .i64 i)) (h5 : w.cell? ⟨g, off + 5, none⟩ = some (.int .i64 y)) :
    Calls Tryd.prog 46 #[.pointer (some ⟨g, off, none⟩)] w fun e w' => e = .returned (.bool false) ∧ Below w.heap.size w w' := by
  have e : ∀ c : Int, 1 ≤ c → c ≤ 16 → (k == c) = false := fun c h1 h2 => by rw [beq_eq_false_iff_ne]; rintro rfl; exact hk ⟨h1, h2⟩
  have e1 := e 1 (by decide) (by decide)
  have e2 := e 2 (by decide) (by decide)
  have e3 := e 3 (by decide) (by decide)
  have e4 := e 4 (by decide) (by decide)
  have e5 := e 5 (by decide) (by decide)
  have e6 := e 6 (by decide) (by decide)
  have e7 := e 7 (by decide) (by decide)
  have e8 := e 8 (by decide) (by decide)
  have e9 := e 9 (by decide) (by decide)
  have e10 := e 10 (by decide) (by decide)
  have e11 := e 11 (by decide) (by decide)
  have e12 := e 12 (by decide) (by decide)
  have e13 := e 13 (by decide) (by decide)
  have e14 := e 14 (by decide) (by decide)
  have e15 := e 15 (by decide) (by decide)
  have e16 := e 16 (by decide) (by decide)
  clear e hk
  go_enter Tryd.func46, Tryd.ntmps46
  go_wp2_with fail
  go_quiet (fail)
  have HBQ := Lib.hid (below_drewN (Below.refl w.heap.size w) nq)
  go_wp2_with fail
  go_ret
  exact ⟨rfl, HBQ.out⟩
theorem formedF_other (k : Int) (hk : ¬ (1 ≤ k ∧ k ≤ 16)) (t : ByteArray) (n : Nat) (b : Bool) (i y : Int) : formedF k t n b i y = false := by
  unfold formedF
  rw [if_neg (by omega), if_neg (by omega), if_neg (by omega), if_neg (by omega), if_neg (by omega), if_neg (by omega), if_neg (by omega), if_neg (by omega), if_neg (by omega), if_neg (by omega)]
/-- May it be, but for its kids? -/
def Doc.formed (d : Doc) : Bool := formedF d.kind d.text d.kids.length d.brk d.id d.width
theorem formed_any (d : Doc) (kv : Value) (lo hi g off : Nat) (w : World) (hk : KV w lo hi d kv) (h6 : Six w g off d kv) (hn : d.kids.length ≤ 1099511627776) (ht : d.text.size < 4294967281) (hT : Tabs w) :
    Calls Tryd.prog 46 #[.pointer (some ⟨g, off, none⟩)] w fun e w' => e = .returned (.bool d.formed) ∧ Below w.heap.size w w' := by
  obtain ⟨a, cap, rfl⟩ := hk.slice
  have h0 := h6.kind
  have h1 := h6.text
  have h2 := h6.kids
  have h3 := h6.brk
  have h4 := h6.id
  have h5 := h6.width
  clear h6 hk
  unfold Doc.formed
  generalize d.kids.length = n at *
  generalize d.brk = b at *
  generalize d.id = i at *
  generalize d.width = y at *
  have hx : ∀ W, Below w.heap.size w W → Calls Tryd.prog 51 #[.string d.text] W fun e w' => e = .returned (.bool (textB d.text)) ∧ Below W.heap.size W w' := fun W hb => text_any d.text W ht (hT.below hb)
  generalize d.text = t at *
  generalize d.kind = k at *
  by_cases hk : 1 ≤ k ∧ k ≤ 16
  · have : k = 1 ∨ k = 2 ∨ k = 3 ∨ k = 4 ∨ k = 5 ∨ k = 6 ∨ k = 7 ∨ k = 8 ∨ k = 9 ∨ k = 10 ∨ k = 11 ∨ k = 12 ∨ k = 13 ∨ k = 14 ∨ k = 15 ∨ k = 16 := by omega
    rcases this with rfl | rfl | rfl | rfl | rfl | rfl | rfl | rfl | rfl | rfl | rfl | rfl | rfl | rfl | rfl | rfl
    · exact formed_1 t a n cap b i y g off w hn h0 h1 h2 h3 h4 h5 (Lib.hid hx)
    · exact formed_2 t a n cap b i y g off w hn h0 h1 h2 h3 h4 h5
    · exact formed_3 t a n cap b i y g off w hn h0 h1 h2 h3 h4 h5
    · exact formed_4 t a n cap b i y g off w hn h0 h1 h2 h3 h4 h5
    · exact formed_5 t a n cap b i y g off w hn h0 h1 h2 h3 h4 h5
    · exact formed_6 t a n cap b i y g off w hn h0 h1 h2 h3 h4 h5
    · exact formed_7 t a n cap b i y g off w hn h0 h1 h2 h3 h4 h5
    · exact formed_8 t a n cap b i y g off w hn h0 h1 h2 h3 h4 h5
    · exact formed_9 t a n cap b i y g off w hn h0 h1 h2 h3 h4 h5
    · exact formed_10 t a n cap b i y g off w hn h0 h1 h2 h3 h4 h5
    · exact formed_11 t a n cap b i y g off w hn h0 h1 h2 h3 h4 h5
    · exact formed_12 t a n cap b i y g off w hn h0 h1 h2 h3 h4 h5
    · exact formed_13 t a n cap b i y g off w hn h0 h1 h2 h3 h4 h5
    · exact formed_14 t a n cap b i y g off w hn h0 h1 h2 h3 h4 h5
    · exact formed_15 t a n cap b i y g off w hn h0 h1 h2 h3 h4 h5
    · exact formed_16 t a n cap b i y g off w hn h0 h1 h2 h3 h4 h5
  · rw [formedF_other k hk]
    exact formed_other k hk t a n cap b i y g off w hn h0 h2 h3 h4 h5
end Go.Proofs.YtaojlnibkajfbaaDoor
