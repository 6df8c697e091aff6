/- The walks of doc's text and of the reference's. -/
import Derived.Test.YtaojlnibkajfbaaDoorAnyOf
import Derived.Test.YtaojlnibkajfbaaDoorValidPair
namespace Go.Proofs.YtaojlnibkajfbaaDoor
open Go.RowKit
set_option maxRecDepth 100000
set_option linter.unusedVariables false

/-- May it be a text of a document? -/
def textB (s : ByteArray) : Bool := (validCode s == 0) && !endFrom s 0
theorem validCode_two (s : ByteArray) : validCode s = 0 ∨ validCode s = 100 := by
  unfold validCode
  split <;> simp

set_option maxHeartbeats 1000000 in
theorem text_any (s : ByteArray) (w : World) (hs : s.size < 4294967281) (hT : Tabs w) :
    Calls Tryd.prog 51 #[.string s] w fun e w' => e = .returned (.bool (textB s)) ∧ Below w.heap.size w w' := by
  have HT := Lib.hid hT
  have HV := Lib.hid (valid_any s w (by omega) hT)
  have HB : Hid (textB s = ((validCode s == 0) && !endFrom s 0)) := Lib.hid rfl
  clear hT
  rcases validCode_two s with hc | hc
  · rw [hc] at HV HB
    clear hc
    go_enter Tryd.func51, Tryd.ntmps51
    go_wp2_with fail
    refine HV.out.mono ?_
    rintro e w1 ⟨rfl, hb1⟩
    go_wp2_with fail
    refine (containsEnd_any s w1 hs).mono ?_
    rintro e w2 ⟨rfl, hb2⟩
    have HB2 := Lib.hid (hb1.call hb2)
    clear hb1 hb2
    generalize endFrom s 0 = x at *
    go_wp2_with fail
    go_ret
    exact ⟨ret_bool (by rw [HB.out]; simp), HB2.out⟩
  · rw [hc] at HV HB
    clear hc
    go_enter Tryd.func51, Tryd.ntmps51
    go_wp2_with fail
    refine HV.out.mono ?_
    rintro e w1 ⟨rfl, hb1⟩
    go_wp2_with fail
    go_ret
    exact ⟨ret_bool (by rw [HB.out]; simp), hb1⟩
end Go.Proofs.YtaojlnibkajfbaaDoor
