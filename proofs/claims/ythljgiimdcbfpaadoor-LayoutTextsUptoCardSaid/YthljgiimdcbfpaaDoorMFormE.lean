/- The walks of doc.formed, part E: by a document's kind. PRINTED by gen_formed.py. -/
import Derived.Test.YthljgiimdcbfpaaDoorMGround
namespace Go.Proofs.YthljgiimdcbfpaaDoor
open Go.RowKit
set_option maxRecDepth 100000
set_option linter.unusedVariables false
set_option linter.unusedSimpArgs false

set_option maxHeartbeats 16000000 in
theorem formed_13 (t : ByteArray) (a : Option Addr) (n cap : Nat) (b : Bool) (i y : Int) (g off : Nat) (w : World) (hn : n ≤ 1099511627776) (h0 : w.cell? ⟨g, off, none⟩ = some (.int .i64 13)) (h1 : w.cell? ⟨g, off + 1, none⟩ = some (.string t)) (h2 : w.cell? ⟨g, off + 2, none⟩ = some (.slice a n cap))
    (h3 : w.cell? ⟨g, off + 3, none⟩ = some (.bool b)) (h4 : w.cell? ⟨g, off + 4, none⟩ = some (.int .i64 i)) (h5 : w.cell? ⟨g, off + 5, none⟩ = some (.int .i64 y)) :
    Calls Tryd.prog 57 #[.pointer (some ⟨g, off, none⟩)] w fun e w' => e = .returned (.bool (formedF 13 t n b i y)) ∧ Below w.heap.size w w' := by
  by_cases hy0 : 0 ≤ y
  · by_cases hy1 : y ≤ 10000
    · have hyr : formedY y = true := by simp [formedY, hy0, hy1]
      by_cases hc : t.size = 0
      · obtain rfl := text_none hc
        clear hc
        by_cases hc : n = 1
        · subst hc
          by_cases hc : i = 0
          · subst hc
            cases b
            ·
              have HF : Hid (formedF 13 ⟨#[]⟩ 1 false 0 y = true) := Lib.hid (by simp_all [formedF] <;> first | rfl | omega)
              go_enter Tryd.func57, Tryd.ntmps57
              go_wp2_with fail
              go_quiet (fail)
              have HBQ := Lib.hid (below_drewN (Below.refl w.heap.size w) nq)
              go_wp2_with fail
              go_ret
              exact ⟨ret_bool HF.out.symm, HBQ.out⟩
            ·
              have HF : Hid (formedF 13 ⟨#[]⟩ 1 true 0 y = false) := Lib.hid (by simp_all [formedF] <;> first | rfl | omega)
              go_enter Tryd.func57, Tryd.ntmps57
              go_wp2_with fail
              go_quiet (fail)
              have HBQ := Lib.hid (below_drewN (Below.refl w.heap.size w) nq)
              go_wp2_with fail
              go_ret
              exact ⟨ret_bool HF.out.symm, HBQ.out⟩
          · have hI : (i == 0) = false := by rw [beq_eq_false_iff_ne]; exact hc
            have HF : Hid (formedF 13 ⟨#[]⟩ 1 b i y = false) := Lib.hid (by simp_all [formedF] <;> first | rfl | omega)
            go_enter Tryd.func57, Tryd.ntmps57
            go_wp2_with fail
            go_quiet (fail)
            have HBQ := Lib.hid (below_drewN (Below.refl w.heap.size w) nq)
            go_wp2_with fail
            go_ret
            exact ⟨ret_bool HF.out.symm, HBQ.out⟩
        · have hN : ((n : Int) == 1) = false := by rw [beq_eq_false_iff_ne]; omega
          have HF : Hid (formedF 13 ⟨#[]⟩ n b i y = false) := Lib.hid (by simp_all [formedF] <;> first | rfl | omega)
          go_enter Tryd.func57, Tryd.ntmps57
          go_wp2_with fail
          go_quiet (fail)
          have HBQ := Lib.hid (below_drewN (Below.refl w.heap.size w) nq)
          go_wp2_with fail
          go_ret
          exact ⟨ret_bool HF.out.symm, HBQ.out⟩
      · have hT : t.toList.isEmpty = false := text_full hc
        have HF : Hid (formedF 13 t n b i y = false) := Lib.hid (by simp_all [formedF] <;> first | rfl | omega)
        go_enter Tryd.func57, Tryd.ntmps57
        go_wp2_with fail
        go_quiet (fail)
        have HBQ := Lib.hid (below_drewN (Below.refl w.heap.size w) nq)
        go_wp2_with fail
        go_ret
        exact ⟨ret_bool HF.out.symm, HBQ.out⟩
    · have hyr : formedY y = false := by simp [formedY, hy1]
      have hy2 : 10000 < y := by omega
      by_cases hc : t.size = 0
      · obtain rfl := text_none hc
        clear hc
        by_cases hc : n = 1
        · subst hc
          by_cases hc : i = 0
          · subst hc
            have HF : Hid (formedF 13 ⟨#[]⟩ 1 b 0 y = false) := Lib.hid (by simp_all [formedF] <;> first | rfl | omega)
            go_enter Tryd.func57, Tryd.ntmps57
            go_wp2_with fail
            go_quiet (fail)
            have HBQ := Lib.hid (below_drewN (Below.refl w.heap.size w) nq)
            go_wp2_with fail
            go_ret
            exact ⟨ret_bool HF.out.symm, HBQ.out⟩
          · have hI : (i == 0) = false := by rw [beq_eq_false_iff_ne]; exact hc
            have HF : Hid (formedF 13 ⟨#[]⟩ 1 b i y = false) := Lib.hid (by simp_all [formedF] <;> first | rfl | omega)
            go_enter Tryd.func57, Tryd.ntmps57
            go_wp2_with fail
            go_quiet (fail)
            have HBQ := Lib.hid (below_drewN (Below.refl w.heap.size w) nq)
            go_wp2_with fail
            go_ret
            exact ⟨ret_bool HF.out.symm, HBQ.out⟩
        · have hN : ((n : Int) == 1) = false := by rw [beq_eq_false_iff_ne]; omega
          have HF : Hid (formedF 13 ⟨#[]⟩ n b i y = false) := Lib.hid (by simp_all [formedF] <;> first | rfl | omega)
          go_enter Tryd.func57, Tryd.ntmps57
          go_wp2_with fail
          go_quiet (fail)
          have HBQ := Lib.hid (below_drewN (Below.refl w.heap.size w) nq)
          go_wp2_with fail
          go_ret
          exact ⟨ret_bool HF.out.symm, HBQ.out⟩
      · have hT : t.toList.isEmpty = false := text_full hc
        have HF : Hid (formedF 13 t n b i y = false) := Lib.hid (by simp_all [formedF] <;> first | rfl | omega)
        go_enter Tryd.func57, Tryd.ntmps57
        go_wp2_with fail
        go_quiet (fail)
        have HBQ := Lib.hid (below_drewN (Below.refl w.heap.size w) nq)
        go_wp2_with fail
        go_ret
        exact ⟨ret_bool HF.out.symm, HBQ.out⟩
  · have hyr : formedY y = false := by simp [formedY, hy0]
    have hy2 : y < 0 := by omega
    by_cases hc : t.size = 0
    · obtain rfl := text_none hc
      clear hc
      by_cases hc : n = 1
      · subst hc
        by_cases hc : i = 0
        · subst hc
          have HF : Hid (formedF 13 ⟨#[]⟩ 1 b 0 y = false) := Lib.hid (by simp_all [formedF] <;> first | rfl | omega)
          go_enter Tryd.func57, Tryd.ntmps57
          go_wp2_with fail
          go_quiet (fail)
          have HBQ := Lib.hid (below_drewN (Below.refl w.heap.size w) nq)
          go_wp2_with fail
          go_ret
          exact ⟨ret_bool HF.out.symm, HBQ.out⟩
        · have hI : (i == 0) = false := by rw [beq_eq_false_iff_ne]; exact hc
          have HF : Hid (formedF 13 ⟨#[]⟩ 1 b i y = false) := Lib.hid (by simp_all [formedF] <;> first | rfl | omega)
          go_enter Tryd.func57, Tryd.ntmps57
          go_wp2_with fail
          go_quiet (fail)
          have HBQ := Lib.hid (below_drewN (Below.refl w.heap.size w) nq)
          go_wp2_with fail
          go_ret
          exact ⟨ret_bool HF.out.symm, HBQ.out⟩
      · have hN : ((n : Int) == 1) = false := by rw [beq_eq_false_iff_ne]; omega
        have HF : Hid (formedF 13 ⟨#[]⟩ n b i y = false) := Lib.hid (by simp_all [formedF] <;> first | rfl | omega)
        go_enter Tryd.func57, Tryd.ntmps57
        go_wp2_with fail
        go_quiet (fail)
        have HBQ := Lib.hid (below_drewN (Below.refl w.heap.size w) nq)
        go_wp2_with fail
        go_ret
        exact ⟨ret_bool HF.out.symm, HBQ.out⟩
    · have hT : t.toList.isEmpty = false := text_full hc
      have HF : Hid (formedF 13 t n b i y = false) := Lib.hid (by simp_all [formedF] <;> first | rfl | omega)
      go_enter Tryd.func57, Tryd.ntmps57
      go_wp2_with fail
      go_quiet (fail)
      have HBQ := Lib.hid (below_drewN (Below.refl w.heap.size w) nq)
      go_wp2_with fail
      go_ret
      exact ⟨ret_bool HF.out.symm, HBQ.out⟩
end Go.Proofs.YthljgiimdcbfpaaDoor
