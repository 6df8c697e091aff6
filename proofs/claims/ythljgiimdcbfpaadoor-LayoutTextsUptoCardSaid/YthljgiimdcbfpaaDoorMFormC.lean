/- The walks of doc.formed, part C: by a document's kind. PRINTED by gen_formed.py. -/
import Derived.Test.YthljgiimdcbfpaaDoorMGround
namespace Go.Proofs.YthljgiimdcbfpaaDoor
open Go.RowKit
set_option maxRecDepth 100000
set_option linter.unusedVariables false
set_option linter.unusedSimpArgs false

set_option maxHeartbeats 16000000 in
theorem formed_16 (t : ByteArray) (a : Option Addr) (n cap : Nat) (b : Bool) (i y : Int) (g off : Nat) (w : World) (hn : n ≤ 1099511627776) (h0 : w.cell? ⟨g, off, none⟩ = some (.int .i64 16)) (h1 : w.cell? ⟨g, off + 1, none⟩ = some (.string t)) (h2 : w.cell? ⟨g, off + 2, none⟩ = some (.slice a n cap))
    (h3 : w.cell? ⟨g, off + 3, none⟩ = some (.bool b)) (h4 : w.cell? ⟨g, off + 4, none⟩ = some (.int .i64 i)) (h5 : w.cell? ⟨g, off + 5, none⟩ = some (.int .i64 y)) :
    Calls Tryd.prog 57 #[.pointer (some ⟨g, off, none⟩)] w fun e w' => e = .returned (.bool (formedF 16 t n b i y)) ∧ Below w.heap.size w w' := by
  by_cases hc : t.size = 0
  · obtain rfl := text_none hc
    clear hc
    by_cases hc : n = 0
    · subst hc
      by_cases hc : i = 0
      · subst hc
        by_cases hc : y = 0
        · subst hc
          cases b
          ·
            have HF : Hid (formedF 16 ⟨#[]⟩ 0 false 0 0 = true) := Lib.hid (by simp_all [formedF] <;> first | rfl | omega)
            go_enter Tryd.func57, Tryd.ntmps57
            go_wp2_with fail
            go_quiet (fail)
            have HBQ := Lib.hid (below_drewN (Below.refl w.heap.size w) nq)
            go_wp2_with fail
            go_ret
            exact ⟨ret_bool HF.out.symm, HBQ.out⟩
          ·
            have HF : Hid (formedF 16 ⟨#[]⟩ 0 true 0 0 = false) := Lib.hid (by simp_all [formedF] <;> first | rfl | omega)
            go_enter Tryd.func57, Tryd.ntmps57
            go_wp2_with fail
            go_quiet (fail)
            have HBQ := Lib.hid (below_drewN (Below.refl w.heap.size w) nq)
            go_wp2_with fail
            go_ret
            exact ⟨ret_bool HF.out.symm, HBQ.out⟩
        · have hY : (y == 0) = false := by rw [beq_eq_false_iff_ne]; exact hc
          have HF : Hid (formedF 16 ⟨#[]⟩ 0 b 0 y = false) := Lib.hid (by simp_all [formedF] <;> first | rfl | omega)
          go_enter Tryd.func57, Tryd.ntmps57
          go_wp2_with fail
          go_quiet (fail)
          have HBQ := Lib.hid (below_drewN (Below.refl w.heap.size w) nq)
          go_wp2_with fail
          go_ret
          exact ⟨ret_bool HF.out.symm, HBQ.out⟩
      · have hI : (i == 0) = false := by rw [beq_eq_false_iff_ne]; exact hc
        have HF : Hid (formedF 16 ⟨#[]⟩ 0 b i y = false) := Lib.hid (by simp_all [formedF] <;> first | rfl | omega)
        go_enter Tryd.func57, Tryd.ntmps57
        go_wp2_with fail
        go_quiet (fail)
        have HBQ := Lib.hid (below_drewN (Below.refl w.heap.size w) nq)
        go_wp2_with fail
        go_ret
        exact ⟨ret_bool HF.out.symm, HBQ.out⟩
    · have hN : ((n : Int) == 0) = false := by rw [beq_eq_false_iff_ne]; omega
      have HF : Hid (formedF 16 ⟨#[]⟩ n b i y = false) := Lib.hid (by simp_all [formedF] <;> first | rfl | omega)
      go_enter Tryd.func57, Tryd.ntmps57
      go_wp2_with fail
      go_quiet (fail)
      have HBQ := Lib.hid (below_drewN (Below.refl w.heap.size w) nq)
      go_wp2_with fail
      go_ret
      exact ⟨ret_bool HF.out.symm, HBQ.out⟩
  · have hT : t.toList.isEmpty = false := text_full hc
    have HF : Hid (formedF 16 t n b i y = false) := Lib.hid (by simp_all [formedF] <;> first | rfl | omega)
    go_enter Tryd.func57, Tryd.ntmps57
    go_wp2_with fail
    go_quiet (fail)
    have HBQ := Lib.hid (below_drewN (Below.refl w.heap.size w) nq)
    go_wp2_with fail
    go_ret
    exact ⟨ret_bool HF.out.symm, HBQ.out⟩

set_option maxHeartbeats 16000000 in
theorem formed_7 (t : ByteArray) (a : Option Addr) (n cap : Nat) (b : Bool) (i y : Int) (g off : Nat) (w : World) (hn : n ≤ 1099511627776) (h0 : w.cell? ⟨g, off, none⟩ = some (.int .i64 7)) (h1 : w.cell? ⟨g, off + 1, none⟩ = some (.string t)) (h2 : w.cell? ⟨g, off + 2, none⟩ = some (.slice a n cap))
    (h3 : w.cell? ⟨g, off + 3, none⟩ = some (.bool b)) (h4 : w.cell? ⟨g, off + 4, none⟩ = some (.int .i64 i)) (h5 : w.cell? ⟨g, off + 5, none⟩ = some (.int .i64 y)) :
    Calls Tryd.prog 57 #[.pointer (some ⟨g, off, none⟩)] w fun e w' => e = .returned (.bool (formedF 7 t n b i y)) ∧ Below w.heap.size w w' := by
  by_cases hc : t.size = 0
  · obtain rfl := text_none hc
    clear hc
    by_cases hc : n = 1
    · subst hc
      by_cases hc : 0 ≤ i
      · have hI : 0 ≤ i := hc
        by_cases hc : y = 0
        · subst hc
          have HF : Hid (formedF 7 ⟨#[]⟩ 1 b i 0 = true) := Lib.hid (by simp_all [formedF] <;> first | rfl | omega)
          go_enter Tryd.func57, Tryd.ntmps57
          go_wp2_with fail
          go_quiet (fail)
          have HBQ := Lib.hid (below_drewN (Below.refl w.heap.size w) nq)
          go_wp2_with fail
          go_ret
          exact ⟨ret_bool HF.out.symm, HBQ.out⟩
        · have hY : (y == 0) = false := by rw [beq_eq_false_iff_ne]; exact hc
          have HF : Hid (formedF 7 ⟨#[]⟩ 1 b i y = false) := Lib.hid (by simp_all [formedF] <;> first | rfl | omega)
          go_enter Tryd.func57, Tryd.ntmps57
          go_wp2_with fail
          go_quiet (fail)
          have HBQ := Lib.hid (below_drewN (Below.refl w.heap.size w) nq)
          go_wp2_with fail
          go_ret
          exact ⟨ret_bool HF.out.symm, HBQ.out⟩
      · have hI : i < 0 := by omega
        have HF : Hid (formedF 7 ⟨#[]⟩ 1 b i y = false) := Lib.hid (by simp_all [formedF] <;> first | rfl | omega)
        go_enter Tryd.func57, Tryd.ntmps57
        go_wp2_with fail
        go_quiet (fail)
        have HBQ := Lib.hid (below_drewN (Below.refl w.heap.size w) nq)
        go_wp2_with fail
        go_ret
        exact ⟨ret_bool HF.out.symm, HBQ.out⟩
    · have hN : ((n : Int) == 1) = false := by rw [beq_eq_false_iff_ne]; omega
      have HF : Hid (formedF 7 ⟨#[]⟩ n b i y = false) := Lib.hid (by simp_all [formedF] <;> first | rfl | omega)
      go_enter Tryd.func57, Tryd.ntmps57
      go_wp2_with fail
      go_quiet (fail)
      have HBQ := Lib.hid (below_drewN (Below.refl w.heap.size w) nq)
      go_wp2_with fail
      go_ret
      exact ⟨ret_bool HF.out.symm, HBQ.out⟩
  · have hT : t.toList.isEmpty = false := text_full hc
    have HF : Hid (formedF 7 t n b i y = false) := Lib.hid (by simp_all [formedF] <;> first | rfl | omega)
    go_enter Tryd.func57, Tryd.ntmps57
    go_wp2_with fail
    go_quiet (fail)
    have HBQ := Lib.hid (below_drewN (Below.refl w.heap.size w) nq)
    go_wp2_with fail
    go_ret
    exact ⟨ret_bool HF.out.symm, HBQ.out⟩

set_option maxHeartbeats 16000000 in
theorem formed_8 (t : ByteArray) (a : Option Addr) (n cap : Nat) (b : Bool) (i y : Int) (g off : Nat) (w : World) (hn : n ≤ 1099511627776) (h0 : w.cell? ⟨g, off, none⟩ = some (.int .i64 8)) (h1 : w.cell? ⟨g, off + 1, none⟩ = some (.string t)) (h2 : w.cell? ⟨g, off + 2, none⟩ = some (.slice a n cap))
    (h3 : w.cell? ⟨g, off + 3, none⟩ = some (.bool b)) (h4 : w.cell? ⟨g, off + 4, none⟩ = some (.int .i64 i)) (h5 : w.cell? ⟨g, off + 5, none⟩ = some (.int .i64 y)) :
    Calls Tryd.prog 57 #[.pointer (some ⟨g, off, none⟩)] w fun e w' => e = .returned (.bool (formedF 8 t n b i y)) ∧ Below w.heap.size w w' := by
  by_cases hc : t.size = 0
  · obtain rfl := text_none hc
    clear hc
    by_cases hc : 1 ≤ n
    · have hN : (1 : Int) ≤ (n : Int) := by omega
      by_cases hc : i = 0
      · subst hc
        by_cases hc : y = 0
        · subst hc
          have HF : Hid (formedF 8 ⟨#[]⟩ n b 0 0 = true) := Lib.hid (by simp_all [formedF] <;> first | rfl | omega)
          go_enter Tryd.func57, Tryd.ntmps57
          go_wp2_with fail
          go_quiet (fail)
          have HBQ := Lib.hid (below_drewN (Below.refl w.heap.size w) nq)
          go_wp2_with fail
          go_ret
          exact ⟨ret_bool HF.out.symm, HBQ.out⟩
        · have hY : (y == 0) = false := by rw [beq_eq_false_iff_ne]; exact hc
          have HF : Hid (formedF 8 ⟨#[]⟩ n b 0 y = false) := Lib.hid (by simp_all [formedF] <;> first | rfl | omega)
          go_enter Tryd.func57, Tryd.ntmps57
          go_wp2_with fail
          go_quiet (fail)
          have HBQ := Lib.hid (below_drewN (Below.refl w.heap.size w) nq)
          go_wp2_with fail
          go_ret
          exact ⟨ret_bool HF.out.symm, HBQ.out⟩
      · have hI : (i == 0) = false := by rw [beq_eq_false_iff_ne]; exact hc
        have HF : Hid (formedF 8 ⟨#[]⟩ n b i y = false) := Lib.hid (by simp_all [formedF] <;> first | rfl | omega)
        go_enter Tryd.func57, Tryd.ntmps57
        go_wp2_with fail
        go_quiet (fail)
        have HBQ := Lib.hid (below_drewN (Below.refl w.heap.size w) nq)
        go_wp2_with fail
        go_ret
        exact ⟨ret_bool HF.out.symm, HBQ.out⟩
    · obtain rfl : n = 0 := by omega
      clear hc
      have HF : Hid (formedF 8 ⟨#[]⟩ 0 b i y = false) := Lib.hid (by simp_all [formedF] <;> first | rfl | omega)
      go_enter Tryd.func57, Tryd.ntmps57
      go_wp2_with fail
      go_quiet (fail)
      have HBQ := Lib.hid (below_drewN (Below.refl w.heap.size w) nq)
      go_wp2_with fail
      go_ret
      exact ⟨ret_bool HF.out.symm, HBQ.out⟩
  · have hT : t.toList.isEmpty = false := text_full hc
    have HF : Hid (formedF 8 t n b i y = false) := Lib.hid (by simp_all [formedF] <;> first | rfl | omega)
    go_enter Tryd.func57, Tryd.ntmps57
    go_wp2_with fail
    go_quiet (fail)
    have HBQ := Lib.hid (below_drewN (Below.refl w.heap.size w) nq)
    go_wp2_with fail
    go_ret
    exact ⟨ret_bool HF.out.symm, HBQ.out⟩

set_option maxHeartbeats 16000000 in
theorem formed_9 (t : ByteArray) (a : Option Addr) (n cap : Nat) (b : Bool) (i y : Int) (g off : Nat) (w : World) (hn : n ≤ 1099511627776) (h0 : w.cell? ⟨g, off, none⟩ = some (.int .i64 9)) (h1 : w.cell? ⟨g, off + 1, none⟩ = some (.string t)) (h2 : w.cell? ⟨g, off + 2, none⟩ = some (.slice a n cap))
    (h3 : w.cell? ⟨g, off + 3, none⟩ = some (.bool b)) (h4 : w.cell? ⟨g, off + 4, none⟩ = some (.int .i64 i)) (h5 : w.cell? ⟨g, off + 5, none⟩ = some (.int .i64 y)) :
    Calls Tryd.prog 57 #[.pointer (some ⟨g, off, none⟩)] w fun e w' => e = .returned (.bool (formedF 9 t n b i y)) ∧ Below w.heap.size w w' := by
  by_cases hc : t.size = 0
  · obtain rfl := text_none hc
    clear hc
    by_cases hc : n = 0
    · subst hc
      by_cases hc : i = 0
      · subst hc
        by_cases hc : y = 0
        · subst hc
          cases b
          ·
            have HF : Hid (formedF 9 ⟨#[]⟩ 0 false 0 0 = true) := Lib.hid (by simp_all [formedF] <;> first | rfl | omega)
            go_enter Tryd.func57, Tryd.ntmps57
            go_wp2_with fail
            go_quiet (fail)
            have HBQ := Lib.hid (below_drewN (Below.refl w.heap.size w) nq)
            go_wp2_with fail
            go_ret
            exact ⟨ret_bool HF.out.symm, HBQ.out⟩
          ·
            have HF : Hid (formedF 9 ⟨#[]⟩ 0 true 0 0 = false) := Lib.hid (by simp_all [formedF] <;> first | rfl | omega)
            go_enter Tryd.func57, Tryd.ntmps57
            go_wp2_with fail
            go_quiet (fail)
            have HBQ := Lib.hid (below_drewN (Below.refl w.heap.size w) nq)
            go_wp2_with fail
            go_ret
            exact ⟨ret_bool HF.out.symm, HBQ.out⟩
        · have hY : (y == 0) = false := by rw [beq_eq_false_iff_ne]; exact hc
          have HF : Hid (formedF 9 ⟨#[]⟩ 0 b 0 y = false) := Lib.hid (by simp_all [formedF] <;> first | rfl | omega)
          go_enter Tryd.func57, Tryd.ntmps57
          go_wp2_with fail
          go_quiet (fail)
          have HBQ := Lib.hid (below_drewN (Below.refl w.heap.size w) nq)
          go_wp2_with fail
          go_ret
          exact ⟨ret_bool HF.out.symm, HBQ.out⟩
      · have hI : (i == 0) = false := by rw [beq_eq_false_iff_ne]; exact hc
        have HF : Hid (formedF 9 ⟨#[]⟩ 0 b i y = false) := Lib.hid (by simp_all [formedF] <;> first | rfl | omega)
        go_enter Tryd.func57, Tryd.ntmps57
        go_wp2_with fail
        go_quiet (fail)
        have HBQ := Lib.hid (below_drewN (Below.refl w.heap.size w) nq)
        go_wp2_with fail
        go_ret
        exact ⟨ret_bool HF.out.symm, HBQ.out⟩
    · have hN : ((n : Int) == 0) = false := by rw [beq_eq_false_iff_ne]; omega
      by_cases hd : n % 2 = 1
      · have hM : (((n : Int) % 2) == 1) = true := by rw [beq_iff_eq]; omega
        by_cases hc : i = 0
        · subst hc
          by_cases hc : y = 0
          · subst hc
            cases b
            ·
              have HF : Hid (formedF 9 ⟨#[]⟩ n false 0 0 = true) := Lib.hid (by simp_all [formedF] <;> first | rfl | omega)
              go_enter Tryd.func57, Tryd.ntmps57
              go_wp2_with fail
              go_quiet (fail)
              have HBQ := Lib.hid (below_drewN (Below.refl w.heap.size w) nq)
              go_wp2_with fail
              go_ret
              exact ⟨ret_bool HF.out.symm, HBQ.out⟩
            ·
              have HF : Hid (formedF 9 ⟨#[]⟩ n true 0 0 = false) := Lib.hid (by simp_all [formedF] <;> first | rfl | omega)
              go_enter Tryd.func57, Tryd.ntmps57
              go_wp2_with fail
              go_quiet (fail)
              have HBQ := Lib.hid (below_drewN (Below.refl w.heap.size w) nq)
              go_wp2_with fail
              go_ret
              exact ⟨ret_bool HF.out.symm, HBQ.out⟩
          · have hY : (y == 0) = false := by rw [beq_eq_false_iff_ne]; exact hc
            have HF : Hid (formedF 9 ⟨#[]⟩ n b 0 y = false) := Lib.hid (by simp_all [formedF] <;> first | rfl | omega)
            go_enter Tryd.func57, Tryd.ntmps57
            go_wp2_with fail
            go_quiet (fail)
            have HBQ := Lib.hid (below_drewN (Below.refl w.heap.size w) nq)
            go_wp2_with fail
            go_ret
            exact ⟨ret_bool HF.out.symm, HBQ.out⟩
        · have hI : (i == 0) = false := by rw [beq_eq_false_iff_ne]; exact hc
          have HF : Hid (formedF 9 ⟨#[]⟩ n b i y = false) := Lib.hid (by simp_all [formedF] <;> first | rfl | omega)
          go_enter Tryd.func57, Tryd.ntmps57
          go_wp2_with fail
          go_quiet (fail)
          have HBQ := Lib.hid (below_drewN (Below.refl w.heap.size w) nq)
          go_wp2_with fail
          go_ret
          exact ⟨ret_bool HF.out.symm, HBQ.out⟩
      · have hM : (((n : Int) % 2) == 1) = false := by rw [beq_eq_false_iff_ne]; omega
        have HF : Hid (formedF 9 ⟨#[]⟩ n b i y = false) := Lib.hid (by simp_all [formedF] <;> first | rfl | omega)
        go_enter Tryd.func57, Tryd.ntmps57
        go_wp2_with fail
        go_quiet (fail)
        have HBQ := Lib.hid (below_drewN (Below.refl w.heap.size w) nq)
        go_wp2_with fail
        go_ret
        exact ⟨ret_bool HF.out.symm, HBQ.out⟩
  · have hT : t.toList.isEmpty = false := text_full hc
    have HF : Hid (formedF 9 t n b i y = false) := Lib.hid (by simp_all [formedF] <;> first | rfl | omega)
    go_enter Tryd.func57, Tryd.ntmps57
    go_wp2_with fail
    go_quiet (fail)
    have HBQ := Lib.hid (below_drewN (Below.refl w.heap.size w) nq)
    go_wp2_with fail
    go_ret
    exact ⟨ret_bool HF.out.symm, HBQ.out⟩

set_option maxHeartbeats 16000000 in
theorem formed_10 (t : ByteArray) (a : Option Addr) (n cap : Nat) (b : Bool) (i y : Int) (g off : Nat) (w : World) (hn : n ≤ 1099511627776) (h0 : w.cell? ⟨g, off, none⟩ = some (.int .i64 10)) (h1 : w.cell? ⟨g, off + 1, none⟩ = some (.string t)) (h2 : w.cell? ⟨g, off + 2, none⟩ = some (.slice a n cap))
    (h3 : w.cell? ⟨g, off + 3, none⟩ = some (.bool b)) (h4 : w.cell? ⟨g, off + 4, none⟩ = some (.int .i64 i)) (h5 : w.cell? ⟨g, off + 5, none⟩ = some (.int .i64 y)) :
    Calls Tryd.prog 57 #[.pointer (some ⟨g, off, none⟩)] w fun e w' => e = .returned (.bool (formedF 10 t n b i y)) ∧ Below w.heap.size w w' := by
  by_cases hc : t.size = 0
  · obtain rfl := text_none hc
    clear hc
    by_cases hc : n = 2
    · subst hc
      by_cases hc : 0 ≤ i
      · have hI : 0 ≤ i := hc
        by_cases hc : y = 0
        · subst hc
          cases b
          ·
            have HF : Hid (formedF 10 ⟨#[]⟩ 2 false i 0 = true) := Lib.hid (by simp_all [formedF] <;> first | rfl | omega)
            go_enter Tryd.func57, Tryd.ntmps57
            go_wp2_with fail
            go_quiet (fail)
            have HBQ := Lib.hid (below_drewN (Below.refl w.heap.size w) nq)
            go_wp2_with fail
            go_ret
            exact ⟨ret_bool HF.out.symm, HBQ.out⟩
          ·
            have HF : Hid (formedF 10 ⟨#[]⟩ 2 true i 0 = false) := Lib.hid (by simp_all [formedF] <;> first | rfl | omega)
            go_enter Tryd.func57, Tryd.ntmps57
            go_wp2_with fail
            go_quiet (fail)
            have HBQ := Lib.hid (below_drewN (Below.refl w.heap.size w) nq)
            go_wp2_with fail
            go_ret
            exact ⟨ret_bool HF.out.symm, HBQ.out⟩
        · have hY : (y == 0) = false := by rw [beq_eq_false_iff_ne]; exact hc
          have HF : Hid (formedF 10 ⟨#[]⟩ 2 b i y = false) := Lib.hid (by simp_all [formedF] <;> first | rfl | omega)
          go_enter Tryd.func57, Tryd.ntmps57
          go_wp2_with fail
          go_quiet (fail)
          have HBQ := Lib.hid (below_drewN (Below.refl w.heap.size w) nq)
          go_wp2_with fail
          go_ret
          exact ⟨ret_bool HF.out.symm, HBQ.out⟩
      · have hI : i < 0 := by omega
        have HF : Hid (formedF 10 ⟨#[]⟩ 2 b i y = false) := Lib.hid (by simp_all [formedF] <;> first | rfl | omega)
        go_enter Tryd.func57, Tryd.ntmps57
        go_wp2_with fail
        go_quiet (fail)
        have HBQ := Lib.hid (below_drewN (Below.refl w.heap.size w) nq)
        go_wp2_with fail
        go_ret
        exact ⟨ret_bool HF.out.symm, HBQ.out⟩
    · have hN : ((n : Int) == 2) = false := by rw [beq_eq_false_iff_ne]; omega
      have HF : Hid (formedF 10 ⟨#[]⟩ n b i y = false) := Lib.hid (by simp_all [formedF] <;> first | rfl | omega)
      go_enter Tryd.func57, Tryd.ntmps57
      go_wp2_with fail
      go_quiet (fail)
      have HBQ := Lib.hid (below_drewN (Below.refl w.heap.size w) nq)
      go_wp2_with fail
      go_ret
      exact ⟨ret_bool HF.out.symm, HBQ.out⟩
  · have hT : t.toList.isEmpty = false := text_full hc
    have HF : Hid (formedF 10 t n b i y = false) := Lib.hid (by simp_all [formedF] <;> first | rfl | omega)
    go_enter Tryd.func57, Tryd.ntmps57
    go_wp2_with fail
    go_quiet (fail)
    have HBQ := Lib.hid (below_drewN (Below.refl w.heap.size w) nq)
    go_wp2_with fail
    go_ret
    exact ⟨ret_bool HF.out.symm, HBQ.out⟩
end Go.Proofs.YthljgiimdcbfpaaDoor
