/- platenref15.alone, some kinds. -/
import Derived.Test.YtaojlnibkajfbaaDoorRefDocText
namespace Go.Proofs.YtaojlnibkajfbaaDoor
open Go.RowKit
set_option maxRecDepth 100000
set_option linter.unusedVariables false
set_option linter.unusedSimpArgs false

set_option maxHeartbeats 16000000 in
theorem alone_13 (t : ByteArray) (a : Option Addr) (n cap : Nat) (b : Bool) (i y : Int) (w : World) (hs : t.size ≤ 4194304) (hn : n ≤ 4194304) :
    Calls Tryd.prog 48 #[.agg #[.int .i64 (13), .string t, .slice a n cap, .bool b, .int .i64 i, .int .i64 y]] w fun e w' => e = .returned (.bool (formedF (13) t n b i y)) ∧ Below w.heap.size w w' := by
  by_cases ht : t.size = 0
  case neg =>
    have hT := text_full ht
    have hal := (Below.refl w.heap.size w).alloc (Nat.le_refl _) (.cells #[.int .i64 (13), .string t, .slice a n cap, .bool b, .int .i64 i, .int .i64 y] 24)
    go_enter Tryd.func48, Tryd.ntmps48
    go_wp2_with fail
    go_ret
    exact ⟨ret_bool (by simp [formedF, formedY, sz0, ht] <;> omega), hal⟩
  obtain rfl := text_none ht
  clear ht
  cases b
  case true =>
    have hal := (Below.refl w.heap.size w).alloc (Nat.le_refl _) (.cells #[.int .i64 (13), .string ⟨#[]⟩, .slice a n cap, .bool true, .int .i64 i, .int .i64 y] 24)
    go_enter Tryd.func48, Tryd.ntmps48
    go_wp2_with fail
    go_ret
    exact ⟨ret_bool (by simp [formedF, formedY, sz0] <;> omega), hal⟩
  case false =>
    rcases (by omega : y = 0 ∨ y < 0 ∨ (0 < y ∧ y ≤ 10000) ∨ 10000 < y) with rfl | hy | ⟨hy, hyb⟩ | hy
    · by_cases hi : i = 0
      case neg =>
        have hi1 : (i != 0) = true := by simpa using hi
        have hal := (Below.refl w.heap.size w).alloc (Nat.le_refl _) (.cells #[.int .i64 (13), .string ⟨#[]⟩, .slice a n cap, .bool false, .int .i64 i, .int .i64 0] 24)
        go_enter Tryd.func48, Tryd.ntmps48
        go_wp2_with fail
        go_ret
        exact ⟨ret_bool (by simp [formedF, formedY, sz0, hi] <;> omega), hal⟩
      subst hi
      by_cases hn0 : n = 1
      · have hn1 : ((n : Int) == 1) = true := by rw [beq_iff_eq]; omega
        have HN0 := Lib.hid hn0
        clear hn0
        have hal := (Below.refl w.heap.size w).alloc (Nat.le_refl _) (.cells #[.int .i64 (13), .string ⟨#[]⟩, .slice a n cap, .bool false, .int .i64 0, .int .i64 0] 24)
        go_enter Tryd.func48, Tryd.ntmps48
        go_wp2_with fail
        go_ret
        exact ⟨ret_bool (by simp [formedF, formedY, sz0, HN0.out] <;> omega), hal⟩
      · have hn1 : ((n : Int) == 1) = false := by rw [beq_eq_false_iff_ne]; omega
        have hal := (Below.refl w.heap.size w).alloc (Nat.le_refl _) (.cells #[.int .i64 (13), .string ⟨#[]⟩, .slice a n cap, .bool false, .int .i64 0, .int .i64 0] 24)
        go_enter Tryd.func48, Tryd.ntmps48
        go_wp2_with fail
        go_ret
        exact ⟨ret_bool (by simp [formedF, formedY, sz0, hn0] <;> omega), hal⟩
    · have hy1 : (y != 0) = true := by rw [bne_iff_ne]; omega
      have hyf : ¬ 0 ≤ y := by omega
      by_cases hi : i = 0
      case neg =>
        have hi1 : (i != 0) = true := by simpa using hi
        have hal := (Below.refl w.heap.size w).alloc (Nat.le_refl _) (.cells #[.int .i64 (13), .string ⟨#[]⟩, .slice a n cap, .bool false, .int .i64 i, .int .i64 y] 24)
        go_enter Tryd.func48, Tryd.ntmps48
        go_wp2_with fail
        go_ret
        exact ⟨ret_bool (by simp [formedF, formedY, sz0, hi, hyf, hy1] <;> omega), hal⟩
      subst hi
      by_cases hn0 : n = 1
      · have hn1 : ((n : Int) == 1) = true := by rw [beq_iff_eq]; omega
        have HN0 := Lib.hid hn0
        clear hn0
        have hal := (Below.refl w.heap.size w).alloc (Nat.le_refl _) (.cells #[.int .i64 (13), .string ⟨#[]⟩, .slice a n cap, .bool false, .int .i64 0, .int .i64 y] 24)
        go_enter Tryd.func48, Tryd.ntmps48
        go_wp2_with fail
        go_ret
        exact ⟨ret_bool (by simp [formedF, formedY, sz0, hyf, hy1, HN0.out] <;> omega), hal⟩
      · have hn1 : ((n : Int) == 1) = false := by rw [beq_eq_false_iff_ne]; omega
        have hal := (Below.refl w.heap.size w).alloc (Nat.le_refl _) (.cells #[.int .i64 (13), .string ⟨#[]⟩, .slice a n cap, .bool false, .int .i64 0, .int .i64 y] 24)
        go_enter Tryd.func48, Tryd.ntmps48
        go_wp2_with fail
        go_ret
        exact ⟨ret_bool (by simp [formedF, formedY, sz0, hyf, hy1, hn0] <;> omega), hal⟩
    · have hy1 : (y != 0) = true := by rw [bne_iff_ne]; omega
      have hyf : 0 ≤ y := by omega
      by_cases hi : i = 0
      case neg =>
        have hi1 : (i != 0) = true := by simpa using hi
        have hal := (Below.refl w.heap.size w).alloc (Nat.le_refl _) (.cells #[.int .i64 (13), .string ⟨#[]⟩, .slice a n cap, .bool false, .int .i64 i, .int .i64 y] 24)
        go_enter Tryd.func48, Tryd.ntmps48
        go_wp2_with fail
        go_ret
        exact ⟨ret_bool (by simp [formedF, formedY, sz0, hi, hyf, hy1, hyb] <;> omega), hal⟩
      subst hi
      by_cases hn0 : n = 1
      · have hn1 : ((n : Int) == 1) = true := by rw [beq_iff_eq]; omega
        have HN0 := Lib.hid hn0
        clear hn0
        have hal := (Below.refl w.heap.size w).alloc (Nat.le_refl _) (.cells #[.int .i64 (13), .string ⟨#[]⟩, .slice a n cap, .bool false, .int .i64 0, .int .i64 y] 24)
        go_enter Tryd.func48, Tryd.ntmps48
        go_wp2_with fail
        go_ret
        exact ⟨ret_bool (by simp [formedF, formedY, sz0, hyf, hy1, hyb, HN0.out] <;> omega), hal⟩
      · have hn1 : ((n : Int) == 1) = false := by rw [beq_eq_false_iff_ne]; omega
        have hal := (Below.refl w.heap.size w).alloc (Nat.le_refl _) (.cells #[.int .i64 (13), .string ⟨#[]⟩, .slice a n cap, .bool false, .int .i64 0, .int .i64 y] 24)
        go_enter Tryd.func48, Tryd.ntmps48
        go_wp2_with fail
        go_ret
        exact ⟨ret_bool (by simp [formedF, formedY, sz0, hyf, hy1, hyb, hn0] <;> omega), hal⟩
    · have hy1 : (y != 0) = true := by rw [bne_iff_ne]; omega
      have hyf : ¬ y ≤ 10000 := by omega
      by_cases hi : i = 0
      case neg =>
        have hi1 : (i != 0) = true := by simpa using hi
        have hal := (Below.refl w.heap.size w).alloc (Nat.le_refl _) (.cells #[.int .i64 (13), .string ⟨#[]⟩, .slice a n cap, .bool false, .int .i64 i, .int .i64 y] 24)
        go_enter Tryd.func48, Tryd.ntmps48
        go_wp2_with fail
        go_ret
        exact ⟨ret_bool (by simp [formedF, formedY, sz0, hi, hyf, hy1] <;> omega), hal⟩
      subst hi
      by_cases hn0 : n = 1
      · have hn1 : ((n : Int) == 1) = true := by rw [beq_iff_eq]; omega
        have HN0 := Lib.hid hn0
        clear hn0
        have hal := (Below.refl w.heap.size w).alloc (Nat.le_refl _) (.cells #[.int .i64 (13), .string ⟨#[]⟩, .slice a n cap, .bool false, .int .i64 0, .int .i64 y] 24)
        go_enter Tryd.func48, Tryd.ntmps48
        go_wp2_with fail
        go_ret
        exact ⟨ret_bool (by simp [formedF, formedY, sz0, hyf, hy1, HN0.out] <;> omega), hal⟩
      · have hn1 : ((n : Int) == 1) = false := by rw [beq_eq_false_iff_ne]; omega
        have hal := (Below.refl w.heap.size w).alloc (Nat.le_refl _) (.cells #[.int .i64 (13), .string ⟨#[]⟩, .slice a n cap, .bool false, .int .i64 0, .int .i64 y] 24)
        go_enter Tryd.func48, Tryd.ntmps48
        go_wp2_with fail
        go_ret
        exact ⟨ret_bool (by simp [formedF, formedY, sz0, hyf, hy1, hn0] <;> omega), hal⟩

set_option maxHeartbeats 16000000 in
theorem alone_10 (t : ByteArray) (a : Option Addr) (n cap : Nat) (b : Bool) (i y : Int) (w : World) (hs : t.size ≤ 4194304) (hn : n ≤ 4194304) :
    Calls Tryd.prog 48 #[.agg #[.int .i64 (10), .string t, .slice a n cap, .bool b, .int .i64 i, .int .i64 y]] w fun e w' => e = .returned (.bool (formedF (10) t n b i y)) ∧ Below w.heap.size w w' := by
  by_cases ht : t.size = 0
  case neg =>
    have hT := text_full ht
    have hal := (Below.refl w.heap.size w).alloc (Nat.le_refl _) (.cells #[.int .i64 (10), .string t, .slice a n cap, .bool b, .int .i64 i, .int .i64 y] 24)
    go_enter Tryd.func48, Tryd.ntmps48
    go_wp2_with fail
    go_ret
    exact ⟨ret_bool (by simp [formedF, formedY, sz0, ht] <;> omega), hal⟩
  obtain rfl := text_none ht
  clear ht
  cases b
  case true =>
    have hal := (Below.refl w.heap.size w).alloc (Nat.le_refl _) (.cells #[.int .i64 (10), .string ⟨#[]⟩, .slice a n cap, .bool true, .int .i64 i, .int .i64 y] 24)
    go_enter Tryd.func48, Tryd.ntmps48
    go_wp2_with fail
    go_ret
    exact ⟨ret_bool (by simp [formedF, formedY, sz0] <;> omega), hal⟩
  case false =>
    by_cases hy : y = 0
    case neg =>
      have hy1 : (y != 0) = true := by simpa using hy
      have hy2 : (y == 0) = false := by simpa using hy
      have hal := (Below.refl w.heap.size w).alloc (Nat.le_refl _) (.cells #[.int .i64 (10), .string ⟨#[]⟩, .slice a n cap, .bool false, .int .i64 i, .int .i64 y] 24)
      go_enter Tryd.func48, Tryd.ntmps48
      go_wp2_with fail
      go_ret
      exact ⟨ret_bool (by simp [formedF, formedY, sz0, hy] <;> omega), hal⟩
    subst hy
    rcases (by omega : i = 0 ∨ i < 0 ∨ 0 < i) with rfl | hi | hi
    · skip
      have hn1 : ((n : Int) == 2) = (n == 2) := by rw [Bool.eq_iff_iff, beq_iff_eq, beq_iff_eq]; omega
      have hal := (Below.refl w.heap.size w).alloc (Nat.le_refl _) (.cells #[.int .i64 (10), .string ⟨#[]⟩, .slice a n cap, .bool false, .int .i64 0, .int .i64 0] 24)
      go_enter Tryd.func48, Tryd.ntmps48
      go_wp2_with fail
      go_ret
      exact ⟨ret_bool (by simp [formedF, formedY, sz0, hn1] <;> omega), hal⟩
    · have hi1 : (i != 0) = true := by rw [bne_iff_ne]; omega
      have hif : ¬ (0 ≤ i) ∧ ¬ (1 ≤ i) := by omega
      obtain ⟨hif, hif2⟩ := hif
      have hn1 : ((n : Int) == 2) = (n == 2) := by rw [Bool.eq_iff_iff, beq_iff_eq, beq_iff_eq]; omega
      have hal := (Below.refl w.heap.size w).alloc (Nat.le_refl _) (.cells #[.int .i64 (10), .string ⟨#[]⟩, .slice a n cap, .bool false, .int .i64 i, .int .i64 0] 24)
      go_enter Tryd.func48, Tryd.ntmps48
      go_wp2_with fail
      go_ret
      exact ⟨ret_bool (by simp [formedF, formedY, sz0, hi, hif, hif2, hn1] <;> omega), hal⟩
    · have hi1 : (i != 0) = true := by rw [bne_iff_ne]; omega
      have hif : (0 ≤ i) ∧ (1 ≤ i) := by omega
      obtain ⟨hif, hif2⟩ := hif
      have hn1 : ((n : Int) == 2) = (n == 2) := by rw [Bool.eq_iff_iff, beq_iff_eq, beq_iff_eq]; omega
      have hal := (Below.refl w.heap.size w).alloc (Nat.le_refl _) (.cells #[.int .i64 (10), .string ⟨#[]⟩, .slice a n cap, .bool false, .int .i64 i, .int .i64 0] 24)
      go_enter Tryd.func48, Tryd.ntmps48
      go_wp2_with fail
      go_ret
      exact ⟨ret_bool (by simp [formedF, formedY, sz0, hi, hif, hif2, hn1] <;> omega), hal⟩

set_option maxHeartbeats 16000000 in
theorem alone_12 (t : ByteArray) (a : Option Addr) (n cap : Nat) (b : Bool) (i y : Int) (w : World) (hs : t.size ≤ 4194304) (hn : n ≤ 4194304) :
    Calls Tryd.prog 48 #[.agg #[.int .i64 (12), .string t, .slice a n cap, .bool b, .int .i64 i, .int .i64 y]] w fun e w' => e = .returned (.bool (formedF (12) t n b i y)) ∧ Below w.heap.size w w' := by
  by_cases ht : t.size = 0
  case neg =>
    have hT := text_full ht
    have hal := (Below.refl w.heap.size w).alloc (Nat.le_refl _) (.cells #[.int .i64 (12), .string t, .slice a n cap, .bool b, .int .i64 i, .int .i64 y] 24)
    go_enter Tryd.func48, Tryd.ntmps48
    go_wp2_with fail
    go_ret
    exact ⟨ret_bool (by simp [formedF, formedY, sz0, ht] <;> omega), hal⟩
  obtain rfl := text_none ht
  clear ht
  cases b
  case true =>
    have hal := (Below.refl w.heap.size w).alloc (Nat.le_refl _) (.cells #[.int .i64 (12), .string ⟨#[]⟩, .slice a n cap, .bool true, .int .i64 i, .int .i64 y] 24)
    go_enter Tryd.func48, Tryd.ntmps48
    go_wp2_with fail
    go_ret
    exact ⟨ret_bool (by simp [formedF, formedY, sz0] <;> omega), hal⟩
  case false =>
    by_cases hy : y = 0
    case neg =>
      have hy1 : (y != 0) = true := by simpa using hy
      have hy2 : (y == 0) = false := by simpa using hy
      have hal := (Below.refl w.heap.size w).alloc (Nat.le_refl _) (.cells #[.int .i64 (12), .string ⟨#[]⟩, .slice a n cap, .bool false, .int .i64 i, .int .i64 y] 24)
      go_enter Tryd.func48, Tryd.ntmps48
      go_wp2_with fail
      go_ret
      exact ⟨ret_bool (by simp [formedF, formedY, sz0, hy] <;> omega), hal⟩
    subst hy
    rcases (by omega : i = 0 ∨ i < 0 ∨ 0 < i) with rfl | hi | hi
    · skip
      by_cases hn0 : n = 1
      · have hn1 : ((n : Int) == 1) = true := by rw [beq_iff_eq]; omega
        have HN0 := Lib.hid hn0
        clear hn0
        have hal := (Below.refl w.heap.size w).alloc (Nat.le_refl _) (.cells #[.int .i64 (12), .string ⟨#[]⟩, .slice a n cap, .bool false, .int .i64 0, .int .i64 0] 24)
        go_enter Tryd.func48, Tryd.ntmps48
        go_wp2_with fail
        go_ret
        exact ⟨ret_bool (by simp [formedF, formedY, sz0, HN0.out] <;> omega), hal⟩
      · have hn1 : ((n : Int) == 1) = false := by rw [beq_eq_false_iff_ne]; omega
        have hal := (Below.refl w.heap.size w).alloc (Nat.le_refl _) (.cells #[.int .i64 (12), .string ⟨#[]⟩, .slice a n cap, .bool false, .int .i64 0, .int .i64 0] 24)
        go_enter Tryd.func48, Tryd.ntmps48
        go_wp2_with fail
        go_ret
        exact ⟨ret_bool (by simp [formedF, formedY, sz0, hn0] <;> omega), hal⟩
    · have hi1 : (i != 0) = true := by rw [bne_iff_ne]; omega
      have hif : ¬ (0 ≤ i) ∧ ¬ (1 ≤ i) := by omega
      obtain ⟨hif, hif2⟩ := hif
      by_cases hn0 : n = 1
      · have hn1 : ((n : Int) == 1) = true := by rw [beq_iff_eq]; omega
        have HN0 := Lib.hid hn0
        clear hn0
        have hal := (Below.refl w.heap.size w).alloc (Nat.le_refl _) (.cells #[.int .i64 (12), .string ⟨#[]⟩, .slice a n cap, .bool false, .int .i64 i, .int .i64 0] 24)
        go_enter Tryd.func48, Tryd.ntmps48
        go_wp2_with fail
        go_ret
        exact ⟨ret_bool (by simp [formedF, formedY, sz0, hi, hif, hif2, HN0.out] <;> omega), hal⟩
      · have hn1 : ((n : Int) == 1) = false := by rw [beq_eq_false_iff_ne]; omega
        have hal := (Below.refl w.heap.size w).alloc (Nat.le_refl _) (.cells #[.int .i64 (12), .string ⟨#[]⟩, .slice a n cap, .bool false, .int .i64 i, .int .i64 0] 24)
        go_enter Tryd.func48, Tryd.ntmps48
        go_wp2_with fail
        go_ret
        exact ⟨ret_bool (by simp [formedF, formedY, sz0, hi, hif, hif2, hn0] <;> omega), hal⟩
    · have hi1 : (i != 0) = true := by rw [bne_iff_ne]; omega
      have hif : (0 ≤ i) ∧ (1 ≤ i) := by omega
      obtain ⟨hif, hif2⟩ := hif
      by_cases hn0 : n = 1
      · have hn1 : ((n : Int) == 1) = true := by rw [beq_iff_eq]; omega
        have HN0 := Lib.hid hn0
        clear hn0
        have hal := (Below.refl w.heap.size w).alloc (Nat.le_refl _) (.cells #[.int .i64 (12), .string ⟨#[]⟩, .slice a n cap, .bool false, .int .i64 i, .int .i64 0] 24)
        go_enter Tryd.func48, Tryd.ntmps48
        go_wp2_with fail
        go_ret
        exact ⟨ret_bool (by simp [formedF, formedY, sz0, hi, hif, hif2, HN0.out] <;> omega), hal⟩
      · have hn1 : ((n : Int) == 1) = false := by rw [beq_eq_false_iff_ne]; omega
        have hal := (Below.refl w.heap.size w).alloc (Nat.le_refl _) (.cells #[.int .i64 (12), .string ⟨#[]⟩, .slice a n cap, .bool false, .int .i64 i, .int .i64 0] 24)
        go_enter Tryd.func48, Tryd.ntmps48
        go_wp2_with fail
        go_ret
        exact ⟨ret_bool (by simp [formedF, formedY, sz0, hi, hif, hif2, hn0] <;> omega), hal⟩

set_option maxHeartbeats 16000000 in
theorem alone_else (k : Int) (hk : k ≤ 0 ∨ 17 ≤ k) (t : ByteArray) (a : Option Addr) (n cap : Nat) (b : Bool) (i y : Int) (w : World) (hs : t.size ≤ 4194304) (hn : n ≤ 4194304) :
    Calls Tryd.prog 48 #[.agg #[.int .i64 k, .string t, .slice a n cap, .bool b, .int .i64 i, .int .i64 y]] w fun e w' => e = .returned (.bool (formedF k t n b i y)) ∧ Below w.heap.size w w' := by
  have hkf : (k == 1) = false ∧ (k == 2) = false ∧ (k == 3) = false ∧ (k == 4) = false ∧ (k == 5) = false ∧ (k == 6) = false ∧ (k == 7) = false ∧ (k == 8) = false ∧ (k == 9) = false ∧ (k == 10) = false ∧ (k == 11) = false ∧ (k == 12) = false ∧ (k == 13) = false ∧ (k == 14) = false ∧ (k == 15) = false ∧ (k == 16) = false := by simp only [beq_eq_false_iff_ne, ne_eq]; omega
  have hkg : (k != 1) = true ∧ (k != 7) = true ∧ (k != 8) = true ∧ (k != 13) = true ∧ (k != 10) = true ∧ (k != 12) = true := by simp only [bne_iff_ne, ne_eq]; omega
  obtain ⟨e1, e2, e3, e4, e5, e6, e7, e8, e9, e10, e11, e12, e13, e14, e15, e16⟩ := hkf
  obtain ⟨f1, f7, f8, f13, f10, f12⟩ := hkg
  have hk0 : ¬ k = 1 ∧ ¬ k = 2 ∧ ¬ k = 3 ∧ ¬ k = 4 ∧ ¬ k = 5 ∧ ¬ k = 6 ∧ ¬ k = 7 ∧ ¬ k = 8 ∧ ¬ k = 9 ∧ ¬ k = 10 ∧ ¬ k = 11 ∧ ¬ k = 12 ∧ ¬ k = 13 ∧ ¬ k = 14 ∧ ¬ k = 15 ∧ ¬ k = 16 := by omega
  clear hk
  by_cases ht : t.size = 0
  case neg =>
    have hT := text_full ht
    have hal := (Below.refl w.heap.size w).alloc (Nat.le_refl _) (.cells #[.int .i64 k, .string t, .slice a n cap, .bool b, .int .i64 i, .int .i64 y] 24)
    go_enter Tryd.func48, Tryd.ntmps48
    go_wp2_with fail
    go_ret
    exact ⟨ret_bool (by simp [formedF, formedY, sz0, ht, hk0] <;> omega), hal⟩
  obtain rfl := text_none ht
  clear ht
  cases b
  case true =>
    have hal := (Below.refl w.heap.size w).alloc (Nat.le_refl _) (.cells #[.int .i64 k, .string ⟨#[]⟩, .slice a n cap, .bool true, .int .i64 i, .int .i64 y] 24)
    go_enter Tryd.func48, Tryd.ntmps48
    go_wp2_with fail
    go_ret
    exact ⟨ret_bool (by simp [formedF, formedY, sz0, hk0] <;> omega), hal⟩
  case false =>
    by_cases hy : y = 0
    case neg =>
      have hy1 : (y != 0) = true := by simpa using hy
      have hy2 : (y == 0) = false := by simpa using hy
      have hal := (Below.refl w.heap.size w).alloc (Nat.le_refl _) (.cells #[.int .i64 k, .string ⟨#[]⟩, .slice a n cap, .bool false, .int .i64 i, .int .i64 y] 24)
      go_enter Tryd.func48, Tryd.ntmps48
      go_wp2_with fail
      go_ret
      exact ⟨ret_bool (by simp [formedF, formedY, sz0, hy, hk0] <;> omega), hal⟩
    subst hy
    by_cases hi : i = 0
    case neg =>
      have hi1 : (i != 0) = true := by simpa using hi
      have hal := (Below.refl w.heap.size w).alloc (Nat.le_refl _) (.cells #[.int .i64 k, .string ⟨#[]⟩, .slice a n cap, .bool false, .int .i64 i, .int .i64 0] 24)
      go_enter Tryd.func48, Tryd.ntmps48
      go_wp2_with fail
      go_ret
      exact ⟨ret_bool (by simp [formedF, formedY, sz0, hi, hk0] <;> omega), hal⟩
    subst hi
    have hal := (Below.refl w.heap.size w).alloc (Nat.le_refl _) (.cells #[.int .i64 k, .string ⟨#[]⟩, .slice a n cap, .bool false, .int .i64 0, .int .i64 0] 24)
    go_enter Tryd.func48, Tryd.ntmps48
    go_wp2_with fail
    go_ret
    exact ⟨ret_bool (by simp [formedF, formedY, sz0, hk0] <;> omega), hal⟩

end Go.Proofs.YtaojlnibkajfbaaDoor
