/- platenref15.alone, some kinds. -/
import Derived.Test.YtaojlnibkajfbaaDoorRefDocText
namespace Go.Proofs.YtaojlnibkajfbaaDoor
open Go.RowKit
set_option maxRecDepth 100000
set_option linter.unusedVariables false
set_option linter.unusedSimpArgs false

set_option maxHeartbeats 16000000 in
theorem alone_1 (t : ByteArray) (a : Option Addr) (n cap : Nat) (b : Bool) (i y : Int) (w : World) (hs : t.size ≤ 4194304) (hn : n ≤ 4194304) :
    Calls Tryd.prog 48 #[.agg #[.int .i64 (1), .string t, .slice a n cap, .bool b, .int .i64 i, .int .i64 y]] w fun e w' => e = .returned (.bool (formedF (1) t n b i y)) ∧ Below w.heap.size w w' := by
  cases b
  case true =>
    have hal := (Below.refl w.heap.size w).alloc (Nat.le_refl _) (.cells #[.int .i64 (1), .string t, .slice a n cap, .bool true, .int .i64 i, .int .i64 y] 24)
    go_enter Tryd.func48, Tryd.ntmps48
    go_wp2_with (go_at_call 53; refine (refText_any _ _ (by omega)).mono ?_; rintro e w1 ⟨rfl, hb1⟩)
    go_ret
    first | exact ⟨ret_bool (by simp [formedF, sz0]), hal⟩ | exact ⟨ret_bool (by simp [formedF, sz0]), hal.call hb1⟩
  case false =>
    by_cases hy : y = 0
    case neg =>
      have hy1 : (y != 0) = true := by simpa using hy
      have hy2 : (y == 0) = false := by simpa using hy
      have hal := (Below.refl w.heap.size w).alloc (Nat.le_refl _) (.cells #[.int .i64 (1), .string t, .slice a n cap, .bool false, .int .i64 i, .int .i64 y] 24)
      go_enter Tryd.func48, Tryd.ntmps48
      go_wp2_with (go_at_call 53; refine (refText_any _ _ (by omega)).mono ?_; rintro e w1 ⟨rfl, hb1⟩)
      go_ret
      first | exact ⟨ret_bool (by simp [formedF, sz0, hy]), hal⟩ | exact ⟨ret_bool (by simp [formedF, sz0, hy]), hal.call hb1⟩
    subst hy
    by_cases hi : i = 0
    case neg =>
      have hi1 : (i != 0) = true := by simpa using hi
      have hal := (Below.refl w.heap.size w).alloc (Nat.le_refl _) (.cells #[.int .i64 (1), .string t, .slice a n cap, .bool false, .int .i64 i, .int .i64 0] 24)
      go_enter Tryd.func48, Tryd.ntmps48
      go_wp2_with (go_at_call 53; refine (refText_any _ _ (by omega)).mono ?_; rintro e w1 ⟨rfl, hb1⟩)
      go_ret
      first | exact ⟨ret_bool (by simp [formedF, sz0, hi]), hal⟩ | exact ⟨ret_bool (by simp [formedF, sz0, hi]), hal.call hb1⟩
    subst hi
    by_cases hn0 : n = 0
    · have hn1 : ((n : Int) == 0) = true := by rw [beq_iff_eq]; omega
      have HN0 := Lib.hid hn0
      clear hn0
      have hal := (Below.refl w.heap.size w).alloc (Nat.le_refl _) (.cells #[.int .i64 (1), .string t, .slice a n cap, .bool false, .int .i64 0, .int .i64 0] 24)
      go_enter Tryd.func48, Tryd.ntmps48
      go_wp2_with (go_at_call 53; refine (refText_any _ _ (by omega)).mono ?_; rintro e w1 ⟨rfl, hb1⟩)
      go_ret
      first | exact ⟨ret_bool (by simp [formedF, sz0, HN0.out]), hal⟩ | exact ⟨ret_bool (by simp [formedF, sz0, HN0.out]), hal.call hb1⟩
    · have hn1 : ((n : Int) == 0) = false := by rw [beq_eq_false_iff_ne]; omega
      have hal := (Below.refl w.heap.size w).alloc (Nat.le_refl _) (.cells #[.int .i64 (1), .string t, .slice a n cap, .bool false, .int .i64 0, .int .i64 0] 24)
      go_enter Tryd.func48, Tryd.ntmps48
      go_wp2_with (go_at_call 53; refine (refText_any _ _ (by omega)).mono ?_; rintro e w1 ⟨rfl, hb1⟩)
      go_ret
      first | exact ⟨ret_bool (by simp [formedF, sz0, hn0]), hal⟩ | exact ⟨ret_bool (by simp [formedF, sz0, hn0]), hal.call hb1⟩

set_option maxHeartbeats 16000000 in
theorem alone_7 (t : ByteArray) (a : Option Addr) (n cap : Nat) (b : Bool) (i y : Int) (w : World) (hs : t.size ≤ 4194304) (hn : n ≤ 4194304) :
    Calls Tryd.prog 48 #[.agg #[.int .i64 (7), .string t, .slice a n cap, .bool b, .int .i64 i, .int .i64 y]] w fun e w' => e = .returned (.bool (formedF (7) t n b i y)) ∧ Below w.heap.size w w' := by
  by_cases ht : t.size = 0
  case neg =>
    have hT := text_full ht
    have hal := (Below.refl w.heap.size w).alloc (Nat.le_refl _) (.cells #[.int .i64 (7), .string t, .slice a n cap, .bool b, .int .i64 i, .int .i64 y] 24)
    go_enter Tryd.func48, Tryd.ntmps48
    go_wp2_with fail
    go_ret
    exact ⟨ret_bool (by simp [formedF, formedY, sz0, ht]), hal⟩
  obtain rfl := text_none ht
  clear ht
  cases b
  case true =>
    by_cases hy : y = 0
    case neg =>
      have hy1 : (y != 0) = true := by simpa using hy
      have hy2 : (y == 0) = false := by simpa using hy
      have hal := (Below.refl w.heap.size w).alloc (Nat.le_refl _) (.cells #[.int .i64 (7), .string ⟨#[]⟩, .slice a n cap, .bool true, .int .i64 i, .int .i64 y] 24)
      go_enter Tryd.func48, Tryd.ntmps48
      go_wp2_with fail
      go_ret
      exact ⟨ret_bool (by simp [formedF, formedY, sz0, hy]), hal⟩
    subst hy
    rcases (by omega : i = 0 ∨ i < 0 ∨ 0 < i) with rfl | hi | hi
    · skip
      have hn1 : ((n : Int) == 1) = (n == 1) := by rw [Bool.eq_iff_iff, beq_iff_eq, beq_iff_eq]; omega
      have hal := (Below.refl w.heap.size w).alloc (Nat.le_refl _) (.cells #[.int .i64 (7), .string ⟨#[]⟩, .slice a n cap, .bool true, .int .i64 0, .int .i64 0] 24)
      go_enter Tryd.func48, Tryd.ntmps48
      go_wp2_with fail
      go_ret
      exact ⟨ret_bool (by simp [formedF, formedY, sz0, hn1]), hal⟩
    · have hi1 : (i != 0) = true := by rw [bne_iff_ne]; omega
      have hif : ¬ (0 ≤ i) ∧ ¬ (1 ≤ i) := by omega
      obtain ⟨hif, hif2⟩ := hif
      have hn1 : ((n : Int) == 1) = (n == 1) := by rw [Bool.eq_iff_iff, beq_iff_eq, beq_iff_eq]; omega
      have hal := (Below.refl w.heap.size w).alloc (Nat.le_refl _) (.cells #[.int .i64 (7), .string ⟨#[]⟩, .slice a n cap, .bool true, .int .i64 i, .int .i64 0] 24)
      go_enter Tryd.func48, Tryd.ntmps48
      go_wp2_with fail
      go_ret
      exact ⟨ret_bool (by simp [formedF, formedY, sz0, hi, hif, hif2, hn1]), hal⟩
    · have hi1 : (i != 0) = true := by rw [bne_iff_ne]; omega
      have hif : (0 ≤ i) ∧ (1 ≤ i) := by omega
      obtain ⟨hif, hif2⟩ := hif
      have hn1 : ((n : Int) == 1) = (n == 1) := by rw [Bool.eq_iff_iff, beq_iff_eq, beq_iff_eq]; omega
      have hal := (Below.refl w.heap.size w).alloc (Nat.le_refl _) (.cells #[.int .i64 (7), .string ⟨#[]⟩, .slice a n cap, .bool true, .int .i64 i, .int .i64 0] 24)
      go_enter Tryd.func48, Tryd.ntmps48
      go_wp2_with fail
      go_ret
      exact ⟨ret_bool (by simp [formedF, formedY, sz0, hi, hif, hif2, hn1]), hal⟩
  case false =>
    by_cases hy : y = 0
    case neg =>
      have hy1 : (y != 0) = true := by simpa using hy
      have hy2 : (y == 0) = false := by simpa using hy
      have hal := (Below.refl w.heap.size w).alloc (Nat.le_refl _) (.cells #[.int .i64 (7), .string ⟨#[]⟩, .slice a n cap, .bool false, .int .i64 i, .int .i64 y] 24)
      go_enter Tryd.func48, Tryd.ntmps48
      go_wp2_with fail
      go_ret
      exact ⟨ret_bool (by simp [formedF, formedY, sz0, hy]), hal⟩
    subst hy
    rcases (by omega : i = 0 ∨ i < 0 ∨ 0 < i) with rfl | hi | hi
    · skip
      have hn1 : ((n : Int) == 1) = (n == 1) := by rw [Bool.eq_iff_iff, beq_iff_eq, beq_iff_eq]; omega
      have hal := (Below.refl w.heap.size w).alloc (Nat.le_refl _) (.cells #[.int .i64 (7), .string ⟨#[]⟩, .slice a n cap, .bool false, .int .i64 0, .int .i64 0] 24)
      go_enter Tryd.func48, Tryd.ntmps48
      go_wp2_with fail
      go_ret
      exact ⟨ret_bool (by simp [formedF, formedY, sz0, hn1]), hal⟩
    · have hi1 : (i != 0) = true := by rw [bne_iff_ne]; omega
      have hif : ¬ (0 ≤ i) ∧ ¬ (1 ≤ i) := by omega
      obtain ⟨hif, hif2⟩ := hif
      have hn1 : ((n : Int) == 1) = (n == 1) := by rw [Bool.eq_iff_iff, beq_iff_eq, beq_iff_eq]; omega
      have hal := (Below.refl w.heap.size w).alloc (Nat.le_refl _) (.cells #[.int .i64 (7), .string ⟨#[]⟩, .slice a n cap, .bool false, .int .i64 i, .int .i64 0] 24)
      go_enter Tryd.func48, Tryd.ntmps48
      go_wp2_with fail
      go_ret
      exact ⟨ret_bool (by simp [formedF, formedY, sz0, hi, hif, hif2, hn1]), hal⟩
    · have hi1 : (i != 0) = true := by rw [bne_iff_ne]; omega
      have hif : (0 ≤ i) ∧ (1 ≤ i) := by omega
      obtain ⟨hif, hif2⟩ := hif
      have hn1 : ((n : Int) == 1) = (n == 1) := by rw [Bool.eq_iff_iff, beq_iff_eq, beq_iff_eq]; omega
      have hal := (Below.refl w.heap.size w).alloc (Nat.le_refl _) (.cells #[.int .i64 (7), .string ⟨#[]⟩, .slice a n cap, .bool false, .int .i64 i, .int .i64 0] 24)
      go_enter Tryd.func48, Tryd.ntmps48
      go_wp2_with fail
      go_ret
      exact ⟨ret_bool (by simp [formedF, formedY, sz0, hi, hif, hif2, hn1]), hal⟩

set_option maxHeartbeats 16000000 in
theorem alone_8 (t : ByteArray) (a : Option Addr) (n cap : Nat) (b : Bool) (i y : Int) (w : World) (hs : t.size ≤ 4194304) (hn : n ≤ 4194304) :
    Calls Tryd.prog 48 #[.agg #[.int .i64 (8), .string t, .slice a n cap, .bool b, .int .i64 i, .int .i64 y]] w fun e w' => e = .returned (.bool (formedF (8) t n b i y)) ∧ Below w.heap.size w w' := by
  by_cases ht : t.size = 0
  case neg =>
    have hT := text_full ht
    have hal := (Below.refl w.heap.size w).alloc (Nat.le_refl _) (.cells #[.int .i64 (8), .string t, .slice a n cap, .bool b, .int .i64 i, .int .i64 y] 24)
    go_enter Tryd.func48, Tryd.ntmps48
    go_wp2_with fail
    go_ret
    exact ⟨ret_bool (by simp [formedF, formedY, sz0, ht]), hal⟩
  obtain rfl := text_none ht
  clear ht
  cases b
  case true =>
    by_cases hy : y = 0
    case neg =>
      have hy1 : (y != 0) = true := by simpa using hy
      have hy2 : (y == 0) = false := by simpa using hy
      have hal := (Below.refl w.heap.size w).alloc (Nat.le_refl _) (.cells #[.int .i64 (8), .string ⟨#[]⟩, .slice a n cap, .bool true, .int .i64 i, .int .i64 y] 24)
      go_enter Tryd.func48, Tryd.ntmps48
      go_wp2_with fail
      go_ret
      exact ⟨ret_bool (by simp [formedF, formedY, sz0, hy]), hal⟩
    subst hy
    by_cases hi : i = 0
    case neg =>
      have hi1 : (i != 0) = true := by simpa using hi
      have hal := (Below.refl w.heap.size w).alloc (Nat.le_refl _) (.cells #[.int .i64 (8), .string ⟨#[]⟩, .slice a n cap, .bool true, .int .i64 i, .int .i64 0] 24)
      go_enter Tryd.func48, Tryd.ntmps48
      go_wp2_with fail
      go_ret
      exact ⟨ret_bool (by simp [formedF, formedY, sz0, hi]), hal⟩
    subst hi
    have hn1 : decide ((0 : Int) < (n : Int)) = decide (1 ≤ n) := by rw [decide_eq_decide]; omega
    have hn2 : decide (0 < n) = decide (1 ≤ n) := by rw [decide_eq_decide]; omega
    have hal := (Below.refl w.heap.size w).alloc (Nat.le_refl _) (.cells #[.int .i64 (8), .string ⟨#[]⟩, .slice a n cap, .bool true, .int .i64 0, .int .i64 0] 24)
    go_enter Tryd.func48, Tryd.ntmps48
    go_wp2_with fail
    go_ret
    exact ⟨ret_bool (by simp [formedF, formedY, sz0]), hal⟩
  case false =>
    by_cases hy : y = 0
    case neg =>
      have hy1 : (y != 0) = true := by simpa using hy
      have hy2 : (y == 0) = false := by simpa using hy
      have hal := (Below.refl w.heap.size w).alloc (Nat.le_refl _) (.cells #[.int .i64 (8), .string ⟨#[]⟩, .slice a n cap, .bool false, .int .i64 i, .int .i64 y] 24)
      go_enter Tryd.func48, Tryd.ntmps48
      go_wp2_with fail
      go_ret
      exact ⟨ret_bool (by simp [formedF, formedY, sz0, hy]), hal⟩
    subst hy
    by_cases hi : i = 0
    case neg =>
      have hi1 : (i != 0) = true := by simpa using hi
      have hal := (Below.refl w.heap.size w).alloc (Nat.le_refl _) (.cells #[.int .i64 (8), .string ⟨#[]⟩, .slice a n cap, .bool false, .int .i64 i, .int .i64 0] 24)
      go_enter Tryd.func48, Tryd.ntmps48
      go_wp2_with fail
      go_ret
      exact ⟨ret_bool (by simp [formedF, formedY, sz0, hi]), hal⟩
    subst hi
    have hn1 : decide ((0 : Int) < (n : Int)) = decide (1 ≤ n) := by rw [decide_eq_decide]; omega
    have hn2 : decide (0 < n) = decide (1 ≤ n) := by rw [decide_eq_decide]; omega
    have hal := (Below.refl w.heap.size w).alloc (Nat.le_refl _) (.cells #[.int .i64 (8), .string ⟨#[]⟩, .slice a n cap, .bool false, .int .i64 0, .int .i64 0] 24)
    go_enter Tryd.func48, Tryd.ntmps48
    go_wp2_with fail
    go_ret
    exact ⟨ret_bool (by simp [formedF, formedY, sz0]), hal⟩

end Go.Proofs.YtaojlnibkajfbaaDoor
