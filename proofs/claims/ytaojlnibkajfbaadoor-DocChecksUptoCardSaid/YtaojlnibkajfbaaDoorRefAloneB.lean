/- platenref15.alone, some kinds. -/
import Derived.Test.YtaojlnibkajfbaaDoorRefDocText
namespace Go.Proofs.YtaojlnibkajfbaaDoor
open Go.RowKit
set_option maxRecDepth 100000
set_option linter.unusedVariables false
set_option linter.unusedSimpArgs false

set_option maxHeartbeats 16000000 in
theorem alone_9 (t : ByteArray) (a : Option Addr) (n cap : Nat) (b : Bool) (i y : Int) (w : World) (hs : t.size ≤ 4194304) (hn : n ≤ 4194304) :
    Calls Tryd.prog 48 #[.agg #[.int .i64 (9), .string t, .slice a n cap, .bool b, .int .i64 i, .int .i64 y]] w fun e w' => e = .returned (.bool (formedF (9) t n b i y)) ∧ Below w.heap.size w w' := by
  by_cases ht : t.size = 0
  case neg =>
    have hT := text_full ht
    have hal := (Below.refl w.heap.size w).alloc (Nat.le_refl _) (.cells #[.int .i64 (9), .string t, .slice a n cap, .bool b, .int .i64 i, .int .i64 y] 24)
    go_enter Tryd.func48, Tryd.ntmps48
    go_wp2_with fail
    go_ret
    exact ⟨ret_bool (by simp [formedF, formedY, sz0, ht]), hal⟩
  obtain rfl := text_none ht
  clear ht
  cases b
  case true =>
    have hal := (Below.refl w.heap.size w).alloc (Nat.le_refl _) (.cells #[.int .i64 (9), .string ⟨#[]⟩, .slice a n cap, .bool true, .int .i64 i, .int .i64 y] 24)
    go_enter Tryd.func48, Tryd.ntmps48
    go_wp2_with fail
    go_ret
    exact ⟨ret_bool (by simp [formedF, formedY, sz0]), hal⟩
  case false =>
    by_cases hy : y = 0
    case neg =>
      have hy1 : (y != 0) = true := by simpa using hy
      have hy2 : (y == 0) = false := by simpa using hy
      have hal := (Below.refl w.heap.size w).alloc (Nat.le_refl _) (.cells #[.int .i64 (9), .string ⟨#[]⟩, .slice a n cap, .bool false, .int .i64 i, .int .i64 y] 24)
      go_enter Tryd.func48, Tryd.ntmps48
      go_wp2_with fail
      go_ret
      exact ⟨ret_bool (by simp [formedF, formedY, sz0, hy]), hal⟩
    subst hy
    by_cases hi : i = 0
    case neg =>
      have hi1 : (i != 0) = true := by simpa using hi
      have hal := (Below.refl w.heap.size w).alloc (Nat.le_refl _) (.cells #[.int .i64 (9), .string ⟨#[]⟩, .slice a n cap, .bool false, .int .i64 i, .int .i64 0] 24)
      go_enter Tryd.func48, Tryd.ntmps48
      go_wp2_with fail
      go_ret
      exact ⟨ret_bool (by simp [formedF, formedY, sz0, hi]), hal⟩
    subst hi
    by_cases hn0 : n = 0
    · have hn1 : ((n : Int) == 0) = true := by rw [beq_iff_eq]; omega
      have HN0 := Lib.hid hn0
      clear hn0
      have hal := (Below.refl w.heap.size w).alloc (Nat.le_refl _) (.cells #[.int .i64 (9), .string ⟨#[]⟩, .slice a n cap, .bool false, .int .i64 0, .int .i64 0] 24)
      go_enter Tryd.func48, Tryd.ntmps48
      go_wp2_with fail
      go_ret
      exact ⟨ret_bool (by simp [formedF, formedY, sz0, HN0.out]), hal⟩
    · have hn1 : ((n : Int) == 0) = false := by rw [beq_eq_false_iff_ne]; omega
      have hn2 : ((n : Int) % 2 == 1) = (n % 2 == 1) := by rw [Bool.eq_iff_iff, beq_iff_eq, beq_iff_eq]; omega
      have hal := (Below.refl w.heap.size w).alloc (Nat.le_refl _) (.cells #[.int .i64 (9), .string ⟨#[]⟩, .slice a n cap, .bool false, .int .i64 0, .int .i64 0] 24)
      go_enter Tryd.func48, Tryd.ntmps48
      go_wp2_with fail
      go_ret
      exact ⟨ret_bool (by simp [formedF, formedY, sz0, hn0, hn2]), hal⟩

set_option maxHeartbeats 16000000 in
theorem alone_11 (t : ByteArray) (a : Option Addr) (n cap : Nat) (b : Bool) (i y : Int) (w : World) (hs : t.size ≤ 4194304) (hn : n ≤ 4194304) :
    Calls Tryd.prog 48 #[.agg #[.int .i64 (11), .string t, .slice a n cap, .bool b, .int .i64 i, .int .i64 y]] w fun e w' => e = .returned (.bool (formedF (11) t n b i y)) ∧ Below w.heap.size w w' := by
  by_cases ht : t.size = 0
  case neg =>
    have hT := text_full ht
    have hal := (Below.refl w.heap.size w).alloc (Nat.le_refl _) (.cells #[.int .i64 (11), .string t, .slice a n cap, .bool b, .int .i64 i, .int .i64 y] 24)
    go_enter Tryd.func48, Tryd.ntmps48
    go_wp2_with fail
    go_ret
    exact ⟨ret_bool (by simp [formedF, formedY, sz0, ht]), hal⟩
  obtain rfl := text_none ht
  clear ht
  cases b
  case true =>
    have hal := (Below.refl w.heap.size w).alloc (Nat.le_refl _) (.cells #[.int .i64 (11), .string ⟨#[]⟩, .slice a n cap, .bool true, .int .i64 i, .int .i64 y] 24)
    go_enter Tryd.func48, Tryd.ntmps48
    go_wp2_with fail
    go_ret
    exact ⟨ret_bool (by simp [formedF, formedY, sz0]), hal⟩
  case false =>
    by_cases hy : y = 0
    case neg =>
      have hy1 : (y != 0) = true := by simpa using hy
      have hy2 : (y == 0) = false := by simpa using hy
      have hal := (Below.refl w.heap.size w).alloc (Nat.le_refl _) (.cells #[.int .i64 (11), .string ⟨#[]⟩, .slice a n cap, .bool false, .int .i64 i, .int .i64 y] 24)
      go_enter Tryd.func48, Tryd.ntmps48
      go_wp2_with fail
      go_ret
      exact ⟨ret_bool (by simp [formedF, formedY, sz0, hy]), hal⟩
    subst hy
    by_cases hi : i = 0
    case neg =>
      have hi1 : (i != 0) = true := by simpa using hi
      have hal := (Below.refl w.heap.size w).alloc (Nat.le_refl _) (.cells #[.int .i64 (11), .string ⟨#[]⟩, .slice a n cap, .bool false, .int .i64 i, .int .i64 0] 24)
      go_enter Tryd.func48, Tryd.ntmps48
      go_wp2_with fail
      go_ret
      exact ⟨ret_bool (by simp [formedF, formedY, sz0, hi]), hal⟩
    subst hi
    have hn1 : ((n : Int) == 1) = (n == 1) := by rw [Bool.eq_iff_iff, beq_iff_eq, beq_iff_eq]; omega
    have hal := (Below.refl w.heap.size w).alloc (Nat.le_refl _) (.cells #[.int .i64 (11), .string ⟨#[]⟩, .slice a n cap, .bool false, .int .i64 0, .int .i64 0] 24)
    go_enter Tryd.func48, Tryd.ntmps48
    go_wp2_with fail
    go_ret
    exact ⟨ret_bool (by simp [formedF, formedY, sz0, hn1]), hal⟩

set_option maxHeartbeats 16000000 in
theorem alone_14 (t : ByteArray) (a : Option Addr) (n cap : Nat) (b : Bool) (i y : Int) (w : World) (hs : t.size ≤ 4194304) (hn : n ≤ 4194304) :
    Calls Tryd.prog 48 #[.agg #[.int .i64 (14), .string t, .slice a n cap, .bool b, .int .i64 i, .int .i64 y]] w fun e w' => e = .returned (.bool (formedF (14) t n b i y)) ∧ Below w.heap.size w w' := by
  by_cases ht : t.size = 0
  case neg =>
    have hT := text_full ht
    have hal := (Below.refl w.heap.size w).alloc (Nat.le_refl _) (.cells #[.int .i64 (14), .string t, .slice a n cap, .bool b, .int .i64 i, .int .i64 y] 24)
    go_enter Tryd.func48, Tryd.ntmps48
    go_wp2_with fail
    go_ret
    exact ⟨ret_bool (by simp [formedF, formedY, sz0, ht]), hal⟩
  obtain rfl := text_none ht
  clear ht
  cases b
  case true =>
    have hal := (Below.refl w.heap.size w).alloc (Nat.le_refl _) (.cells #[.int .i64 (14), .string ⟨#[]⟩, .slice a n cap, .bool true, .int .i64 i, .int .i64 y] 24)
    go_enter Tryd.func48, Tryd.ntmps48
    go_wp2_with fail
    go_ret
    exact ⟨ret_bool (by simp [formedF, formedY, sz0]), hal⟩
  case false =>
    by_cases hy : y = 0
    case neg =>
      have hy1 : (y != 0) = true := by simpa using hy
      have hy2 : (y == 0) = false := by simpa using hy
      have hal := (Below.refl w.heap.size w).alloc (Nat.le_refl _) (.cells #[.int .i64 (14), .string ⟨#[]⟩, .slice a n cap, .bool false, .int .i64 i, .int .i64 y] 24)
      go_enter Tryd.func48, Tryd.ntmps48
      go_wp2_with fail
      go_ret
      exact ⟨ret_bool (by simp [formedF, formedY, sz0, hy]), hal⟩
    subst hy
    by_cases hi : i = 0
    case neg =>
      have hi1 : (i != 0) = true := by simpa using hi
      have hal := (Below.refl w.heap.size w).alloc (Nat.le_refl _) (.cells #[.int .i64 (14), .string ⟨#[]⟩, .slice a n cap, .bool false, .int .i64 i, .int .i64 0] 24)
      go_enter Tryd.func48, Tryd.ntmps48
      go_wp2_with fail
      go_ret
      exact ⟨ret_bool (by simp [formedF, formedY, sz0, hi]), hal⟩
    subst hi
    have hn1 : ((n : Int) == 1) = (n == 1) := by rw [Bool.eq_iff_iff, beq_iff_eq, beq_iff_eq]; omega
    have hal := (Below.refl w.heap.size w).alloc (Nat.le_refl _) (.cells #[.int .i64 (14), .string ⟨#[]⟩, .slice a n cap, .bool false, .int .i64 0, .int .i64 0] 24)
    go_enter Tryd.func48, Tryd.ntmps48
    go_wp2_with fail
    go_ret
    exact ⟨ret_bool (by simp [formedF, formedY, sz0, hn1]), hal⟩

set_option maxHeartbeats 16000000 in
theorem alone_15 (t : ByteArray) (a : Option Addr) (n cap : Nat) (b : Bool) (i y : Int) (w : World) (hs : t.size ≤ 4194304) (hn : n ≤ 4194304) :
    Calls Tryd.prog 48 #[.agg #[.int .i64 (15), .string t, .slice a n cap, .bool b, .int .i64 i, .int .i64 y]] w fun e w' => e = .returned (.bool (formedF (15) t n b i y)) ∧ Below w.heap.size w w' := by
  by_cases ht : t.size = 0
  case neg =>
    have hT := text_full ht
    have hal := (Below.refl w.heap.size w).alloc (Nat.le_refl _) (.cells #[.int .i64 (15), .string t, .slice a n cap, .bool b, .int .i64 i, .int .i64 y] 24)
    go_enter Tryd.func48, Tryd.ntmps48
    go_wp2_with fail
    go_ret
    exact ⟨ret_bool (by simp [formedF, formedY, sz0, ht]), hal⟩
  obtain rfl := text_none ht
  clear ht
  cases b
  case true =>
    have hal := (Below.refl w.heap.size w).alloc (Nat.le_refl _) (.cells #[.int .i64 (15), .string ⟨#[]⟩, .slice a n cap, .bool true, .int .i64 i, .int .i64 y] 24)
    go_enter Tryd.func48, Tryd.ntmps48
    go_wp2_with fail
    go_ret
    exact ⟨ret_bool (by simp [formedF, formedY, sz0]), hal⟩
  case false =>
    by_cases hy : y = 0
    case neg =>
      have hy1 : (y != 0) = true := by simpa using hy
      have hy2 : (y == 0) = false := by simpa using hy
      have hal := (Below.refl w.heap.size w).alloc (Nat.le_refl _) (.cells #[.int .i64 (15), .string ⟨#[]⟩, .slice a n cap, .bool false, .int .i64 i, .int .i64 y] 24)
      go_enter Tryd.func48, Tryd.ntmps48
      go_wp2_with fail
      go_ret
      exact ⟨ret_bool (by simp [formedF, formedY, sz0, hy]), hal⟩
    subst hy
    by_cases hi : i = 0
    case neg =>
      have hi1 : (i != 0) = true := by simpa using hi
      have hal := (Below.refl w.heap.size w).alloc (Nat.le_refl _) (.cells #[.int .i64 (15), .string ⟨#[]⟩, .slice a n cap, .bool false, .int .i64 i, .int .i64 0] 24)
      go_enter Tryd.func48, Tryd.ntmps48
      go_wp2_with fail
      go_ret
      exact ⟨ret_bool (by simp [formedF, formedY, sz0, hi]), hal⟩
    subst hi
    have hn1 : ((n : Int) == 0) = (n == 0) := by rw [Bool.eq_iff_iff, beq_iff_eq, beq_iff_eq]; omega
    have hal := (Below.refl w.heap.size w).alloc (Nat.le_refl _) (.cells #[.int .i64 (15), .string ⟨#[]⟩, .slice a n cap, .bool false, .int .i64 0, .int .i64 0] 24)
    go_enter Tryd.func48, Tryd.ntmps48
    go_wp2_with fail
    go_ret
    exact ⟨ret_bool (by simp [formedF, formedY, sz0, hn1]), hal⟩

set_option maxHeartbeats 16000000 in
theorem alone_16 (t : ByteArray) (a : Option Addr) (n cap : Nat) (b : Bool) (i y : Int) (w : World) (hs : t.size ≤ 4194304) (hn : n ≤ 4194304) :
    Calls Tryd.prog 48 #[.agg #[.int .i64 (16), .string t, .slice a n cap, .bool b, .int .i64 i, .int .i64 y]] w fun e w' => e = .returned (.bool (formedF (16) t n b i y)) ∧ Below w.heap.size w w' := by
  by_cases ht : t.size = 0
  case neg =>
    have hT := text_full ht
    have hal := (Below.refl w.heap.size w).alloc (Nat.le_refl _) (.cells #[.int .i64 (16), .string t, .slice a n cap, .bool b, .int .i64 i, .int .i64 y] 24)
    go_enter Tryd.func48, Tryd.ntmps48
    go_wp2_with fail
    go_ret
    exact ⟨ret_bool (by simp [formedF, formedY, sz0, ht]), hal⟩
  obtain rfl := text_none ht
  clear ht
  cases b
  case true =>
    have hal := (Below.refl w.heap.size w).alloc (Nat.le_refl _) (.cells #[.int .i64 (16), .string ⟨#[]⟩, .slice a n cap, .bool true, .int .i64 i, .int .i64 y] 24)
    go_enter Tryd.func48, Tryd.ntmps48
    go_wp2_with fail
    go_ret
    exact ⟨ret_bool (by simp [formedF, formedY, sz0]), hal⟩
  case false =>
    by_cases hy : y = 0
    case neg =>
      have hy1 : (y != 0) = true := by simpa using hy
      have hy2 : (y == 0) = false := by simpa using hy
      have hal := (Below.refl w.heap.size w).alloc (Nat.le_refl _) (.cells #[.int .i64 (16), .string ⟨#[]⟩, .slice a n cap, .bool false, .int .i64 i, .int .i64 y] 24)
      go_enter Tryd.func48, Tryd.ntmps48
      go_wp2_with fail
      go_ret
      exact ⟨ret_bool (by simp [formedF, formedY, sz0, hy]), hal⟩
    subst hy
    by_cases hi : i = 0
    case neg =>
      have hi1 : (i != 0) = true := by simpa using hi
      have hal := (Below.refl w.heap.size w).alloc (Nat.le_refl _) (.cells #[.int .i64 (16), .string ⟨#[]⟩, .slice a n cap, .bool false, .int .i64 i, .int .i64 0] 24)
      go_enter Tryd.func48, Tryd.ntmps48
      go_wp2_with fail
      go_ret
      exact ⟨ret_bool (by simp [formedF, formedY, sz0, hi]), hal⟩
    subst hi
    have hn1 : ((n : Int) == 0) = (n == 0) := by rw [Bool.eq_iff_iff, beq_iff_eq, beq_iff_eq]; omega
    have hal := (Below.refl w.heap.size w).alloc (Nat.le_refl _) (.cells #[.int .i64 (16), .string ⟨#[]⟩, .slice a n cap, .bool false, .int .i64 0, .int .i64 0] 24)
    go_enter Tryd.func48, Tryd.ntmps48
    go_wp2_with fail
    go_ret
    exact ⟨ret_bool (by simp [formedF, formedY, sz0, hn1]), hal⟩

end Go.Proofs.YtaojlnibkajfbaaDoor
