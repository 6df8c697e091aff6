/- The walk of package str's simple: what a letter behind a backslash stands for; strings.IndexRune at the six letters and any character. -/
import Derived.Test.YtcjnlbelgmcpeaaDoorStrHex
import Derived.Test.YtcjnlbelgmcpeaaDoorTabs
import Derived.BigQuiet
import Derived.WalkMore
import Derived.Lib.OthersKept
namespace Go.Proofs.YtcjnlbelgmcpeaaDoor
open Go.RowKit
set_option maxRecDepth 100000
set_option linter.unusedVariables false

def letters : ByteArray := ⟨#[98, 102, 110, 114, 116, 118]⟩
theorem letters_size : letters.size = 6 := rfl
theorem letters_dec (p : Nat) (h : p < 6) : (Utf8.decode letters p).2 = 1 ∧ (Utf8.decode letters p).1 < 128 := by
  obtain rfl | rfl | rfl | rfl | rfl | rfl : p = 0 ∨ p = 1 ∨ p = 2 ∨ p = 3 ∨ p = 4 ∨ p = 5 := by omega
  all_goals exact ⟨by kernel_rfl, by decide +kernel⟩
theorem letters_none (c : UInt8) (h : 128 ≤ c.toNat) (p : Nat) : Lib.indexByte (letters.extract p letters.size).data.toList c = -1 := by
  have key : ∀ l : List UInt8, (∀ x ∈ l, x.toNat < 128) → Lib.indexByte l c = -1 := by
    intro l
    induction l with
    | nil => intro _; rfl
    | cons a l ih =>
      intro hl
      have h1 := ih (fun x hx => hl x (List.mem_cons_of_mem _ hx))
      have h2 := hl a (List.mem_cons_self ..)
      have h3 : (a == c) = false := by
        rw [beq_eq_false_iff_ne]
        rintro rfl
        omega
      simp [Lib.indexByte, h1, h3]
  refine key _ (fun x hx => ?_)
  rw [Lib.extract_data] at hx
  have hm := List.mem_of_mem_drop (List.mem_of_mem_take hx)
  have e : letters.data.toList = [98, 102, 110, 114, 116, 118] := rfl
  rw [e] at hm
  simp at hm
  rcases hm with rfl | rfl | rfl | rfl | rfl | rfl <;> decide
theorem letters_index (r : Int) (h0 : 0 ≤ r) (h1 : r < 128) : Lib.indexByte letters.data.toList r.toNat.toUInt8 =
    if r = 98 then 0 else if r = 102 then 1 else if r = 110 then 2 else if r = 114 then 3 else if r = 116 then 4 else if r = 118 then 5 else -1 := by
  obtain ⟨n, rfl⟩ : ∃ n : Nat, r = (n : Int) := ⟨r.toNat, by omega⟩
  have key : ∀ m : Fin 128, Lib.indexByte letters.data.toList ((m.val : Int).toNat.toUInt8) = if (m.val : Int) = 98 then 0 else if (m.val : Int) = 102 then 1 else if (m.val : Int) = 110 then 2 else if (m.val : Int) = 114 then 3 else if (m.val : Int) = 116 then 4 else if (m.val : Int) = 118 then 5 else -1 := by decide +kernel
  exact key ⟨n, by omega⟩
/-- A character's last byte. -/
theorem enc_last (r : Int) (h : 128 ≤ r) (hv : Utf8.valid r = true) : ∃ n, (n = 1 ∨ n = 2 ∨ n = 3) ∧ (Utf8.encode r).size = n + 1 ∧ ∀ h : n < (Utf8.encode r).size, 128 ≤ ((Utf8.encode r)[n]'h).toNat := by
  have e : Utf8.encode r = (if r.toNat < 128 then ⟨#[UInt8.ofNat r.toNat]⟩
    else if r.toNat < 2048 then ⟨#[UInt8.ofNat (192 + r.toNat / 64), UInt8.ofNat (128 + r.toNat % 64)]⟩
    else if r.toNat < 65536 then ⟨#[UInt8.ofNat (224 + r.toNat / 4096), UInt8.ofNat (128 + r.toNat / 64 % 64), UInt8.ofNat (128 + r.toNat % 64)]⟩
    else ⟨#[UInt8.ofNat (240 + r.toNat / 262144), UInt8.ofNat (128 + r.toNat / 4096 % 64), UInt8.ofNat (128 + r.toNat / 64 % 64), UInt8.ofNat (128 + r.toNat % 64)]⟩) := by
    unfold Utf8.encode
    rw [if_pos hv]
  rw [e]
  have hb : (UInt8.ofNat (128 + r.toNat % 64)).toNat = 128 + r.toNat % 64 := by simp; omega
  rw [if_neg (by omega)]
  by_cases h2 : r.toNat < 2048
  · rw [if_pos h2]
    refine ⟨1, by omega, rfl, fun h => ?_⟩
    show 128 ≤ (UInt8.ofNat (128 + r.toNat % 64)).toNat
    omega
  · rw [if_neg h2]
    by_cases h3 : r.toNat < 65536
    · rw [if_pos h3]
      refine ⟨2, by omega, rfl, fun h => ?_⟩
      show 128 ≤ (UInt8.ofNat (128 + r.toNat % 64)).toNat
      omega
    · rw [if_neg h3]
      refine ⟨3, by omega, rfl, fun h => ?_⟩
      show 128 ≤ (UInt8.ofNat (128 + r.toNat % 64)).toNat
      omega

set_option maxHeartbeats 4000000 in
theorem index_err (w : World) :
    Calls Tryd.prog 34 #[.string letters, .int .i32 65533] w fun e w' => e = .returned (.int .i64 (-1)) ∧ Below w.heap.size w w' := by
  have HS := Lib.hid letters_size
  have hs := HS.out
  have HD := Lib.hid letters_dec
  generalize letters = L at *
  go_enter Tryd.func34, Tryd.ntmps34
  go_wp2
  go_loopw [5, 6] (fun _ _ wr => ∃ pos : Nat, pos ≤ L.size ∧ wr.heap[w.heap.size]? = some (.stringIter L pos) ∧ Below w.heap.size w wr) (fun _ _ wr => L.size - wr.iterPos w.heap.size)
  case atStart => exact ⟨0, Nat.zero_le _, World.iter_heap w L 0, (Below.refl _ w).alloc (Nat.le_refl _) _⟩
  case round =>
    obtain ⟨pos, hle, hit, hbw⟩ := hrel
    by_cases hp : pos < L.size
    · have hnx : ∀ ty, (Instr.next (.pointer (some ⟨w.heap.size, 0, none⟩)) true ty).run Tryd.prog wr = _ := fun ty => Lib.run_next_any_at wr w.heap.size L pos ty hit hp
      have hit2 := Lib.iterAt_heap wr w.heap.size L pos (pos + (Utf8.decode L pos).2) hit
      have hbw2 := Lib.below_iterAt hbw (k := w.heap.size) (Nat.le_refl _) L (pos + (Utf8.decode L pos).2)
      obtain ⟨e1, hd1⟩ := HD.out pos (by omega)
      have hd0 := decode_le L pos
      rw [e1] at hnx hit2 hbw2
      generalize (Utf8.decode L pos).1 = d at *
      generalize wr.iterAt w.heap.size L (pos + 1) = W at *
      have HIT := Lib.hid hit
      have HIT2 := Lib.hid hit2
      have HM : Hid (W.iterPos w.heap.size = pos + 1) := Lib.hid (by simp [World.iterPos, hit2])
      have hd2 : d ≠ 65533 := by omega
      clear hit hit2
      go_wp2_with fail
      go_roundw
      case rel => exact ⟨pos + 1, by omega, HIT2.out, hbw2⟩
      case measure => rw [HM.out]; simp only [World.iterPos, HIT.out]; omega
    · have hnx : ∀ ty, (Instr.next (.pointer (some ⟨w.heap.size, 0, none⟩)) true ty).run Tryd.prog wr = _ := fun ty => Lib.run_next_end_at wr w.heap.size L pos ty hit hp
      go_wp2_with fail
      go_ret
      exact ⟨rfl, hbw⟩

theorem below_drew {B : Nat} {w w1 : World} (h : Below B w w1) (n : Nat) : Below B w (w1.drewN n) := Go.Proofs.YtcjnlbelgmcpeaaDoor.below_drewN h n

set_option maxHeartbeats 4000000 in
theorem index_walk (r : Int) (R L : ByteArray) (n : Nat) (w : World) (h : 128 ≤ r) (hne : r ≠ 65533) (hR : Utf8.encode r = R) (hn : n ≤ 3) (hz : R.size = n + 1) (hlt : n < R.size) (hL : n < L.size)
    (hx1 : ((L[n]'hL).toNat : Int) < 128) (hx2 : 128 ≤ ((R[n]'hlt).toNat : Int))
    (HVR : Hid (Calls Tryd.prog 41 #[.int .i32 r] w fun e w' => e = .returned (.bool true) ∧ w = w'))
    (HIB : Hid (∀ (w : World) (c : Int), 128 ≤ c → c < 256 → Calls Tryd.prog 40 #[.string (L.extract (n + 1) L.size), .int .u8 c] w fun e w' => e = .returned (.int .i64 (-1)) ∧ w' = w)) :
    Calls Tryd.prog 34 #[.string L, .int .i32 r] w fun e w' => e = .returned (.int .i64 (-1)) ∧ Below w.heap.size w w' := by
  have hcl : ((R[n]'hlt).toNat : Int) < 256 := by have := (R[n]'hlt).toNat_lt; omega
  have hx3 : ((L[n]'hL).toNat : Int) ≠ ((R[n]'hlt).toNat : Int) := by omega
  have HC := fun w => HIB.out w _ hx2 hcl
  have HC' := Lib.hid HC
  clear HC HIB
  go_enter Tryd.func34, Tryd.ntmps34
  go_wp2_with (go_at_call 41; refine HVR.out.mono ?_; rintro e w1 ⟨rfl, rfl⟩)
  go_step3
  go_wp2_with fail
  clear hz hR
  go_loop [4, 9] (fun _ x => x = .int .i64 (n : Int)) (fun _ _ => 0)
  case atStart => rfl
  case round =>
    obtain rfl := hrel
    go_wp2_with fail
    go_step3
    go_wp2_with fail
    go_quiet (fail)
    have hbq : Below w.heap.size w (w.drewN nq) := below_drew (Below.refl _ w) _
    generalize w.drewN nq = w1 at *
    go_wp2_with fail
    have q1 : (0 : Int) ≤ (n : Int) + 1 := by omega
    have q2 : (n : Int) + 1 ≤ (L.size : Int) := by omega
    have q3 : ((n : Int) + 1).toNat = n + 1 := by omega
    have q4 : n + 1 ≤ L.size := by omega
    have q5 : IntKind.i64.wrap ((n : Int) + 1) = (n : Int) + 1 := by rw [IntKind.wrap_i64]; omega
    go_quiet (first | (go_at_call 40; exact Calls.quiet_of_same (HC'.out _)))
    go_wp2_with fail
    simp (config := { zetaDelta := true }) only [Exit.noGoto_ret, Exit.inBlock, Exit.then]
    go_ret
    exact ⟨rfl, below_drew hbq _⟩

theorem index_far (r : Int) (w : World) (h : 128 ≤ r) (hv : Utf8.valid r = true) (hne : r ≠ 65533) :
    Calls Tryd.prog 34 #[.string letters, .int .i32 r] w fun e w' => e = .returned (.int .i64 (-1)) ∧ Below w.heap.size w w' := by
  obtain ⟨n, hn, hz, hb⟩ := enc_last r h hv
  have hvr : Lib.validRune r = true := by
    have := hv
    unfold Utf8.valid at this
    unfold Lib.validRune
    simp at this ⊢
    omega
  have hlt : n < (Utf8.encode r).size := by omega
  have hL : n < letters.size := by rw [letters_size]; omega
  have hb' := hb hlt
  refine index_walk r (Utf8.encode r) letters n w h hne rfl (by omega) hz hlt hL ?_ (by omega) (Lib.hid ((Tryd.utf8_ValidRune r w).mono fun e w' ⟨h1, h2⟩ => ⟨by rw [h1, hvr], h2.symm⟩)) (Lib.hid fun w c hc hc' => (Tryd.strings_IndexByte _ c w).mono fun e w' ⟨h1, h2⟩ => ⟨by rw [h1, letters_none _ (by simp; omega)], h2⟩)
  have key : ∀ m : Fin 6, (letters[m.val]'(by rw [letters_size]; exact m.isLt)).toNat < 128 := by decide +kernel
  have := key ⟨n, by omega⟩
  simp only at this
  omega

set_option maxHeartbeats 4000000 in
/-- The whole call of simple, its own call given. -/
theorem simple_of (r i x : Int) (w : World) (hi : (i = -1 ∧ x = -1) ∨ (i = 0 ∧ x = 8) ∨ (i = 1 ∧ x = 12) ∨ (i = 2 ∧ x = 10) ∨ (i = 3 ∧ x = 13) ∨ (i = 4 ∧ x = 9) ∨ (i = 5 ∧ x = 11))
    (h : Hid (Calls Tryd.prog 34 #[.string ⟨#[98, 102, 110, 114, 116, 118]⟩, .int .i32 r] w fun e w' => e = .returned (.int .i64 i) ∧ Below w.heap.size w w')) :
    Calls Tryd.prog 29 #[.int .i32 r] w fun e w' => e = .returned (.int .i64 x) ∧ Below w.heap.size w w' := by
  have hix : 0 ≤ i → ∀ w, (Instr.index 75 (.agg #[.int .i64 8, .int .i64 12, .int .i64 10, .int .i64 13, .int .i64 9, .int .i64 11]) (.int .i64 i)).run Tryd.prog w = .ok (.int .i64 x) w := by
    rcases hi with ⟨rfl, rfl⟩ | ⟨rfl, rfl⟩ | ⟨rfl, rfl⟩ | ⟨rfl, rfl⟩ | ⟨rfl, rfl⟩ | ⟨rfl, rfl⟩ | ⟨rfl, rfl⟩
    · intro h; omega
    all_goals
      intro h w
      simp [Instr.index, run_underlying Tryd.underlying75, asIntOf, go_sem]
  rcases hi with ⟨rfl, rfl⟩ | ⟨rfl, rfl⟩ | ⟨rfl, rfl⟩ | ⟨rfl, rfl⟩ | ⟨rfl, rfl⟩ | ⟨rfl, rfl⟩ | ⟨rfl, rfl⟩
  all_goals
    first | (replace hix := hix (by decide)) | clear hix
    go_enter Tryd.func29, Tryd.ntmps29
    go_wp2_with (go_at_call 34; refine h.out.mono ?_; rintro e w1 ⟨rfl, hb1⟩)
    go_ret
    exact ⟨rfl, hb1⟩
theorem simple_any (r : Int) (w : World) (h0 : 0 ≤ r) (hv : Utf8.valid r = true) :
    Calls Tryd.prog 29 #[.int .i32 r] w fun e w' => e = .returned (.int .i64 (simN r)) ∧ Below w.heap.size w w' := by
  by_cases h1 : r < 128
  · refine simple_of r _ (simN r) w ?_ (Lib.hid ((Tryd.strings_IndexRune_ascii letters r w h0 h1).mono fun e w' ⟨a, b⟩ => ⟨a, by subst b; exact Below.refl _ _⟩))
    rw [letters_index r h0 h1]
    unfold simN
    repeat' split
    all_goals omega
  · have hs : simN r = -1 := by
      unfold simN
      repeat' split
      all_goals omega
    rw [hs]
    by_cases h2 : r = 65533
    · subst h2
      exact simple_of _ (-1) (-1) w (by omega) (Lib.hid (index_err w))
    · exact simple_of _ (-1) (-1) w (by omega) (Lib.hid (index_far r w (by omega) hv h2))
end Go.Proofs.YtcjnlbelgmcpeaaDoor
