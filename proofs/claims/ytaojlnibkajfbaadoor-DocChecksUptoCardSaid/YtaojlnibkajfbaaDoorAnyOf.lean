/- strings.ContainsAny at a line's two ends: of every text; strings.IndexRune at them and any character. -/
import Derived.Test.YtaojlnibkajfbaaDoorValidPair
import Derived.BigQuiet
import Derived.WalkMore
import Derived.Lib.OthersKept
import Derived.Outline
namespace Go.Proofs.YtaojlnibkajfbaaDoor
open Go.RowKit
set_option maxRecDepth 100000
set_option linter.unusedVariables false

def letters : ByteArray := ⟨#[10, 13]⟩
theorem letters_size : letters.size = 2 := rfl
theorem letters_dec (p : Nat) (h : p < 2) : (Utf8.decode letters p).2 = 1 ∧ (Utf8.decode letters p).1 < 128 := by
  obtain rfl | rfl : p = 0 ∨ p = 1 := by omega
  all_goals exact ⟨by kernel_rfl, by decide +kernel⟩
theorem letters_none (c : UInt8) (h : 128 ≤ c.toNat) (p : Nat) : Lib.indexByte (letters.extract p letters.size).data.toList c = -1 := by
  have key : ∀ l : List UInt8, (∀ x ∈ l, x.toNat < 128) → Lib.indexByte l c = -1 := by
    intro l
    induction l with
    | nil => intro _; rfl
    | cons a l ih =>
      intro hl
      have h1 := ih (fun x hx => hl x (List.mem_cons_of_mem _ hx))
      have h2 := hl a (List.mem_cons_self ..)
      have h3 : (a == c) = false := by
        rw [beq_eq_false_iff_ne]
        rintro rfl
        omega
      simp [Lib.indexByte, h1, h3]
  refine key _ (fun x hx => ?_)
  rw [Lib.extract_data] at hx
  have hm := List.mem_of_mem_drop (List.mem_of_mem_take hx)
  have e : letters.data.toList = [10, 13] := rfl
  rw [e] at hm
  simp at hm
  rcases hm with rfl | rfl <;> decide
theorem letters_index (r : Int) (h0 : 0 ≤ r) (h1 : r < 128) : Lib.indexByte letters.data.toList r.toNat.toUInt8 =
    if r = 10 then 0 else if r = 13 then 1 else -1 := by
  obtain ⟨n, rfl⟩ : ∃ n : Nat, r = (n : Int) := ⟨r.toNat, by omega⟩
  have key : ∀ m : Fin 128, Lib.indexByte letters.data.toList ((m.val : Int).toNat.toUInt8) = if (m.val : Int) = 10 then 0 else if (m.val : Int) = 13 then 1 else -1 := by decide +kernel
  exact key ⟨n, by omega⟩
theorem lenB_1' (s : ByteArray) (i : Nat) (h : byt s i < 128) : lenB s i = 1 := by unfold lenB; rw [if_pos h]
/-- A character's last byte. -/
theorem enc_last (r : Int) (h : 128 ≤ r) (hv : Utf8.valid r = true) : ∃ n, (n = 1 ∨ n = 2 ∨ n = 3) ∧ (Utf8.encode r).size = n + 1 ∧ ∀ h : n < (Utf8.encode r).size, 128 ≤ ((Utf8.encode r)[n]'h).toNat := by
  have e : Utf8.encode r = (if r.toNat < 128 then ⟨#[UInt8.ofNat r.toNat]⟩
    else if r.toNat < 2048 then ⟨#[UInt8.ofNat (192 + r.toNat / 64), UInt8.ofNat (128 + r.toNat % 64)]⟩
    else if r.toNat < 65536 then ⟨#[UInt8.ofNat (224 + r.toNat / 4096), UInt8.ofNat (128 + r.toNat / 64 % 64), UInt8.ofNat (128 + r.toNat % 64)]⟩
    else ⟨#[UInt8.ofNat (240 + r.toNat / 262144), UInt8.ofNat (128 + r.toNat / 4096 % 64), UInt8.ofNat (128 + r.toNat / 64 % 64), UInt8.ofNat (128 + r.toNat % 64)]⟩) := by
    unfold Utf8.encode
    rw [if_pos hv]
  rw [e]
  have hb : (UInt8.ofNat (128 + r.toNat % 64)).toNat = 128 + r.toNat % 64 := by simp; omega
  rw [if_neg (by omega)]
  by_cases h2 : r.toNat < 2048
  · rw [if_pos h2]
    refine ⟨1, by omega, rfl, fun h => ?_⟩
    show 128 ≤ (UInt8.ofNat (128 + r.toNat % 64)).toNat
    omega
  · rw [if_neg h2]
    by_cases h3 : r.toNat < 65536
    · rw [if_pos h3]
      refine ⟨2, by omega, rfl, fun h => ?_⟩
      show 128 ≤ (UInt8.ofNat (128 + r.toNat % 64)).toNat
      omega
    · rw [if_neg h3]
      refine ⟨3, by omega, rfl, fun h => ?_⟩
      show 128 ≤ (UInt8.ofNat (128 + r.toNat % 64)).toNat
      omega

set_option maxHeartbeats 4000000 in
theorem index_err (w : World) :
    Calls Tryd.prog 58 #[.string letters, .int .i32 65533] w fun e w' => e = .returned (.int .i64 (-1)) ∧ Below w.heap.size w w' := by
  have HS := Lib.hid letters_size
  have hs := HS.out
  have HD := Lib.hid letters_dec
  generalize letters = L at *
  go_enter Tryd.func58, Tryd.ntmps58
  go_wp2
  go_loopw [5, 6] (fun _ _ wr => ∃ pos : Nat, pos ≤ L.size ∧ wr.heap[w.heap.size]? = some (.stringIter L pos) ∧ Below w.heap.size w wr) (fun _ _ wr => L.size - wr.iterPos w.heap.size)
  case atStart => exact ⟨0, Nat.zero_le _, World.iter_heap w L 0, (Below.refl _ w).alloc (Nat.le_refl _) _⟩
  case round =>
    obtain ⟨pos, hle, hit, hbw⟩ := hrel
    by_cases hp : pos < L.size
    · have hnx : ∀ ty, (Instr.next (.pointer (some ⟨w.heap.size, 0, none⟩)) true ty).run Tryd.prog wr = _ := fun ty => Lib.run_next_any_at wr w.heap.size L pos ty hit hp
      have hit2 := Lib.iterAt_heap wr w.heap.size L pos (pos + (Utf8.decode L pos).2) hit
      have hbw2 := Lib.below_iterAt hbw (k := w.heap.size) (Nat.le_refl _) L (pos + (Utf8.decode L pos).2)
      obtain ⟨e1, hd1⟩ := HD.out pos (by omega)
      have hd0 := decode_le L pos
      rw [e1] at hnx hit2 hbw2
      generalize (Utf8.decode L pos).1 = d at *
      generalize wr.iterAt w.heap.size L (pos + 1) = W at *
      have HIT := Lib.hid hit
      have HIT2 := Lib.hid hit2
      have HM : Hid (W.iterPos w.heap.size = pos + 1) := Lib.hid (by simp [World.iterPos, hit2])
      have hd2 : d ≠ 65533 := by omega
      clear hit hit2
      go_wp2_with fail
      go_roundw
      case rel => exact ⟨pos + 1, by omega, HIT2.out, hbw2⟩
      case measure => rw [HM.out]; simp only [World.iterPos, HIT.out]; omega
    · have hnx : ∀ ty, (Instr.next (.pointer (some ⟨w.heap.size, 0, none⟩)) true ty).run Tryd.prog wr = _ := fun ty => Lib.run_next_end_at wr w.heap.size L pos ty hit hp
      go_wp2_with fail
      go_ret
      exact ⟨rfl, hbw⟩

theorem below_drew {B : Nat} {w w1 : World} (h : Below B w w1) (n : Nat) : Below B w (w1.drewN n) := Go.Proofs.YtaojlnibkajfbaaDoor.below_drewN h n

set_option maxHeartbeats 4000000 in
theorem index_walk0 (r : Int) (R L : ByteArray) (n : Nat) (w : World) (h : 128 ≤ r) (hne : r ≠ 65533) (hR : Utf8.encode r = R) (hn : n ≤ 3) (hz : R.size = n + 1) (hlt : n < R.size) (hL : L.size ≤ n)
    (HVR : Hid (Calls Tryd.prog 64 #[.int .i32 r] w fun e w' => e = .returned (.bool true) ∧ w = w')) :
    Calls Tryd.prog 58 #[.string L, .int .i32 r] w fun e w' => e = .returned (.int .i64 (-1)) ∧ Below w.heap.size w w' := by
  go_enter Tryd.func58, Tryd.ntmps58
  go_wp2_with (go_at_call 64; refine HVR.out.mono ?_; rintro e w1 ⟨rfl, rfl⟩)
  go_step3
  go_wp2_with fail
  clear hz hR
  go_loop [4, 9] (fun _ x => x = .int .i64 (n : Int)) (fun _ _ => 0)
  case atStart => rfl
  case round =>
    obtain rfl := hrel
    go_wp2_with fail
    go_ret
    exact ⟨rfl, Below.refl _ _⟩

set_option maxHeartbeats 4000000 in
theorem index_walk (r : Int) (R L : ByteArray) (n : Nat) (w : World) (h : 128 ≤ r) (hne : r ≠ 65533) (hR : Utf8.encode r = R) (hn : n ≤ 3) (hz : R.size = n + 1) (hlt : n < R.size) (hL : n < L.size)
    (hx1 : ((L[n]'hL).toNat : Int) < 128) (hx2 : 128 ≤ ((R[n]'hlt).toNat : Int))
    (HVR : Hid (Calls Tryd.prog 64 #[.int .i32 r] w fun e w' => e = .returned (.bool true) ∧ w = w'))
    (HIB : Hid (∀ (w : World) (c : Int), 128 ≤ c → c < 256 → Calls Tryd.prog 63 #[.string (L.extract (n + 1) L.size), .int .u8 c] w fun e w' => e = .returned (.int .i64 (-1)) ∧ w' = w)) :
    Calls Tryd.prog 58 #[.string L, .int .i32 r] w fun e w' => e = .returned (.int .i64 (-1)) ∧ Below w.heap.size w w' := by
  have hcl : ((R[n]'hlt).toNat : Int) < 256 := by have := (R[n]'hlt).toNat_lt; omega
  have hx3 : ((L[n]'hL).toNat : Int) ≠ ((R[n]'hlt).toNat : Int) := by omega
  have HC := fun w => HIB.out w _ hx2 hcl
  have HC' := Lib.hid HC
  clear HC HIB
  go_enter Tryd.func58, Tryd.ntmps58
  go_wp2_with (go_at_call 64; refine HVR.out.mono ?_; rintro e w1 ⟨rfl, rfl⟩)
  go_step3
  go_wp2_with fail
  clear hz hR
  go_loop [4, 9] (fun _ x => x = .int .i64 (n : Int)) (fun _ _ => 0)
  case atStart => rfl
  case round =>
    obtain rfl := hrel
    go_wp2_with fail
    go_step3
    go_wp2_with fail
    go_quiet (fail)
    have hbq : Below w.heap.size w (w.drewN nq) := below_drew (Below.refl _ w) _
    generalize w.drewN nq = w1 at *
    go_wp2_with fail
    have q1 : (0 : Int) ≤ (n : Int) + 1 := by omega
    have q2 : (n : Int) + 1 ≤ (L.size : Int) := by omega
    have q3 : ((n : Int) + 1).toNat = n + 1 := by omega
    have q4 : n + 1 ≤ L.size := by omega
    have q5 : IntKind.i64.wrap ((n : Int) + 1) = (n : Int) + 1 := by rw [IntKind.wrap_i64]; omega
    go_quiet (first | (go_at_call 63; exact Calls.quiet_of_same (HC'.out _)))
    go_wp2_with fail
    simp (config := { zetaDelta := true }) only [Exit.noGoto_ret, Exit.inBlock, Exit.then]
    go_ret
    exact ⟨rfl, below_drew hbq _⟩

theorem index_far (r : Int) (w : World) (h : 128 ≤ r) (hv : Utf8.valid r = true) (hne : r ≠ 65533) :
    Calls Tryd.prog 58 #[.string letters, .int .i32 r] w fun e w' => e = .returned (.int .i64 (-1)) ∧ Below w.heap.size w w' := by
  obtain ⟨n, hn, hz, hb⟩ := enc_last r h hv
  have hvr : Lib.validRune r = true := by
    have := hv
    unfold Utf8.valid at this
    unfold Lib.validRune
    simp at this ⊢
    omega
  have hlt : n < (Utf8.encode r).size := by omega
  have hb' := hb hlt
  by_cases hL : n < letters.size
  · refine index_walk r (Utf8.encode r) letters n w h hne rfl (by omega) hz hlt hL ?_ (by omega) (Lib.hid ((Tryd.utf8_ValidRune r w).mono fun e w' ⟨h1, h2⟩ => ⟨by rw [h1, hvr], h2.symm⟩)) (Lib.hid fun w c hc hc' => (Tryd.strings_IndexByte _ c w).mono fun e w' ⟨h1, h2⟩ => ⟨by rw [h1, letters_none _ (by simp; omega)], h2⟩)
    have key : ∀ m : Fin 2, (letters[m.val]'(by rw [letters_size]; exact m.isLt)).toNat < 128 := by decide +kernel
    have := key ⟨n, by rw [letters_size] at hL; exact hL⟩
    simp only at this
    omega
  · exact index_walk0 r (Utf8.encode r) letters n w h hne rfl (by omega) hz hlt (by omega) (Lib.hid ((Tryd.utf8_ValidRune r w).mono fun e w' ⟨h1, h2⟩ => ⟨by rw [h1, hvr], h2.symm⟩))
/-- Is a character a line's end? -/
def endN (r : Nat) : Bool := r == 10 || r == 13
theorem index_any (r : Nat) (w : World) (hv : Utf8.valid (r : Int) = true) :
    Calls Tryd.prog 58 #[.string letters, .int .i32 (r : Int)] w fun e w' => (∃ i : Int, e = .returned (.int .i64 i) ∧ decide (0 ≤ i) = endN r) ∧ Below w.heap.size w w' := by
  by_cases h1 : (r : Int) < 128
  · refine (Tryd.strings_IndexRune_ascii letters (r : Int) w (by omega) h1).mono fun e w' ⟨a, b⟩ => ?_
    subst b
    refine ⟨⟨_, a, ?_⟩, Below.refl _ _⟩
    rw [letters_index (r : Int) (by omega) h1]
    unfold endN
    rw [Bool.eq_iff_iff]
    simp
    repeat' split
    all_goals omega
  · have hs : endN r = false := by
      unfold endN
      simp
      omega
    rw [hs]
    by_cases h2 : r = 65533
    · subst h2
      exact (index_err w).mono fun e w' ⟨a, b⟩ => ⟨⟨_, a, rfl⟩, b⟩
    · exact (index_far (r : Int) w (by omega) hv (by omega)).mono fun e w' ⟨a, b⟩ => ⟨⟨_, a, rfl⟩, b⟩

/-- Has a text a line's end, from a place on? -/
def endFrom (s : ByteArray) (p : Nat) : Bool := (s.data.toList.drop p).any fun c => c == 10 || c == 13
theorem endFrom_out (s : ByteArray) (p : Nat) (h : ¬ p < s.size) : endFrom s p = false := by
  unfold endFrom
  have := size_list s
  rw [List.drop_of_length_le (by omega)]
  rfl
theorem endFrom_byte (s : ByteArray) (p : Nat) (h : p < s.size) : endFrom s p = (endN (byt s p) || endFrom s (p + 1)) := by
  unfold endFrom
  have hz := size_list s
  have hp : p < s.data.toList.length := by omega
  rw [List.drop_eq_getElem_cons hp, List.any_cons]
  congr 1
  have e : byt s p = (s.data.toList[p]'hp).toNat := by rw [byt_list, List.getElem?_eq_getElem hp]; rfl
  rw [e]
  generalize s.data.toList[p]'hp = c
  unfold endN
  rw [Bool.eq_iff_iff]
  simp [← UInt8.toNat_inj]
theorem endFrom_tail {s : ByteArray} {p : Nat} (h : tailB s p = true) : endFrom s p = endFrom s (p + 1) := by
  have hb := tailB_bd h
  rw [endFrom_byte s p hb.1]
  have : endN (byt s p) = false := by unfold endN; simp; omega
  rw [this]
  rfl
theorem endFrom_step (s : ByteArray) (p : Nat) (h : p < s.size) : endFrom s p = (endN (Utf8.decode s p).1 || endFrom s (p + (Utf8.decode s p).2)) := by
  rw [endFrom_byte s p h]
  have hbig : ∀ r : Nat, 128 ≤ r → endN r = false := fun r hr => by unfold endN; simp; omega
  have hb : ¬ byt s p < 128 → endN (byt s p) = false := fun hx => hbig _ (by omega)
  rcases dec_cases s p with ⟨hl, hd⟩ | ⟨hl, hx, hd⟩ | ⟨hl, t1, hx, hd⟩ | ⟨hl, t1, t2, hx, hd⟩ | ⟨hl, t1, t2, t3, hx, _, hd⟩
  · have : ¬ byt s p < 128 := fun hx => by
      rw [lenB_1' s p hx] at hl
      cases hl
    rw [hd, hb this]
    rfl
  · rw [hd]
  · have : ¬ byt s p < 128 := fun hx => by rw [lenB_1' s p hx] at hl; cases hl
    rw [hb this, hbig _ (by omega), hd, endFrom_tail t1]
    rfl
  · have : ¬ byt s p < 128 := fun hx => by rw [lenB_1' s p hx] at hl; cases hl
    rw [hb this, hbig _ (by omega), hd, endFrom_tail t1, endFrom_tail t2]
    rfl
  · have : ¬ byt s p < 128 := fun hx => by rw [lenB_1' s p hx] at hl; cases hl
    rw [hb this, hbig _ (by omega), hd, endFrom_tail t1, endFrom_tail t2, endFrom_tail t3]
    rfl
/-- What the library's own word says. -/
theorem indexAny_end (l : List UInt8) : decide (0 ≤ Lib.indexAny l [10, 13]) = l.any fun c => c == 10 || c == 13 := by
  induction l with
  | nil => rfl
  | cons c l ih =>
    have hge := Lib.indexAny_ge [10, 13] l
    rw [List.any_cons, ← ih]
    have e : Lib.indexAny (c :: l) [10, 13] = if ([10, 13] : List UInt8).contains c then 0 else if Lib.indexAny l [10, 13] == -1 then -1 else Lib.indexAny l [10, 13] + 1 := rfl
    rw [e]
    by_cases hc : c = 10 ∨ c = 13
    · have h1 : ([10, 13] : List UInt8).contains c = true := by simpa using hc
      have h2 : (c == 10 || c == 13) = true := by simpa using hc
      rw [if_pos h1, h2]
      rfl
    · have h1 : ([10, 13] : List UInt8).contains c = false := by simpa using hc
      have h2 : (c == 10 || c == 13) = false := by simpa using hc
      rw [if_neg (by rw [h1]; decide), h2]
      by_cases h3 : Lib.indexAny l [10, 13] = -1
      · simp [h3]
      · rw [if_neg (by simpa using h3)]
        simp
        omega
theorem decode_valid' (s : ByteArray) (i : Nat) : Utf8.valid ((Utf8.decode s i).1 : Int) = true := by
  rw [decode_eq]
  have hb := byt_lt s i
  have h65 : Utf8.valid (((65533 : Nat)) : Int) = true := by decide
  by_cases c0 : byt s i < 128
  · rw [if_pos c0]
    simp [Utf8.valid]
    omega
  rw [if_neg c0]
  split
  · split
    · simp [Utf8.valid]
      omega
    · exact h65
  · split
    · split
      · rename_i h
        simp only [Bool.and_eq_true] at h
        exact h.2
      · exact h65
    · split
      · split
        · rename_i h
          simp only [Bool.and_eq_true] at h
          exact h.2
        · exact h65
      · exact h65
theorem hv116 : ∀ w, (zeroValue 87).run Tryd.prog w = .ok (.agg (Array.replicate 256 (.bool false))) w := fun w => by kernel_rfl

set_option maxHeartbeats 4000000 in
theorem indexAny_short (s : ByteArray) (w : World) (hs : s.size ≤ 8) :
    Calls Tryd.prog 56 #[.string s, .string letters] w fun e w' => (∃ i : Int, e = .returned (.int .i64 i) ∧ decide (0 ≤ i) = endFrom s 0) ∧ Below w.heap.size w w' := by
  have HL := Lib.hid letters_size
  have HI := Lib.hid index_any
  have hl2 : letters.size = 2 := HL.out
  generalize letters = L at *
  have l1 : ((L.size : Int) == 1) = false := by rw [hl2]; rfl
  have l3 : L.data.toList ≠ [] := by
    intro h
    rw [size_list, h] at hl2
    cases hl2
  have l4 : L.toList.isEmpty = false := by
    cases hx : L.toList with
    | nil => exfalso; rw [ByteArray.toList_eq] at hx; exact l3 hx
    | cons a b => rfl
  clear hl2
  go_enter Tryd.func56, Tryd.ntmps56
  go_wp2_with (go_at_call 59; refine (Tryd.strings_shouldUseASCIISet _ _).mono ?_; rintro e w1 ⟨rfl, rfl⟩)
  go_loopw [4, 9, 10] (fun _ _ _ wr => ∃ pos : Nat, pos ≤ s.size ∧ wr.heap[w1.heap.size]? = some (.stringIter s pos) ∧ Below w1.heap.size w1 wr ∧ endFrom s pos = endFrom s 0) (fun _ _ _ wr => s.size - wr.iterPos w1.heap.size)
  case atStart => exact ⟨0, Nat.zero_le _, World.iter_heap w1 s 0, (Below.refl _ w1).alloc (Nat.le_refl _) _, rfl⟩
  case round =>
    obtain ⟨pos, hle, hit, hbw, hnr⟩ := hrel
    have HR := Lib.hid hnr
    clear hnr
    have hsz : w1.heap.size < wr.heap.size := (Array.getElem?_eq_some_iff.1 hit).1
    by_cases hp : pos < s.size
    · have hin := decode_in s pos hp
      have hps := decode_pos s pos
      have hnx : ∀ ty, (Instr.next (.pointer (some ⟨w1.heap.size, 0, none⟩)) true ty).run Tryd.prog wr = _ := fun ty => Lib.run_next_any_at wr w1.heap.size s pos ty hit hp
      have hit2 := Lib.iterAt_heap wr w1.heap.size s pos (pos + (Utf8.decode s pos).2) hit
      have hbw2 := Lib.below_iterAt hbw (k := w1.heap.size) (Nat.le_refl _) s (pos + (Utf8.decode s pos).2)
      have hsz2 : (wr.iterAt w1.heap.size s (pos + (Utf8.decode s pos).2)).heap.size = wr.heap.size := Lib.iterAt_size _ _ _ _
      have hd0 := decode_le s pos
      have HE := Lib.hid (endFrom_step s pos hp)
      have HC := Lib.hid (HI.out (Utf8.decode s pos).1 (wr.iterAt w1.heap.size s (pos + (Utf8.decode s pos).2)) (decode_valid' s pos))
      generalize hd : (Utf8.decode s pos).1 = d at *
      generalize hwd : (Utf8.decode s pos).2 = wd at *
      generalize hW : wr.iterAt w1.heap.size s (pos + wd) = W at *
      have HIT := Lib.hid hit
      clear hd hwd hit hW
      have HZ := Lib.hid hsz2
      clear hsz2
      have HK : Hid (∀ W2 : World, Below W.heap.size W W2 → W2.heap[w1.heap.size]? = some (.stringIter s (pos + wd)) ∧ Below w1.heap.size w1 W2) := Lib.hid fun W2 hb =>
        ⟨(hb.block _ (by rw [HZ.out]; exact hsz)).trans hit2, hbw2.call hb⟩
      have HM : Hid (∀ W2 : World, W2.heap[w1.heap.size]? = some (.stringIter s (pos + wd)) → W2.iterPos w1.heap.size = pos + wd) := Lib.hid fun W2 hb => by simp [World.iterPos, hb]
      clear hit2 hbw2
      go_wp2_with fail
      refine HC.out.mono ?_
      rintro e w2 ⟨⟨i, rfl, hi⟩, hb2⟩
      have HI2 := Lib.hid hi
      have hk := HK.out w2 hb2
      have HK2 := Lib.hid hk
      clear hi hk hb2
      by_cases h0 : 0 ≤ i
      · have HF : Hid (endFrom s 0 = true) := Lib.hid (by rw [← HR.out, HE.out, ← HI2.out]; simp [h0])
        go_wp2_with fail
        go_ret
        exact ⟨⟨_, rfl, by rw [HF.out]; simp⟩, HK2.out.2⟩
      · have h0' : i < 0 := by omega
        have HF : Hid (endFrom s (pos + wd) = endFrom s 0) := Lib.hid (by rw [← HR.out, HE.out, ← HI2.out]; simp only [h0, decide_false, Bool.false_or])
        go_wp2_with fail
        go_roundw
        case rel => exact ⟨pos + wd, hin, HK2.out.1, HK2.out.2, HF.out⟩
        case measure => rw [HM.out _ HK2.out.1]; simp only [World.iterPos, HIT.out]; omega
    · have HE := Lib.hid (endFrom_out s pos hp)
      have hnx : ∀ ty, (Instr.next (.pointer (some ⟨w1.heap.size, 0, none⟩)) true ty).run Tryd.prog wr = _ := fun ty => Lib.run_next_end_at wr w1.heap.size s pos ty hit hp
      go_wp2_with fail
      go_ret
      exact ⟨⟨_, rfl, by rw [← HR.out, HE.out]; rfl⟩, hbw⟩

/-- strings.ContainsAny AT A LINE's TWO ENDS: of every text. -/
theorem containsEnd_any (s : ByteArray) (w : World) (hs : s.size < 4294967281) :
    Calls Tryd.prog 54 #[.string s, .string ⟨#[10, 13]⟩] w fun e w' => e = .returned (.bool (endFrom s 0)) ∧ Below w.heap.size w w' := by
  have HC : Hid (Calls Tryd.prog 56 #[.string s, .string ⟨#[10, 13]⟩] w fun e w' => (∃ i : Int, e = .returned (.int .i64 i) ∧ decide (0 ≤ i) = endFrom s 0) ∧ Below w.heap.size w w') := Lib.hid (by
    by_cases h8 : s.size ≤ 8
    · exact indexAny_short s w h8
    · refine (Tryd.strings_IndexAny_long hv116 s letters w (by decide) (by omega) hs (by decide) (fun j b hj => ?_)).mono fun e w' ⟨a, b⟩ => ?_
      · have hm := List.mem_of_getElem? hj
        have e : letters.data.toList = [10, 13] := rfl
        rw [e] at hm
        simp at hm
        rcases hm with rfl | rfl <;> decide
      · subst b
        refine ⟨⟨_, a, ?_⟩, ((Below.refl _ w).alloc (Nat.le_refl _) _).alloc (by simp) _⟩
        have e : letters.data.toList = [10, 13] := rfl
        rw [e, indexAny_end]
        unfold endFrom
        rw [List.drop_zero])
  generalize endFrom s 0 = b at *
  go_enter Tryd.func54, Tryd.ntmps54
  go_wp2_with (go_at_call 56; refine HC.out.mono ?_; rintro e w1 ⟨⟨i, rfl, hi⟩, hb1⟩; have HI := Lib.hid hi; clear hi)
  go_ret
  exact ⟨ret_bool HI.out, hb1⟩
end Go.Proofs.YtaojlnibkajfbaaDoor
