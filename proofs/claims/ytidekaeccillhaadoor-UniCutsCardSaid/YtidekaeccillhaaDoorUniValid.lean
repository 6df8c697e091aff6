/- The walks of Valid, the program's and the reference's, of Num and of chapter 1's awake. Where utf8.DecodeRuneInString is called its two tables must read as the library's text lays them. -/
import Derived.Test.YtidekaeccillhaaDoorUniWalks2
import Derived.Test.YtidekaeccillhaaDoorUtfCut
import Derived.Test.YtidekaeccillhaaDoorShelf
namespace Go.Proofs.YtidekaeccillhaaDoor
open Go.RowKit
set_option maxRecDepth 100000
set_option linter.unusedVariables false

/-- The library's two tables, in this program's blocks. -/
def Tabs (w : World) : Prop := Lib.Utf8Tabs 0 1 w ∧ 1 < w.heap.size
theorem Tabs.of {w : World} (h : Lib.Utf8Tabs 0 1 w) : Tabs w := by
  refine ⟨h, ?_⟩
  have h1 := World.block_lt_of_cell? w _ (h.1 0 (by decide))
  have h2 := World.block_lt_of_cell? w _ (h.2 0 (by decide)).1
  simp at h1 h2
  omega
theorem Tabs.below {w w' : World} (h : Tabs w) (hb : Below w.heap.size w w') : Tabs w' := by
  have hz := h.2
  refine ⟨⟨fun c hc => (hb.cell (p := ⟨0, c, none⟩) (by simp; omega)).trans (h.1.1 c hc), fun i hi => ⟨(hb.cell (p := ⟨1, 2 * i, none⟩) (by simp; omega)).trans (h.1.2 i hi).1, (hb.cell (p := ⟨1, 2 * i + 1, none⟩) (by simp; omega)).trans (h.1.2 i hi).2⟩⟩, Nat.lt_of_lt_of_le hz hb.size⟩

theorem decodeGo_rest (s : ByteArray) (p : Nat) (h : p < s.size) : Lib.decodeGo (s.extract p s.size) = Utf8.decode s p := by
  unfold Lib.decodeGo
  rw [size_rest, if_neg (by omega), (char_rest s p 0).1, Nat.add_zero]
theorem decodeRune_rest (s : ByteArray) (p : Nat) (h : p < s.size) (w : World) (hT : Tabs w) :
    Calls Tryd.prog 28 #[.string (s.extract p s.size)] w fun e w' => e = .returned (.tuple #[.int .i32 (Utf8.decode s p).1, .int .i64 (Utf8.decode s p).2]) ∧ Below w.heap.size w w' := by
  have h1 := Tryd.utf8_DecodeRuneInString (s.extract p s.size) w hT.1
  rw [decodeGo_rest s p h] at h1
  exact h1

theorem num_any (n : Int) (w : World) :
    Calls Tryd.prog 13 #[.int .i64 n] w fun e w' => e = .returned (.int .i64 n) ∧ w = w' := by
  go_enter Tryd.func13, Tryd.ntmps13
  go_wp2
  go_ret
  exact ⟨rfl, rfl⟩

set_option maxHeartbeats 4000000 in
theorem valid_any (s : ByteArray) (w : World) (hs : s.size ≤ 2305843009213693952) (hT : Tabs w) :
    Calls Tryd.prog 11 #[.string s] w fun e w' => e = .returned (.tuple #[.int .i64 (validPos s), .int .i64 (validCode s)]) ∧ Below w.heap.size w w' := by
  have HT := Lib.hid hT
  clear hT
  go_enter Tryd.func11, Tryd.ntmps11
  go_wp2
  go_loopw [2, 3, 6, 7] (fun _ _ _ _ wr => ∃ pos : Nat, pos ≤ s.size ∧ wr.heap[w.heap.size]? = some (.stringIter s pos) ∧ Below w.heap.size w wr ∧ badRest s pos = badRest s 0) (fun _ _ _ _ wr => s.size - wr.iterPos w.heap.size)
  case atStart => exact ⟨0, Nat.zero_le _, World.iter_heap w s 0, (Below.refl _ w).alloc (Nat.le_refl _) _, rfl⟩
  case round =>
    obtain ⟨pos, hle, hit, hbw, hnr⟩ := hrel
    have HR := Lib.hid hnr
    clear hnr
    have hsz : w.heap.size < wr.heap.size := (Array.getElem?_eq_some_iff.1 hit).1
    by_cases hp : pos < s.size
    · have hin := decode_in s pos hp
      have hps := decode_pos s pos
      have hnx : ∀ ty, (Instr.next (.pointer (some ⟨w.heap.size, 0, none⟩)) true ty).run Tryd.prog wr = _ := fun ty => Lib.run_next_any_at wr w.heap.size s pos ty hit hp
      have hit2 := Lib.iterAt_heap wr w.heap.size s pos (pos + (Utf8.decode s pos).2) hit
      have hbw2 := Lib.below_iterAt hbw (k := w.heap.size) (Nat.le_refl _) s (pos + (Utf8.decode s pos).2)
      have hsz2 : (wr.iterAt w.heap.size s (pos + (Utf8.decode s pos).2)).heap.size = wr.heap.size := Lib.iterAt_size _ _ _ _
      have hd0 := decode_le s pos
      have HB := Lib.hid (bad_iff s pos)
      have HS1 := Lib.hid (badRest_bad s pos hp)
      have HS2 := Lib.hid (badRest_step s pos hp)
      have HDR := Lib.hid (decodeRune_rest s pos hp (wr.iterAt w.heap.size s (pos + (Utf8.decode s pos).2)) (HT.out.below hbw2))
      generalize hd : (Utf8.decode s pos).1 = d at *
      generalize hwd : (Utf8.decode s pos).2 = wd at *
      generalize hW : wr.iterAt w.heap.size s (pos + wd) = W at *
      have HIT := Lib.hid hit
      clear hd hwd hit hW
      have HZ := Lib.hid hsz2
      clear hsz2
      have HK : Hid (∀ W2 : World, Below W.heap.size W W2 → W2.heap[w.heap.size]? = some (.stringIter s (pos + wd)) ∧ Below w.heap.size w W2) := Lib.hid fun W2 hb =>
        ⟨(hb.block _ (by rw [HZ.out]; exact hsz)).trans hit2, hbw2.call hb⟩
      have HM : Hid (∀ W2 : World, W2.heap[w.heap.size]? = some (.stringIter s (pos + wd)) → W2.iterPos w.heap.size = pos + wd) := Lib.hid fun W2 hb => by simp [World.iterPos, hb]
      have HI2 := Lib.hid hit2
      clear hit2
      cases he : ((d : Int) == 65533)
      · have HN : Hid (lenB s pos ≠ 0) := Lib.hid fun h => by
          have := (HB.out.1 h).1
          subst this
          simp at he
        go_wp2_with fail
        go_roundw
        case rel => exact ⟨pos + wd, hin, HI2.out, hbw2, by rw [← HR.out, HS2.out HN.out]⟩
        case measure => rw [HM.out _ HI2.out]; simp only [World.iterPos, HIT.out]; omega
      · have hd : (d : Int) = 65533 := by simpa using he
        cases h1 : ((wd : Int) == 1)
        · have HN : Hid (lenB s pos ≠ 0) := Lib.hid fun h => by
            have := (HB.out.1 h).2
            subst this
            simp at h1
          clear hd
          go_wp2_with (go_at_call 28; refine HDR.out.mono ?_; rintro e w1 ⟨rfl, hb1⟩)
          go_roundw
          case rel => exact ⟨pos + wd, hin, (HK.out _ hb1).1, (HK.out _ hb1).2, by rw [← HR.out, HS2.out HN.out]⟩
          case measure => rw [HM.out _ (HK.out _ hb1).1]; simp only [World.iterPos, HIT.out]; omega
        · have HN : Hid (badRest s 0 = some pos) := Lib.hid (by
            have h1' : (wd : Int) = 1 := by simpa using h1
            rw [← HR.out]
            exact HS1.out (HB.out.2 ⟨by omega, by omega⟩))
          clear hd
          go_wp2_with (go_at_call 28; refine HDR.out.mono ?_; rintro e w1 ⟨rfl, hb1⟩)
          go_ret2
          exact ⟨ret_two (valid_some HN.out).1.symm (valid_some HN.out).2.symm, (HK.out _ hb1).2⟩
    · have HE := Lib.hid (badRest_end s pos hp)
      have hnx : ∀ ty, (Instr.next (.pointer (some ⟨w.heap.size, 0, none⟩)) true ty).run Tryd.prog wr = _ := fun ty => Lib.run_next_end_at wr w.heap.size s pos ty hit hp
      go_wp2
      go_ret2
      have h0 : badRest s 0 = Option.none := by rw [← HR.out, HE.out]
      exact ⟨ret_two (valid_none h0).1.symm (valid_none h0).2.symm, hbw⟩

set_option maxHeartbeats 4000000 in
theorem refValid_any (s : ByteArray) (w : World) (hs : s.size ≤ 2305843009213693952) :
    Calls Tryd.prog 12 #[.string s] w fun e w' => e = .returned (.tuple #[.int .i64 (validPos s), .int .i64 (validCode s)]) ∧ Below w.heap.size w w' := by
  go_enter Tryd.func12, Tryd.ntmps12
  go_wp2
  go_loop [2, 3, 4] (fun _ _ i => ∃ pos : Nat, pos ≤ s.size ∧ i = .int .i64 (pos : Int) ∧ badRest s pos = badRest s 0) (fun _ _ i => s.size - (intOf i).toNat)
  case atStart => exact ⟨0, Nat.zero_le _, rfl, rfl⟩
  case round =>
    obtain ⟨pos, hle, rfl, hnr⟩ := hrel
    have HR := Lib.hid hnr
    clear hnr
    by_cases hp : pos < s.size
    · have hin := decode_in s pos hp
      have hps := decode_pos s pos
      have HD2 := Lib.hid (decode_two s pos)
      have HS1 := Lib.hid (badRest_bad s pos hp)
      have HS2 := Lib.hid (badRest_step s pos hp)
      have HL := Lib.hid (length_any s pos w (by omega) hp)
      have hl4 := lenB_le s pos
      generalize hl : lenB s pos = l at *
      clear hl
      cases h0 : ((l : Int) == 0)
      · have hl0 : l ≠ 0 := by rintro rfl; simp at h0
        have hdl : (Utf8.decode s pos).2 = l := by rw [HD2.out, if_neg hl0]
        have HN : Hid (badRest s pos = badRest s (pos + l)) := Lib.hid (by rw [HS2.out hl0, hdl])
        rw [hdl] at hin hps
        clear hdl
        go_wp2_with (go_at_call 29; refine HL.out.mono ?_; rintro e w1 ⟨rfl, rfl⟩)
        go_round
        case rel => exact ⟨pos + l, hin, by go_num, by rw [← HR.out, HN.out]⟩
        case measure => simp [intOf]; omega
      · have HN : Hid (badRest s 0 = some pos) := Lib.hid (by
          have h1' : (l : Int) = 0 := by simpa using h0
          rw [← HR.out]
          exact HS1.out (by omega))
        go_wp2_with (go_at_call 29; refine HL.out.mono ?_; rintro e w1 ⟨rfl, rfl⟩)
        go_ret2
        exact ⟨ret_two (valid_some HN.out).1.symm (valid_some HN.out).2.symm, Below.refl _ w⟩
    · have HE := Lib.hid (badRest_end s pos hp)
      go_wp2
      go_ret2
      have h0 : badRest s 0 = Option.none := by rw [← HR.out, HE.out]
      exact ⟨ret_two (valid_none h0).1.symm (valid_none h0).2.symm, Below.refl _ w⟩

theorem valid_is (s : ByteArray) {p c : Int} (w : World) (hs : s.size ≤ 2305843009213693952) (hT : Tabs w) (h : validPos s = p ∧ validCode s = c) :
    Calls Tryd.prog 11 #[.string s] w fun e w' => e = .returned (.tuple #[.int .i64 p, .int .i64 c]) ∧ Below w.heap.size w w' := by
  obtain ⟨rfl, rfl⟩ := h
  exact valid_any s w hs hT
theorem start_is (r : Int) {b : Bool} (w : World) (h : startB r = b) : Calls Tryd.prog 15 #[.int .i64 r] w fun e w' => e = .returned (.bool b) ∧ Below w.heap.size w w' := by
  subst h
  exact start_any r w
theorem part_is (r : Int) {b : Bool} (w : World) (h : partB r = b) : Calls Tryd.prog 17 #[.int .i64 r] w fun e w' => e = .returned (.bool b) ∧ Below w.heap.size w w' := by
  subst h
  exact part_any r w
theorem ends_is (r : Int) {b : Bool} (w : World) (h : endsB r = b) : Calls Tryd.prog 19 #[.int .i64 r] w fun e w' => e = .returned (.bool b) ∧ Below w.heap.size w w' := by
  subst h
  exact ends_any r w
theorem blank_is (r : Int) {b : Bool} (w : World) (h : blankB r = b) : Calls Tryd.prog 21 #[.int .i64 r] w fun e w' => e = .returned (.bool b) ∧ Below w.heap.size w w' := by
  subst h
  exact blank_any r w
theorem width_is (s : ByteArray) {n : Int} (w : World) (hs : s.size ≤ 2305843009213693952) (h : ((widthB s : Nat) : Int) = n) : Calls Tryd.prog 23 #[.string s] w fun e w' => e = .returned (.int .i64 n) ∧ Below w.heap.size w w' := by
  subst h
  exact width_any s w hs

set_option maxHeartbeats 4000000 in
theorem awake1_any (w : World) (hT : Tabs w) : Calls Tryd.prog 14 #[] w fun e w' => e = .returned (.bool true) ∧ Below w.heap.size w w' := by
  have HT := Lib.hid hT
  clear hT
  go_enter Tryd.func14, Tryd.ntmps14
  go_wp2_with fail
  refine (valid_is ⟨#[97, 255]⟩ (p := 1) (c := 100) w (by decide) HT.out ⟨by kernel_rfl, by kernel_rfl⟩).mono ?_
  rintro e w1 ⟨rfl, hb1⟩
  go_wp2_with fail
  refine (num_any 100 w1).mono ?_
  rintro e w2 ⟨rfl, rfl⟩
  go_wp2_with fail
  refine (start_is 36 (b := true) w1 (by decide)).mono ?_
  rintro e w2 ⟨rfl, hb2⟩
  go_wp2_with fail
  refine (start_is 49 (b := false) w2 (by decide)).mono ?_
  rintro e w3 ⟨rfl, hb3⟩
  go_wp2_with fail
  refine (part_is 49 (b := true) w3 (by decide)).mono ?_
  rintro e w4 ⟨rfl, hb4⟩
  go_wp2_with fail
  refine (ends_is 10 (b := true) w4 (by decide)).mono ?_
  rintro e w5 ⟨rfl, hb5⟩
  go_wp2_with fail
  refine (blank_is 9 (b := true) w5 (by decide)).mono ?_
  rintro e w6 ⟨rfl, hb6⟩
  go_wp2_with fail
  refine (width_is ⟨#[97, 230, 151, 165]⟩ (n := 3) w6 (by decide) (by kernel_rfl)).mono ?_
  rintro e w7 ⟨rfl, hb7⟩
  go_wp2_with fail
  go_ret
  exact ⟨rfl, ((((((hb1.call hb2).call hb3).call hb4).call hb5).call hb6).call hb7)⟩
end Go.Proofs.YtidekaeccillhaaDoor
