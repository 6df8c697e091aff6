/- The walks of Valid, the program's and the reference's. Where utf8.DecodeRuneInString is called its two tables must read as the library's text lays them. -/
import Derived.Test.YtaojlnibkajfbaaDoorUniPlain2
import Derived.Test.YtaojlnibkajfbaaDoorRefUtf
import Derived.Test.YtaojlnibkajfbaaDoorTabs
import Derived.WalkMore
import Derived.Lib.OthersKept
namespace Go.Proofs.YtaojlnibkajfbaaDoor
open Go.RowKit
set_option maxRecDepth 100000
set_option linter.unusedVariables false

theorem ret_two {a b : Int} {k : IntKind} {a' b' : Int} (h : a = a') (h' : b = b') : Ending.returned (.tuple #[.int k a, .int k b]) = .returned (.tuple #[.int k a', .int k b']) := by rw [h, h']

set_option maxHeartbeats 4000000 in
theorem valid_any (s : ByteArray) (w : World) (hs : s.size ≤ 2305843009213693952) (hT : Tabs w) :
    Calls Tryd.prog 26 #[.string s] w fun e w' => e = .returned (.tuple #[.int .i64 (validPos s), .int .i64 (validCode s)]) ∧ Below w.heap.size w w' := by
  have HT := Lib.hid hT
  clear hT
  go_enter Tryd.func26, Tryd.ntmps26
  go_wp2
  go_loopw [2, 3, 6, 7] (fun _ _ _ _ wr => ∃ pos : Nat, pos ≤ s.size ∧ wr.heap[w.heap.size]? = some (.stringIter s pos) ∧ Below w.heap.size w wr ∧ badRest s pos = badRest s 0) (fun _ _ _ _ wr => s.size - wr.iterPos w.heap.size)
  case atStart => exact ⟨0, Nat.zero_le _, World.iter_heap w s 0, (Below.refl _ w).alloc (Nat.le_refl _) _, rfl⟩
  case round =>
    obtain ⟨pos, hle, hit, hbw, hnr⟩ := hrel
    have HR := Lib.hid hnr
    clear hnr
    have hsz : w.heap.size < wr.heap.size := (Array.getElem?_eq_some_iff.1 hit).1
    by_cases hp : pos < s.size
    · have hin := decode_in s pos hp
      have hps := decode_pos s pos
      have hnx : ∀ ty, (Instr.next (.pointer (some ⟨w.heap.size, 0, none⟩)) true ty).run Tryd.prog wr = _ := fun ty => Lib.run_next_any_at wr w.heap.size s pos ty hit hp
      have hit2 := Lib.iterAt_heap wr w.heap.size s pos (pos + (Utf8.decode s pos).2) hit
      have hbw2 := Lib.below_iterAt hbw (k := w.heap.size) (Nat.le_refl _) s (pos + (Utf8.decode s pos).2)
      have hsz2 : (wr.iterAt w.heap.size s (pos + (Utf8.decode s pos).2)).heap.size = wr.heap.size := Lib.iterAt_size _ _ _ _
      have hd0 := decode_le s pos
      have HB := Lib.hid (bad_iff s pos)
      have HS1 := Lib.hid (badRest_bad s pos hp)
      have HS2 := Lib.hid (badRest_step s pos hp)
      have HDR := Lib.hid (decodeRune_rest s pos hp (wr.iterAt w.heap.size s (pos + (Utf8.decode s pos).2)) (HT.out.below hbw2))
      generalize hd : (Utf8.decode s pos).1 = d at *
      generalize hwd : (Utf8.decode s pos).2 = wd at *
      generalize hW : wr.iterAt w.heap.size s (pos + wd) = W at *
      have HIT := Lib.hid hit
      clear hd hwd hit hW
      have HZ := Lib.hid hsz2
      clear hsz2
      have HK : Hid (∀ W2 : World, Below W.heap.size W W2 → W2.heap[w.heap.size]? = some (.stringIter s (pos + wd)) ∧ Below w.heap.size w W2) := Lib.hid fun W2 hb =>
        ⟨(hb.block _ (by rw [HZ.out]; exact hsz)).trans hit2, hbw2.call hb⟩
      have HM : Hid (∀ W2 : World, W2.heap[w.heap.size]? = some (.stringIter s (pos + wd)) → W2.iterPos w.heap.size = pos + wd) := Lib.hid fun W2 hb => by simp [World.iterPos, hb]
      have HI2 := Lib.hid hit2
      clear hit2
      cases he : ((d : Int) == 65533)
      · have HN : Hid (lenB s pos ≠ 0) := Lib.hid fun h => by
          have := (HB.out.1 h).1
          subst this
          simp at he
        go_wp2_with fail
        go_roundw
        case rel => exact ⟨pos + wd, hin, HI2.out, hbw2, by rw [← HR.out, HS2.out HN.out]⟩
        case measure => rw [HM.out _ HI2.out]; simp only [World.iterPos, HIT.out]; omega
      · have hd : (d : Int) = 65533 := by simpa using he
        cases h1 : ((wd : Int) == 1)
        · have HN : Hid (lenB s pos ≠ 0) := Lib.hid fun h => by
            have := (HB.out.1 h).2
            subst this
            simp at h1
          clear hd
          go_wp2_with (go_at_call 43; refine HDR.out.mono ?_; rintro e w1 ⟨rfl, hb1⟩)
          go_roundw
          case rel => exact ⟨pos + wd, hin, (HK.out _ hb1).1, (HK.out _ hb1).2, by rw [← HR.out, HS2.out HN.out]⟩
          case measure => rw [HM.out _ (HK.out _ hb1).1]; simp only [World.iterPos, HIT.out]; omega
        · have HN : Hid (badRest s 0 = some pos) := Lib.hid (by
            have h1' : (wd : Int) = 1 := by simpa using h1
            rw [← HR.out]
            exact HS1.out (HB.out.2 ⟨by omega, by omega⟩))
          clear hd
          go_wp2_with (go_at_call 43; refine HDR.out.mono ?_; rintro e w1 ⟨rfl, hb1⟩)
          go_ret2
          exact ⟨ret_two (valid_some HN.out).1.symm (valid_some HN.out).2.symm, (HK.out _ hb1).2⟩
    · have HE := Lib.hid (badRest_end s pos hp)
      have hnx : ∀ ty, (Instr.next (.pointer (some ⟨w.heap.size, 0, none⟩)) true ty).run Tryd.prog wr = _ := fun ty => Lib.run_next_end_at wr w.heap.size s pos ty hit hp
      go_wp2
      go_ret2
      have h0 : badRest s 0 = Option.none := by rw [← HR.out, HE.out]
      exact ⟨ret_two (valid_none h0).1.symm (valid_none h0).2.symm, hbw⟩

set_option maxHeartbeats 4000000 in
theorem refValid_any (s : ByteArray) (w : World) (hs : s.size ≤ 2305843009213693952) :
    Calls Tryd.prog 55 #[.string s] w fun e w' => e = .returned (.tuple #[.int .i64 (validPos s), .int .i64 (validCode s)]) ∧ Below w.heap.size w w' := by
  go_enter Tryd.func55, Tryd.ntmps55
  go_wp2
  go_loop [2, 3, 4] (fun _ _ i => ∃ pos : Nat, pos ≤ s.size ∧ i = .int .i64 (pos : Int) ∧ badRest s pos = badRest s 0) (fun _ _ i => s.size - (intOf i).toNat)
  case atStart => exact ⟨0, Nat.zero_le _, rfl, rfl⟩
  case round =>
    obtain ⟨pos, hle, rfl, hnr⟩ := hrel
    have HR := Lib.hid hnr
    clear hnr
    by_cases hp : pos < s.size
    · have hin := decode_in s pos hp
      have hps := decode_pos s pos
      have HD2 := Lib.hid (decode_two s pos)
      have HS1 := Lib.hid (badRest_bad s pos hp)
      have HS2 := Lib.hid (badRest_step s pos hp)
      have HL := Lib.hid (length_any s pos w (by omega) hp)
      have hl4 := lenB_le s pos
      generalize hl : lenB s pos = l at *
      clear hl
      cases h0 : ((l : Int) == 0)
      · have hl0 : l ≠ 0 := by rintro rfl; simp at h0
        have hdl : (Utf8.decode s pos).2 = l := by rw [HD2.out, if_neg hl0]
        have HN : Hid (badRest s pos = badRest s (pos + l)) := Lib.hid (by rw [HS2.out hl0, hdl])
        rw [hdl] at hin hps
        clear hdl
        go_wp2_with (go_at_call 57; refine HL.out.mono ?_; rintro e w1 ⟨rfl, rfl⟩)
        go_round
        case rel => exact ⟨pos + l, hin, by go_num, by rw [← HR.out, HN.out]⟩
        case measure => simp [intOf]; omega
      · have HN : Hid (badRest s 0 = some pos) := Lib.hid (by
          have h1' : (l : Int) = 0 := by simpa using h0
          rw [← HR.out]
          exact HS1.out (by omega))
        go_wp2_with (go_at_call 57; refine HL.out.mono ?_; rintro e w1 ⟨rfl, rfl⟩)
        go_ret2
        exact ⟨ret_two (valid_some HN.out).1.symm (valid_some HN.out).2.symm, Below.refl _ w⟩
    · have HE := Lib.hid (badRest_end s pos hp)
      go_wp2
      go_ret2
      have h0 : badRest s 0 = Option.none := by rw [← HR.out, HE.out]
      exact ⟨ret_two (valid_none h0).1.symm (valid_none h0).2.symm, Below.refl _ w⟩
end Go.Proofs.YtaojlnibkajfbaaDoor
