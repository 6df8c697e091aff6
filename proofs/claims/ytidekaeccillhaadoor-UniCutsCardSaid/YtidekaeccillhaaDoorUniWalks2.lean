/- The walks of package uni, the second part: Ends, Blank, wide, Width; and the reference's. -/
import Derived.Test.YtidekaeccillhaaDoorUniWalks
import Derived.Test.YtidekaeccillhaaDoorRefUni
import Derived.Test.YtidekaeccillhaaDoorRefRune
import Derived.Test.YtidekaeccillhaaDoorUniPlain2
import Derived.Lib.OthersKept
namespace Go.Proofs.YtidekaeccillhaaDoor
open Go.RowKit
set_option maxRecDepth 100000
set_option linter.unusedVariables false

theorem ends_any (r : Int) (w : World) :
    Calls Tryd.prog 19 #[.int .i64 r] w fun e w' => e = .returned (.bool (endsB r)) ∧ Below w.heap.size w w' := by
  go_enter Tryd.func19, Tryd.ntmps19
  go_wp2_with (go_at_call 30; refine (one_any r w.heap.size 4 4 [0xa, 0xd, 0x2028, 0x2029] _ rfl (by decide) (by exact cells_new _ _ [0xa, 0xd, 0x2028, 0x2029])).mono ?_; rintro e w1 ⟨rfl, hb1⟩)
  go_ret
  exact ⟨rfl, (Below.refl _ w).ac hb1⟩

theorem blank_any (r : Int) (w : World) :
    Calls Tryd.prog 21 #[.int .i64 r] w fun e w' => e = .returned (.bool (blankB r)) ∧ Below w.heap.size w w' := by
  have HS : Hid (blankB r = (oneB r [0x9, 0xb, 0xc, 0x20, 0xa0, 0x1680, 0x202f, 0x205f, 0x3000, 0xfeff] || inB r [0x2000, 0x200a])) := Lib.hid rfl
  cases hq : oneB r [0x9, 0xb, 0xc, 0x20, 0xa0, 0x1680, 0x202f, 0x205f, 0x3000, 0xfeff]
  · go_enter Tryd.func21, Tryd.ntmps21
    go_wp2_with (first
      | (go_at_call 30; refine (one_any r w.heap.size 10 10 [0x9, 0xb, 0xc, 0x20, 0xa0, 0x1680, 0x202f, 0x205f, 0x3000, 0xfeff] _ rfl (by decide) (by exact cells_new _ _ [0x9, 0xb, 0xc, 0x20, 0xa0, 0x1680, 0x202f, 0x205f, 0x3000, 0xfeff])).mono ?_; rintro e w1 ⟨rfl, hb1⟩)
      | (go_at_call 31; refine (in_any r w1.heap.size 2 2 [0x2000, 0x200a] _ rfl (by decide) (by exact cells_new _ _ [0x2000, 0x200a])).mono ?_; rintro e w2 ⟨rfl, hb2⟩))
    go_ret
    exact ⟨ret_bool (by rw [HS.out, hq]; rfl), ((Below.refl _ w).ac hb1).ac hb2⟩
  · go_enter Tryd.func21, Tryd.ntmps21
    go_wp2_with (go_at_call 30; refine (one_any r w.heap.size 10 10 [0x9, 0xb, 0xc, 0x20, 0xa0, 0x1680, 0x202f, 0x205f, 0x3000, 0xfeff] _ rfl (by decide) (by exact cells_new _ _ [0x9, 0xb, 0xc, 0x20, 0xa0, 0x1680, 0x202f, 0x205f, 0x3000, 0xfeff])).mono ?_; rintro e w1 ⟨rfl, hb1⟩)
    go_ret
    exact ⟨ret_bool (by rw [HS.out, hq]; rfl), (Below.refl _ w).ac hb1⟩

theorem refEnds_any (r : Int) (w : World) :
    Calls Tryd.prog 20 #[.int .i64 r] w fun e w' => e = .returned (.bool (endsB r)) ∧ w = w' := by
  have HS := Lib.hid (refEnds_eq r)
  cases h1 : (r == 10)
  · cases h2 : (r == 13)
    · cases h3 : (r == 8232)
      · go_enter Tryd.func20, Tryd.ntmps20
        go_wp2_with fail
        go_ret
        exact ⟨ret_bool (by rw [← HS.out, h1, h2, h3]; rfl), rfl⟩
      · go_enter Tryd.func20, Tryd.ntmps20
        go_wp2_with fail
        go_ret
        exact ⟨ret_bool (by rw [← HS.out, h1, h2, h3]; rfl), rfl⟩
    · go_enter Tryd.func20, Tryd.ntmps20
      go_wp2_with fail
      go_ret
      exact ⟨ret_bool (by rw [← HS.out, h1, h2]; rfl), rfl⟩
  · go_enter Tryd.func20, Tryd.ntmps20
    go_wp2_with fail
    go_ret
    exact ⟨ret_bool (by rw [← HS.out, h1]; rfl), rfl⟩

theorem refBlank_any (r : Int) (w : World) :
    Calls Tryd.prog 22 #[.int .i64 r] w fun e w' => e = .returned (.bool (blankB r)) ∧ Below w.heap.size w w' := by
  have HS := Lib.hid (refBlank_eq r)
  go_enter Tryd.func22, Tryd.ntmps22
  go_wp2_with (go_at_call 32; refine (within_any r w.heap.size 20 20 refBlankRows _ rfl (by decide) (by exact cells_new _ _ refBlankRows)).mono ?_; rintro e w1 ⟨rfl, hb1⟩)
  go_ret
  exact ⟨ret_bool HS.out, (Below.refl _ w).ac hb1⟩

theorem wide_any (r : Int) (w : World) :
    Calls Tryd.prog 33 #[.int .i64 r] w fun e w' => e = .returned (.bool (wideB r)) ∧ Below w.heap.size w w' := by
  by_cases h : (0x1100 : Int) ≤ r
  · have HS : Hid (wideB r = inB r wideRows) := Lib.hid (wideB_in r).symm
    go_enter Tryd.func33, Tryd.ntmps33
    go_wp2_with (go_at_call 31; refine (in_any r w.heap.size 28 28 wideRows _ rfl (by decide) (by exact cells_new _ _ wideRows)).mono ?_; rintro e w1 ⟨rfl, hb1⟩)
    go_ret
    exact ⟨ret_bool HS.out.symm, (Below.refl _ w).ac hb1⟩
  · have HS : Hid (wideB r = false) := Lib.hid (by unfold wideB; simp [h])
    go_enter Tryd.func33, Tryd.ntmps33
    go_wp2_with fail
    go_ret
    exact ⟨ret_bool HS.out.symm, Below.refl _ w⟩

theorem cols_wide {r : Int} (h : wideB r = true) : colsB r = 2 := by unfold colsB; rw [if_pos h]
theorem cols_one {r : Int} (h : wideB r = false) : colsB r = 1 := by unfold colsB; rw [if_neg (by rw [h]; decide)]

set_option maxHeartbeats 4000000 in
theorem width_any (s : ByteArray) (w : World) (hs : s.size ≤ 2305843009213693952) :
    Calls Tryd.prog 23 #[.string s] w fun e w' => e = .returned (.int .i64 (widthB s : Nat)) ∧ Below w.heap.size w w' := by
  go_enter Tryd.func23, Tryd.ntmps23
  go_wp2
  go_loopw [3] (fun n wr => ∃ (pos c : Nat), pos ≤ s.size ∧ c ≤ 2 * pos ∧ n = .int .i64 (c : Int) ∧ wr.heap[w.heap.size]? = some (.stringIter s pos) ∧ Below w.heap.size w wr ∧ c + widthRest s pos = widthB s) (fun _ wr => s.size - wr.iterPos w.heap.size)
  case atStart => exact ⟨0, 0, Nat.zero_le _, by omega, rfl, World.iter_heap w s 0, (Below.refl _ w).alloc (Nat.le_refl _) _, by rw [Nat.zero_add]; rfl⟩
  case round =>
    obtain ⟨pos, c, hle, hc, rfl, hit, hbw, hnr⟩ := hrel
    have HR := Lib.hid hnr
    clear hnr
    have hsz : w.heap.size < wr.heap.size := (Array.getElem?_eq_some_iff.1 hit).1
    by_cases hp : pos < s.size
    · have HS := Lib.hid (widthRest_step s pos hp)
      have hin := decode_in s pos hp
      have hps := decode_pos s pos
      have hnx : ∀ ty, (Instr.next (.pointer (some ⟨w.heap.size, 0, none⟩)) true ty).run Tryd.prog wr = _ := fun ty => Lib.run_next_any_at wr w.heap.size s pos ty hit hp
      have hit2 := Lib.iterAt_heap wr w.heap.size s pos (pos + (Utf8.decode s pos).2) hit
      have hbw2 := Lib.below_iterAt hbw (k := w.heap.size) (Nat.le_refl _) s (pos + (Utf8.decode s pos).2)
      have hsz2 : (wr.iterAt w.heap.size s (pos + (Utf8.decode s pos).2)).heap.size = wr.heap.size := Lib.iterAt_size _ _ _ _
      have hd0 := decode_le s pos
      generalize hd : (Utf8.decode s pos).1 = d at *
      generalize hwd : (Utf8.decode s pos).2 = wd at *
      generalize hW : wr.iterAt w.heap.size s (pos + wd) = W at *
      have HIT := Lib.hid hit
      clear hd hwd hit hW
      have HZ := Lib.hid hsz2
      clear hsz2
      have HK : Hid (∀ W2 : World, Below W.heap.size W W2 → W2.heap[w.heap.size]? = some (.stringIter s (pos + wd)) ∧ Below w.heap.size w W2) := Lib.hid fun W2 hb =>
        ⟨(hb.block _ (by rw [HZ.out]; exact hsz)).trans hit2, hbw2.call hb⟩
      have HM : Hid (∀ W2 : World, W2.heap[w.heap.size]? = some (.stringIter s (pos + wd)) → W2.iterPos w.heap.size = pos + wd) := Lib.hid fun W2 hb => by simp [World.iterPos, hb]
      clear hit2
      cases hwb : wideB d
      · have HC := Lib.hid (cols_one hwb)
        go_wp2_with (go_at_call 33; refine (wide_any d _).mono ?_; rintro e w1 ⟨rfl, hb1⟩)
        go_roundw
        case rel => exact ⟨pos + wd, c + 1, hin, by omega, by go_num, (HK.out _ hb1).1, (HK.out _ hb1).2, by rw [← HR.out, HS.out, HC.out]; omega⟩
        case measure => rw [HM.out _ (HK.out _ hb1).1]; simp only [World.iterPos, HIT.out]; omega
      · have HC := Lib.hid (cols_wide hwb)
        go_wp2_with (go_at_call 33; refine (wide_any d _).mono ?_; rintro e w1 ⟨rfl, hb1⟩)
        go_roundw
        case rel => exact ⟨pos + wd, c + 2, hin, by omega, by go_num, (HK.out _ hb1).1, (HK.out _ hb1).2, by rw [← HR.out, HS.out, HC.out]; omega⟩
        case measure => rw [HM.out _ (HK.out _ hb1).1]; simp only [World.iterPos, HIT.out]; omega
    · have HE := Lib.hid (widthRest_end s pos hp)
      have hnx : ∀ ty, (Instr.next (.pointer (some ⟨w.heap.size, 0, none⟩)) true ty).run Tryd.prog wr = _ := fun ty => Lib.run_next_end_at wr w.heap.size s pos ty hit hp
      go_wp2
      go_ret
      exact ⟨ret_int (by rw [← HR.out, HE.out]; omega), hbw⟩

set_option maxHeartbeats 4000000 in
theorem refWidth_any (s : ByteArray) (w : World) (hs : s.size ≤ 2305843009213693952) :
    Calls Tryd.prog 24 #[.string s] w fun e w' => e = .returned (.int .i64 (widthB s : Nat)) ∧ Below w.heap.size w w' := by
  go_enter Tryd.func24, Tryd.ntmps24
  go_wp2
  go_loopw [3, 4] (fun n i wr => ∃ (pos c : Nat), pos ≤ s.size ∧ c ≤ 2 * pos ∧ n = .int .i64 (c : Int) ∧ i = .int .i64 (pos : Int) ∧ Below w.heap.size w wr ∧ c + widthRest s pos = widthB s) (fun _ i _ => s.size - (intOf i).toNat)
  case atStart => exact ⟨0, 0, Nat.zero_le _, by omega, rfl, rfl, Below.refl _ w, by rw [Nat.zero_add]; rfl⟩
  case round =>
    obtain ⟨pos, c, hle, hc, rfl, rfl, hbw, hnr⟩ := hrel
    have HR := Lib.hid hnr
    clear hnr
    by_cases hp : pos < s.size
    · have HS := Lib.hid (widthRest_step s pos hp)
      have hin := decode_in s pos hp
      have hps := decode_pos s pos
      have HRU := Lib.hid (rune_any s pos wr (by omega) hp)
      have HW := Lib.hid (wideB_rune s pos)
      generalize hwd : (Utf8.decode s pos).2 = wd at *
      generalize hd : runeB s pos = d at *
      clear hd hwd
      cases hwb : wideB d
      · have HC : Hid (colsB (Utf8.decode s pos).1 = 1) := Lib.hid (cols_one (by rw [← HW.out]; exact hwb))
        have HI : Hid (inB d wideRows = false) := Lib.hid ((wideB_in d).trans hwb)
        have hI := HI.out
        go_wp2_with (first
          | (go_at_call 34; refine HRU.out.mono ?_; rintro e w1 ⟨rfl, rfl⟩)
          | (go_at_call 32; refine (within_any d wr.heap.size 28 28 wideRows _ rfl (by decide) (by exact cells_new _ _ wideRows)).mono ?_; rintro e w1 ⟨rfl, hb1⟩))
        go_roundw
        case rel => exact ⟨pos + wd, c + 1, hin, by omega, by go_num, by go_num, hbw.ac hb1, by rw [← HR.out, HS.out, HC.out]; omega⟩
        case measure => simp [intOf]; omega
      · have HC : Hid (colsB (Utf8.decode s pos).1 = 2) := Lib.hid (cols_wide (by rw [← HW.out]; exact hwb))
        have HI : Hid (inB d wideRows = true) := Lib.hid ((wideB_in d).trans hwb)
        have hI := HI.out
        go_wp2_with (first
          | (go_at_call 34; refine HRU.out.mono ?_; rintro e w1 ⟨rfl, rfl⟩)
          | (go_at_call 32; refine (within_any d wr.heap.size 28 28 wideRows _ rfl (by decide) (by exact cells_new _ _ wideRows)).mono ?_; rintro e w1 ⟨rfl, hb1⟩))
        go_roundw
        case rel => exact ⟨pos + wd, c + 2, hin, by omega, by go_num, by go_num, hbw.ac hb1, by rw [← HR.out, HS.out, HC.out]; omega⟩
        case measure => simp [intOf]; omega
    · have HE := Lib.hid (widthRest_end s pos hp)
      go_wp2
      go_ret
      exact ⟨ret_int (by rw [← HR.out, HE.out]; omega), hbw⟩
end Go.Proofs.YtidekaeccillhaaDoor
