/- The walk of the program's Name. -/
import Derived.Test.YtidekaeccillhaaDoorNamePlain
import Derived.Test.YtidekaeccillhaaDoorUniWalks
import Derived.Lib.OthersKept
namespace Go.Proofs.YtidekaeccillhaaDoor
open Go.RowKit
set_option maxRecDepth 100000
set_option linter.unusedVariables false

theorem empty_size (s : ByteArray) : (!s.toList.isEmpty) = decide (0 < s.size) := by
  have h : s.toList.length = s.size := by rw [ByteArray.toList_eq]; simp
  cases e : s.toList with
  | nil => rw [e] at h; simp at h; simp [← h]
  | cons a t => rw [e] at h; simp at h; simp; omega

set_option maxHeartbeats 4000000 in
theorem name_any (s : ByteArray) (w : World) (hs : s.size ≤ 4611686018427387904) :
    Calls Tryd.prog 27 #[.string s] w fun e w' => e = .returned (.bool (nameB s)) ∧ Below w.heap.size w w' := by
  have HN := Lib.hid (nameB_rest s)
  go_enter Tryd.func27, Tryd.ntmps27
  go_wp2
  go_loopw [2] (fun _ wr => ∃ pos : Nat, pos ≤ s.size ∧ wr.heap[w.heap.size]? = some (.stringIter s pos) ∧ Below w.heap.size w wr ∧ nameRest s pos = nameRest s 0) (fun _ wr => s.size - wr.iterPos w.heap.size)
  case atStart => exact ⟨0, Nat.zero_le _, World.iter_heap w s 0, (Below.refl _ w).alloc (Nat.le_refl _) _, rfl⟩
  case round =>
    obtain ⟨pos, hle, hit, hbw, hnr⟩ := hrel
    have HR := Lib.hid hnr
    clear hnr
    have hsz : w.heap.size < wr.heap.size := (Array.getElem?_eq_some_iff.1 hit).1
    by_cases hp : pos < s.size
    · have HS := Lib.hid (nameRest_step s pos hp)
      have hin := decode_in s pos hp
      have hps := decode_pos s pos
      have hnx : ∀ ty, (Instr.next (.pointer (some ⟨w.heap.size, 0, none⟩)) true ty).run Tryd.prog wr = _ := fun ty => Lib.run_next_any_at wr w.heap.size s pos ty hit hp
      have hit2 := Lib.iterAt_heap wr w.heap.size s pos (pos + (Utf8.decode s pos).2) hit
      have hbw2 := Lib.below_iterAt hbw (k := w.heap.size) (Nat.le_refl _) s (pos + (Utf8.decode s pos).2)
      have hsz2 : (wr.iterAt w.heap.size s (pos + (Utf8.decode s pos).2)).heap.size = wr.heap.size := Lib.iterAt_size _ _ _ _
      have hd0 := decode_le s pos
      have HO : Hid (okAt s pos = (partB (Utf8.decode s pos).1 && (decide (pos ≠ 0) || startB (Utf8.decode s pos).1))) := Lib.hid rfl
      generalize hd : (Utf8.decode s pos).1 = d at *
      generalize hwd : (Utf8.decode s pos).2 = wd at *
      generalize hW : wr.iterAt w.heap.size s (pos + wd) = W at *
      have HIT := Lib.hid hit
      clear hd hwd hit hW
      have HZ := Lib.hid hsz2
      clear hsz2
      have hk : ∀ W2 : World, Below W.heap.size W W2 → W2.heap[w.heap.size]? = some (.stringIter s (pos + wd)) ∧ Below w.heap.size w W2 := fun W2 hb =>
        ⟨(hb.block _ (by rw [HZ.out]; exact hsz)).trans hit2, hbw2.call hb⟩
      have hm : ∀ W2 : World, W2.heap[w.heap.size]? = some (.stringIter s (pos + wd)) → W2.iterPos w.heap.size = pos + wd := fun W2 hb => by simp [World.iterPos, hb]
      have HK := Lib.hid hk
      have HM := Lib.hid hm
      have HI2 := Lib.hid hit2
      clear hk hm hit2
      cases he : ((d : Int) == 65533)
      · cases hpb : partB d
        · go_wp2_with (go_at_call 17; refine (part_any d _).mono ?_; rintro e w1 ⟨rfl, hb1⟩)
          go_ret
          exact ⟨ret_bool (by rw [HN.out, ← HR.out, HS.out, HO.out, hpb]; rfl), (HK.out _ hb1).2⟩
        · cases h0 : ((pos : Int) == 0)
          · have hz : decide (pos ≠ 0) = true := by simp at h0 ⊢; exact h0
            have HOK : Hid (okAt s pos = true) := Lib.hid (by rw [HO.out, hpb, hz]; rfl)
            clear hz
            go_wp2_with (go_at_call 17; refine (part_any d _).mono ?_; rintro e w1 ⟨rfl, hb1⟩)
            go_roundw
            case rel => exact ⟨pos + wd, hin, (HK.out _ hb1).1, (HK.out _ hb1).2, by rw [← HR.out, HS.out, HOK.out]; rfl⟩
            case measure => rw [HM.out _ (HK.out _ hb1).1]; simp only [World.iterPos, HIT.out]; omega
          · have hz : decide (pos ≠ 0) = false := by simp at h0 ⊢; exact h0
            cases hst : startB d
            · go_wp2_with (first
                | (go_at_call 17; refine (part_any d _).mono ?_; rintro e w1 ⟨rfl, hb1⟩)
                | (go_at_call 15; refine (start_any d _).mono ?_; rintro e w2 ⟨rfl, hb2⟩))
              go_ret
              exact ⟨ret_bool (by rw [HN.out, ← HR.out, HS.out, HO.out, hst, hz]; simp), (HK.out _ hb1).2.call hb2⟩
            · have HOK : Hid (okAt s pos = true) := Lib.hid (by rw [HO.out, hpb, hst]; simp)
              clear hz
              go_wp2_with (first
                | (go_at_call 17; refine (part_any d _).mono ?_; rintro e w1 ⟨rfl, hb1⟩)
                | (go_at_call 15; refine (start_any d _).mono ?_; rintro e w2 ⟨rfl, hb2⟩))
              have h12 : Below W.heap.size W w2 := hb1.call hb2
              go_roundw
              case rel => exact ⟨pos + wd, hin, (HK.out _ h12).1, (HK.out _ h12).2, by rw [← HR.out, HS.out, HOK.out]; rfl⟩
              case measure => rw [HM.out _ (HK.out _ h12).1]; simp only [World.iterPos, HIT.out]; omega
      · have hd : (d : Int) = 65533 := by simpa using he
        have HOK : Hid (okAt s pos = false) := Lib.hid (by rw [HO.out, hd, partB_err]; rfl)
        clear hd
        go_wp2_with fail
        go_ret
        exact ⟨ret_bool (by rw [HN.out, ← HR.out, HS.out, HOK.out]; rfl), hbw2⟩
    · have HE := Lib.hid (nameRest_end s pos hp)
      have hnx : ∀ ty, (Instr.next (.pointer (some ⟨w.heap.size, 0, none⟩)) true ty).run Tryd.prog wr = _ := fun ty => Lib.run_next_end_at wr w.heap.size s pos ty hit hp
      go_wp2
      go_ret
      exact ⟨ret_bool (by rw [HN.out, ← HR.out, HE.out, empty_size]; rfl), hbw⟩
end Go.Proofs.YtidekaeccillhaaDoor
