/- Package regex: next, take, want, digits, below. -/
import Derived.Test.YtnbadnmmolagfaaDoorRegMem
namespace Go.Proofs.YtnbadnmmolagfaaDoor
open Go.RowKit
set_option maxRecDepth 100000
set_option linter.unusedVariables false
set_option linter.unusedSimpArgs false

theorem decodeGo_list (r : Ln) : Lib.decodeGo (strOf r) = if r = [] then (65533, 0) else Lib.decodeL r := by
  unfold Lib.decodeGo
  rw [strOf_size]
  by_cases h : r = []
  · subst h; rfl
  · have := List.length_pos_iff.2 h
    rw [if_neg (by omega), if_neg h]
    rfl
theorem nextL_le (r : Ln) : (nextL r).2 ≤ r.length := by
  unfold nextL
  split
  · simp
  · rename_i h
    split
    · simp
    · have h1 : Lib.decodeL r = Utf8.decode (strOf r) 0 := rfl
      rw [h1]
      have h2 := decode_in (strOf r) 0 (by rw [strOf_size]; exact List.length_pos_iff.2 h)
      rw [strOf_size] at h2
      omega
theorem nextL_rune (r : Ln) : (nextL r).1 ≤ 1114111 := by
  unfold nextL
  split
  · simp
  · split
    · simp
    · exact Lib.decodeL_rune r

theorem next_core (b : Nat) (l : Ln) (u : Bool) (xs : List Value) (r : Ln) (w : World) (h : Rd b l u xs r w) (d n : Nat) (hd4 : d ≤ 1114111) (hn4 : n ≤ 4) (HD : Hid (∀ w1, Below w.heap.size w w1 → Calls Tryd.prog 47 #[.string (strOf r)] w1 fun e w' => e = .returned (.tuple #[.int .i32 (d : Int), .int .i64 (n : Int)]) ∧ Below w1.heap.size w1 w')) (c m : Nat)
    (hr : (n = 0 ∧ c = 0 ∧ m = 0) ∨ (n ≠ 0 ∧ (d = 65533 ∧ n = 1) ∧ c = 0 ∧ m = 0) ∨ (n ≠ 0 ∧ ¬ (d = 65533 ∧ n = 1) ∧ endsB (d : Int) = true ∧ c = 0 ∧ m = 0) ∨ (n ≠ 0 ∧ ¬ (d = 65533 ∧ n = 1) ∧ endsB (d : Int) = false ∧ c = d ∧ m = n)) :
    Calls Tryd.prog 39 #[.pointer (some ⟨b, 0, none⟩)] w fun e w' => e = .returned (.tuple #[.int .i64 (c : Int), .int .i64 (m : Int)]) ∧ Below w.heap.size w w' := by
  obtain ⟨k, hk, hd, hb⟩ := h
  have hsl := slice_rest hk hd
  have hcell : ∀ wq, Below w.heap.size w wq → wq.cell? ⟨b, 0, none⟩ = some (.string (strOf l)) ∧ wq.cell? ⟨b, 1, none⟩ = some (.int .i64 (k : Int)) := fun wq hq => ⟨(hb.below hq).cell 0, (hb.below hq).cell 1⟩
  have HB := Lib.hid hcell
  clear hk hd hb hcell
  go_enter Tryd.func39, Tryd.ntmps39
  go_wp2_with fail
  refine wp_region_below w.heap.size (by kernel_rfl) (by kernel_rfl) ?_
  repeat (first | go_big_quiet_skip | (go_big_quiet_want; go_big_quiet_op; (first | go_big_quiet_on | (refine Exists.intro _ ⟨fun _ _ => rfl, ?_⟩; go_big_quiet_on) | (apply Exists.intro; refine ⟨fun wq hq => ?_, ?_⟩; (first | (go_at_call 47; refine (HD.out wq hq).mono ?_; rintro e w1 ⟨rfl, hb1⟩; exact ⟨rfl, hq.call hb1⟩) | (have c0 := (HB.out wq hq).1; have c1 := (HB.out wq hq).2; go_simp; rfl) | (go_simp; rw [hsl]; rfl)); go_big_quiet_on))))
  refine wpQuiet_nil ?_
  intro wq hq
  have HQ := Lib.hid hq
  clear hq hsl
  rcases hr with ⟨rfl, rfl, rfl⟩ | ⟨hn, ⟨rfl, rfl⟩, rfl, rfl⟩ | ⟨hn, hne, he, rfl, rfl⟩ | ⟨hn, hne, he, rfl, rfl⟩
  · go_wp2_with fail
    go_ret2
    exact ⟨rfl, HQ.out⟩
  · go_wp2_with fail
    go_ret2
    exact ⟨rfl, HQ.out⟩
  · have t1 : ((n : Int) == 0) = false := by simp; omega
    have HE := Lib.hid (ends_any (d : Int))
    rw [he] at HE
    clear he
    by_cases h2 : d = 65533
    · have h3 : ¬ n = 1 := fun h => hne ⟨h2, h⟩
      have t2 : ((d : Int) == 65533) = true := by simp; omega
      have t3 : ((n : Int) == 1) = false := by simp; omega
      clear hne h2 h3
      go_wp2_with (go_at_call 48; refine (HE.out _).mono ?_; rintro e w2 ⟨rfl, hb2⟩)
      go_ret2
      exact ⟨rfl, HQ.out.call hb2⟩
    · have t2 : ((d : Int) == 65533) = false := by simp; omega
      clear hne h2
      go_wp2_with (go_at_call 48; refine (HE.out _).mono ?_; rintro e w2 ⟨rfl, hb2⟩)
      go_ret2
      exact ⟨rfl, HQ.out.call hb2⟩
  · have t1 : ((m : Int) == 0) = false := by simp; omega
    have HE := Lib.hid (ends_any (c : Int))
    rw [he] at HE
    clear he
    by_cases h2 : c = 65533
    · have h3 : ¬ m = 1 := fun h => hne ⟨h2, h⟩
      have t2 : ((c : Int) == 65533) = true := by simp; omega
      have t3 : ((m : Int) == 1) = false := by simp; omega
      clear hne h2 h3
      go_wp2_with (go_at_call 48; refine (HE.out _).mono ?_; rintro e w2 ⟨rfl, hb2⟩)
      go_ret2
      exact ⟨rfl, HQ.out.call hb2⟩
    · have t2 : ((c : Int) == 65533) = false := by simp; omega
      clear hne h2
      go_wp2_with (go_at_call 48; refine (HE.out _).mono ?_; rintro e w2 ⟨rfl, hb2⟩)
      go_ret2
      exact ⟨rfl, HQ.out.call hb2⟩
theorem next_any (b : Nat) (l : Ln) (u : Bool) (xs : List Value) (r : Ln) (w : World) (h : Rd b l u xs r w) (hT : Tabs w) :
    Calls Tryd.prog 39 #[.pointer (some ⟨b, 0, none⟩)] w fun e w' => e = .returned (.tuple #[.int .i64 ((nextL r).1 : Int), .int .i64 ((nextL r).2 : Int)]) ∧ Below w.heap.size w w' := by
  have HD := fun (w1 : World) (hT : Tabs w1) => Tryd.utf8_DecodeRuneInString (strOf r) w1 hT.1
  simp only [decodeGo_list] at HD
  by_cases hr : r = []
  · subst hr
    simp only [if_true] at HD
    exact next_core b l u xs [] w h 65533 0 (by decide) (by decide) (Lib.hid fun w1 hq => HD w1 (hT.below hq)) _ _ (.inl ⟨rfl, rfl, rfl⟩)
  · simp only [if_neg hr] at HD
    have h4 : (Lib.decodeL r).2 ≤ 4 := by
      have := lenB_le (strOf r) 0
      have := decode_two (strOf r) 0
      have e : Lib.decodeL r = Utf8.decode (strOf r) 0 := rfl
      rw [e]
      split at this <;> omega
    have h1 := Lib.decodeL_width r
    have hn : nextL r = if ((Lib.decodeL r).1 == 65533 && (Lib.decodeL r).2 == 1) || endsB (Lib.decodeL r).1 then (0, 0) else Lib.decodeL r := by unfold nextL; rw [if_neg hr]
    refine next_core b l u xs r w h _ _ (Lib.decodeL_rune r) h4 (Lib.hid fun w1 hq => HD w1 (hT.below hq)) _ _ ?_
    by_cases h2 : (Lib.decodeL r).1 = 65533 ∧ (Lib.decodeL r).2 = 1
    · refine .inr (.inl ⟨by omega, h2, ?_⟩)
      rw [hn, h2.1, h2.2]
      exact ⟨rfl, rfl⟩
    · have h3 : ((Lib.decodeL r).1 == 65533 && (Lib.decodeL r).2 == 1) = false := by
        rw [Bool.and_eq_false_iff]
        by_cases h5 : (Lib.decodeL r).1 = 65533
        · right; simp; intro h6; exact h2 ⟨h5, h6⟩
        · left; simpa using h5
      rw [h3, Bool.false_or] at hn
      cases he : endsB ((Lib.decodeL r).1 : Int)
      · rw [he] at hn
        exact .inr (.inr (.inr ⟨by omega, h2, rfl, by rw [hn]; rfl, by rw [hn]; rfl⟩))
      · rw [he] at hn
        exact .inr (.inr (.inl ⟨by omega, h2, rfl, by rw [hn]; rfl, by rw [hn]; rfl⟩))

/-- A call that comes back with a character takes it. -/
theorem take_any (b : Nat) (l : Ln) (u : Bool) (xs : List Value) (r : Ln) (w : World) (h : Rd b l u xs r w) (hT : Tabs w) (hl : l.length ≤ 4096) :
    Calls Tryd.prog 35 #[.pointer (some ⟨b, 0, none⟩)] w (Ends b l u xs w ((takeL r).map fun p => (.int .i64 (p.1 : Int), p.2))) := by
  have HN := Lib.hid (next_any b l u xs r w h hT)
  have hle := nextL_le r
  have HH := Lib.hid h
  clear h hT
  by_cases hz : (nextL r).2 = 0
  · have ht : takeL r = .error (form r) := by unfold takeL; rw [if_pos hz]
    rw [ht]
    rw [hz] at HN
    have HS := Lib.hid (fun w1 (hb : Below w.heap.size w w1) => stop_any b l u xs r w1 (HH.out.grown hb))
    clear ht hz hle
    go_enter Tryd.func35, Tryd.ntmps35
    go_wp2_with fail
    refine HN.out.mono ?_
    rintro e w1 ⟨rfl, hb1⟩
    have HB1 := Lib.hid hb1
    clear hb1
    go_wp2_with fail
    refine (HS.out w1 HB1.out).mono ?_
    rintro e w2 ⟨rfl, rfl⟩
    exact ⟨rfl, grown_of HB1.out _, rfl⟩
  · have ht : takeL r = .ok ((nextL r).1, r.drop (nextL r).2) := by unfold takeL; rw [if_neg hz]
    rw [ht]
    generalize (nextL r).2 = n at *
    generalize (nextL r).1 = c at *
    have t1 : ((n : Int) == 0) = false := by simp; omega
    have HLE := Lib.hid hle
    clear ht hz hle
    go_enter Tryd.func35, Tryd.ntmps35
    go_wp2_with fail
    refine HN.out.mono ?_
    rintro e w1 ⟨rfl, hb1⟩
    obtain ⟨k, hk, hd, hb⟩ := HH.out.grown hb1
    have c1 := hb.cell 1
    have f1 := hb.frozen 1
    have HB := Lib.hid (And.intro hk (And.intro hd (And.intro hb hb1)))
    clear hk hd hb hb1
    go_wp2_with fail
    go_ret
    refine ⟨grown_set (grown_of HB.out.2.2.2 _) _ _, rfl, Rd.move HB.out.1 HB.out.2.1 HB.out.2.2.1 n HLE.out ?_⟩
    have := HB.out.1
    have := HLE.out
    rw [IntWalk.wrap64_in _ ⟨by omega, by omega⟩]
    omega

theorem want_any (b : Nat) (l : Ln) (u : Bool) (xs : List Value) (r : Ln) (w : World) (h : Rd b l u xs r w) (hl : l.length ≤ 4096) (t : Ln) :
    Calls Tryd.prog 31 #[.pointer (some ⟨b, 0, none⟩), .string (strOf t)] w (Ends b l u xs w ((wantL t r).map fun p => (.tuple #[], p))) := by
  have HI := Lib.hid (is_any b l u xs r w h hl t)
  clear h
  cases hp : hasP t r
  · have ht : wantL t r = .error (form r) := by unfold wantL; rw [hp]; rfl
    have hs : skipL t r = r := by unfold skipL; rw [hp]; rfl
    rw [ht]
    rw [hp, hs] at HI
    clear ht hs hp
    go_enter Tryd.func31, Tryd.ntmps31
    go_wp2_with fail
    refine HI.out.mono ?_
    rintro e w1 ⟨rfl, hr1, hg1⟩
    have H1 := Lib.hid (And.intro hr1 hg1)
    clear hr1 hg1
    go_wp2_with fail
    refine (stop_any b l u xs r w1 H1.out.1).mono ?_
    rintro e w2 ⟨rfl, rfl⟩
    exact ⟨rfl, H1.out.2, rfl⟩
  · have ht : wantL t r = .ok (r.drop t.length) := by unfold wantL; rw [hp]; rfl
    have hs : skipL t r = r.drop t.length := by unfold skipL; rw [hp]; rfl
    rw [ht]
    rw [hp, hs] at HI
    clear ht hs hp
    go_enter Tryd.func31, Tryd.ntmps31
    go_wp2_with fail
    refine HI.out.mono ?_
    rintro e w1 ⟨rfl, hr1, hg1⟩
    have H1 := Lib.hid (And.intro hr1 hg1)
    clear hr1 hg1
    go_wp2_with fail
    go_end0
    exact ⟨H1.out.2, rfl, H1.out.1⟩
end Go.Proofs.YtnbadnmmolagfaaDoor
