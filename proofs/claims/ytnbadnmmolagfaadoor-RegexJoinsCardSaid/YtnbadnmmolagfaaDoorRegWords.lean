/- Package regex: below, hex, digits. -/
import Derived.Test.YtnbadnmmolagfaaDoorRegTake
import Derived.Test.YtnbadnmmolagfaaDoorRegHex
namespace Go.Proofs.YtnbadnmmolagfaaDoor
open Go.RowKit
set_option maxRecDepth 100000
set_option linter.unusedVariables false
set_option linter.unusedSimpArgs false

theorem peekL_lt (r : Ln) : peekL r < 256 := (r.getD 0 0).toNat_lt

/-- Where a reader stands. -/
def posOf (b : Nat) (w : World) : Nat := (intOf ((w.cell? ⟨b, 1, none⟩).getD (.bool false))).toNat
theorem Rd.pos {b : Nat} {l : Ln} {u : Bool} {xs : List Value} {r : Ln} {w : World} (h : Rd b l u xs r w) : posOf b w + r.length = l.length := by
  obtain ⟨k, hk, hd, hb⟩ := h
  have c1 := hb.cell 1
  unfold posOf
  rw [c1]
  simpa [intOf] using hk

theorem lss_str (x y : Ln) : Op.bytesLess (strOf x).toList (strOf y).toList = lssL x y := by
  have e : ∀ z : Ln, (strOf z).toList = z := fun z => by
    rw [Lib.toList_data, strOf_list]
  rw [e, e]
  induction x generalizing y with
  | nil => cases y <;> simp [Op.bytesLess, lssL]
  | cons a x ih =>
    cases y with
    | nil => simp [Op.bytesLess, lssL]
    | cons b y =>
      simp only [Op.bytesLess, lssL, ih]
theorem below_any (x y : Ln) (w : World) :
    Calls Tryd.prog 25 #[.string (strOf x), .string (strOf y)] w fun e w' => e = .returned (.bool (belowL x y)) ∧ w = w' := by
  have hx := strOf_size x
  have hy := strOf_size y
  have hxy := lss_str x y
  by_cases h1 : x.length < y.length
  · have hv : belowL x y = true := by unfold belowL; simp [h1]
    have t1 : decide (x.length < y.length) = true := by simpa using h1
    have HV := Lib.hid hv
    clear hv h1
    go_enter Tryd.func25, Tryd.ntmps25
    go_wp2
    go_ret
    exact ⟨ret_bool HV.out.symm, rfl⟩
  · have t1 : decide (x.length < y.length) = false := by simpa using h1
    by_cases h2 : x.length = y.length
    · have hv : belowL x y = lssL x y := by unfold belowL; simp [h1, h2]
      have t2 : ((x.length : Int) == (y.length : Int)) = true := by simp; omega
      have HV := Lib.hid hv
      clear hv h1 h2
      go_enter Tryd.func25, Tryd.ntmps25
      go_wp2
      go_ret
      exact ⟨ret_bool HV.out.symm, rfl⟩
    · have hv : belowL x y = false := by unfold belowL; simp [h1, h2]
      have t2 : ((x.length : Int) == (y.length : Int)) = false := by simp; omega
      have HV := Lib.hid hv
      clear hv h1 h2
      go_enter Tryd.func25, Tryd.ntmps25
      go_wp2
      go_ret
      exact ⟨ret_bool HV.out.symm, rfl⟩

theorem digs_split : ∀ (ds r' : Ln), (∀ c ∈ ds, dig8 c = true) → digitB (peekL r') = false → (ds ++ r').takeWhile dig8 = ds ∧ (ds ++ r').dropWhile dig8 = r'
  | [], [], _, _ => ⟨rfl, rfl⟩
  | [], c :: r, _, h => by
    have : dig8 c = false := h
    simp [List.takeWhile_cons, List.dropWhile_cons, this]
  | d :: ds, r', hd, h => by
    have h1 := hd d (List.mem_cons_self ..)
    have ih := digs_split ds r' (fun c hc => hd c (List.mem_cons_of_mem _ hc)) h
    simp [List.takeWhile_cons, List.dropWhile_cons, h1, ih.1, ih.2]
theorem digitsL_of {ds r' : Ln} (h1 : ∀ c ∈ ds, dig8 c = true) (h2 : digitB (peekL r') = false) (hne : ds ≠ []) : digitsL (ds ++ r') = .ok (Lib.trimLeftB ds 48, r') := by
  have h := digs_split ds r' h1 h2
  unfold digitsL
  rw [h.1, h.2, if_neg hne]
theorem digitsL_no {r' : Ln} (h2 : digitB (peekL r') = false) : digitsL r' = .error (form r') := by
  have h := digs_split [] r' (by simp) h2
  unfold digitsL
  rw [List.nil_append] at h
  rw [h.1, if_pos rfl]
theorem slice_cut {l r r' ds : Ln} {k0 k : Nat} (h0 : k0 + r.length = l.length) (hd0 : l.drop k0 = r) (hk : k + r'.length = l.length) (hr : r = ds ++ r') (W : World) :
    (Instr.slice 9 (.string (strOf l)) (some (.int .i64 (k0 : Int))) (some (.int .i64 (k : Int))) none).run Tryd.prog W = .ok (.string (strOf ds)) W := by
  have e3 : r.length = ds.length + r'.length := by rw [hr, List.length_append]
  have h := run_slice_string (P := Tryd.prog) (w := W) 9 (strOf l) .i64 .i64 (k0 : Int) (k : Int) Tryd.underlying9 (by omega) (by omega) (by rw [strOf_size]; omega)
  rw [h]
  have e1 : ((k0 : Int)).toNat = k0 := by omega
  have e2 : ((k : Int)).toNat = k := by omega
  rw [e1, e2]
  congr 2
  apply ByteArray.ext
  apply Array.ext'
  simp only [strOf, ByteArray.size, ByteArray.data_extract, Array.toList_extract, List.extract_eq_take_drop]
  rw [hd0, hr]
  have e4 : k - k0 = ds.length := by omega
  rw [e4]
  simp
theorem digits_any (b : Nat) (l : Ln) (u : Bool) (xs : List Value) (r : Ln) (w : World) (h : Rd b l u xs r w) (hl : l.length ≤ 4096) :
    Calls Tryd.prog 36 #[.pointer (some ⟨b, 0, none⟩)] w (Ends b l u xs w ((digitsL r).map fun p => (.string (strOf p.1), p.2))) := by
  obtain ⟨k0, hk0, hd0, hb0⟩ := h
  have c1 := hb0.cell 1
  have H0 := Lib.hid (And.intro hk0 (And.intro hd0 hb0))
  clear hk0 hd0 hb0
  go_enter Tryd.func36, Tryd.ntmps36
  go_wp2_with fail
  clear c1
  go_loopw [8] (fun _ wr => ∃ ds r', r = ds ++ r' ∧ (∀ c ∈ ds, dig8 c = true) ∧ Rd b l u xs r' wr ∧ w.grownBy wr (some b)) (fun _ wr => l.length - posOf b wr)
  case atStart => exact ⟨[], r, rfl, by simp, ⟨_, H0.out.1, H0.out.2.1, H0.out.2.2⟩, grown_refl _ _⟩
  case round =>
    obtain ⟨ds, r', hr, hds, hrd, hg⟩ := hrel
    have HM := Lib.hid hrd.pos
    have HP := Lib.hid (peek_rd b l u xs r' wr hrd hl)
    have HR := Lib.hid (And.intro hr (And.intro hds hg))
    clear hr hds hg hrd
    go_wp2_with fail
    refine HP.out.mono ?_
    rintro e w1 ⟨rfl, hrd1, hb1⟩
    have HR1 := Lib.hid hrd1
    have HB1 := Lib.hid hb1
    obtain ⟨k, hk, hd, hb⟩ := hrd1
    have c1 := hb.cell 1
    have c0 := hb.cell 0
    have f1 := hb.frozen 1
    have HK := Lib.hid (And.intro hk (And.intro hd hb))
    clear hk hd hb hb1
    cases hq : digitB (peekL r')
    · have HSL := Lib.hid (slice_cut H0.out.1 H0.out.2.1 HK.out.1 HR.out.1)
      have HTL := Lib.hid (fun W => Tryd.strings_TrimLeft_one (strOf ds) 48 (by decide) W)
      by_cases hkk : k = k0
      · have hkk' : ((k : Int) == (k0 : Int)) = true := by simp; omega
        have hds : ds = [] := by
          have h1 := congrArg List.length HR.out.1
          have h2 := HK.out.1
          have h3 := H0.out.1
          rw [List.length_append] at h1
          exact List.eq_nil_of_length_eq_zero (by omega)
        have hres : digitsL r = .error (form r') := by
          rw [HR.out.1, hds, List.nil_append]
          exact digitsL_no hq
        have HE := Lib.hid hres
        clear hkk hres hds
        go_wp2_with (go_at_call 37; refine (digit_any _ _).mono ?_; rintro e w2 ⟨rfl, rfl⟩)
        refine (stop_any b l u xs r' _ HR1.out).mono ?_
        rintro e w2 ⟨rfl, rfl⟩
        simp (config := { zetaDelta := true }) only [Exit.noGoto_ret, Exit.inBlock, Exit.then]
        refine ⟨rfl, ?_⟩
        rw [HE.out]
        exact ⟨grown_trans HR.out.2.2 (grown_of HB1.out _), rfl⟩
      · have hkk' : ((k : Int) == (k0 : Int)) = false := by simp; exact fun h => hkk (by omega)
        have hds : ds ≠ [] := by
          rintro rfl
          have h1 := congrArg List.length HR.out.1
          have h2 := HK.out.1
          have h3 := H0.out.1
          rw [List.length_append, List.length_nil] at h1
          omega
        have hres : digitsL r = .ok (Lib.trimLeftB ds 48, r') := by
          rw [HR.out.1]
          exact digitsL_of HR.out.2.1 hq hds
        have HE := Lib.hid hres
        clear hkk hres hds
        go_wp2_with (go_at_call 37; refine (digit_any _ _).mono ?_; rintro e w2 ⟨rfl, rfl⟩)
        have hsl := HSL.out
        go_quiet (first | (go_at_call 46; exact Calls.quiet_of_same (HTL.out _)))
        go_wp2_with fail
        go_ret
        rw [HE.out]
        exact ⟨grown_drew (grown_trans HR.out.2.2 (grown_of HB1.out _)) _, by rw [strOf_list]; rfl, HR1.out.drew _⟩
    · have hne : r' ≠ [] := by rintro rfl; exact absurd hq (by decide)
      have HQ := Lib.hid (And.intro hq hne)
      go_wp2_with (go_at_call 37; refine (digit_any _ _).mono ?_; rintro e w2 ⟨rfl, rfl⟩)
      have hmv : Rd b l u xs (r'.drop 1) (w1.setCell ⟨b, 1, none⟩ (.int .i64 (wrap64 ((k : Int) + 1)))) := by
        have := HK.out.1
        refine Rd.move HK.out.1 HK.out.2.1 HK.out.2.2 1 (List.length_pos_iff.2 hne) ?_
        rw [IntWalk.wrap64_in _ ⟨by omega, by omega⟩]
        omega
      go_roundw
      case rel =>
        obtain ⟨c, r2, rfl⟩ := List.exists_cons_of_ne_nil hne
        refine ⟨ds ++ [c], r2, by rw [HR.out.1]; simp, ?_, hmv, grown_set (grown_trans HR.out.2.2 (grown_of HB1.out _)) _ _⟩
        intro x hx
        rcases List.mem_append.1 hx with h | h
        · exact HR.out.2.1 x h
        · rw [List.mem_singleton.1 h]
          exact HQ.out.1
      case measure =>
        have h1 := hmv.pos
        have h2 := HM.out
        have h3 := List.length_pos_iff.2 hne
        rw [List.length_drop] at h1
        omega
end Go.Proofs.YtnbadnmmolagfaaDoor
