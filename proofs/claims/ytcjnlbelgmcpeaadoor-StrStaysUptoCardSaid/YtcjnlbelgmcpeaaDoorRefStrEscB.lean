/- The reference's escape of a string literal: its branches, part two. -/
import Derived.Test.YtcjnlbelgmcpeaaDoorRefStrEsc
namespace Go.Proofs.YtcjnlbelgmcpeaaDoor
open Go.RowKit
set_option maxRecDepth 100000
set_option linter.unusedVariables false
set_option linter.unusedSimpArgs false
set_option linter.unusedSectionVars false
section
variable (s : ByteArray) (at0 : Nat) (w : World) (hs : s.size ≤ 4194304)
include hs

variable (hin : at0 + 1 < s.size)
include hin

set_option maxHeartbeats 4000000 in
theorem rescape_none (h1 : (s[at0 + 1]'hin).toNat ≠ 120) (h2 : (s[at0 + 1]'hin).toNat ≠ 117) (h3 : (s[at0 + 1]'hin).toNat ≠ 48) (h4 : (s[at0 + 1]'hin).toNat < 49 ∨ 57 < (s[at0 + 1]'hin).toNat) (h5 : simN (((s[at0 + 1]'hin).toNat : Nat) : Int) < 0) (hl : lenB s (at0 + 1) = 0) :
    Calls Tryd.prog 30 #[.string s, .int .i64 (at0 : Int)] w fun e w' => EscOut s at0 w.heap.size e w' ∧ Below w.heap.size w w' := by
  have hlt := (s[at0 + 1]'hin).toNat_lt
  have HR := Lib.hid (fun W => rune_at s (at0 + 1) (y := (at0 : Int) + 1) W (by omega) hin (by omega))
  have HG := Lib.hid (escB_out s at0 (Or.inr hl))
  have hd := decode_bad s (at0 + 1) hl
  have hr : runeB s (at0 + 1) = -1 := by unfold runeB; rw [hl]; rfl
  rw [hd, hr] at HR
  have HS := Lib.hid (fun W => rsimple_any (s[at0 + 1]'hin).toNat W hlt)
  generalize simN (((s[at0 + 1]'hin).toNat : Nat) : Int) = m at *
  have g1 : (((s[at0 + 1]'hin).toNat : Int) == 120) = false := by rw [beq_eq_false_iff_ne]; omega
  have g2 : (((s[at0 + 1]'hin).toNat : Int) == 117) = false := by rw [beq_eq_false_iff_ne]; omega
  have g3 : (((s[at0 + 1]'hin).toNat : Int) == 48) = false := by rw [beq_eq_false_iff_ne]; omega
  have h4' : ((s[at0 + 1]'hin).toNat : Int) < 49 ∨ 57 < ((s[at0 + 1]'hin).toNat : Int) := by omega
  clear h1 h2 h3 h4
  rcases h4' with h4 | h4
  all_goals
    go_enter Tryd.func30, Tryd.ntmps30
    go_wp2_with (first
      | (go_at_call 37
         refine (HS.out _).mono ?_
         rintro e w1 ⟨rfl, hb⟩
         have hA := Blk.below (Blk.alloc (Blk.new w _ _) _) hb
         have hP : Blk w1 (w.heap.size + 1) _ _ := Blk.below (Blk.new' _ _ (by simp)) hb
         obtain ⟨a0, a1, a2, a3, z0, z1, z2, z3⟩ := hA.four
         obtain ⟨p0, p1, p2, p3, y0, y1, y2, y3⟩ := hP.four
         have HB1 := Lib.hid ((((Below.refl _ w).alloc (Nat.le_refl _) _).alloc (by simp) _).trans (hb.mono (by simp; omega)))
         have hz := hb.size
         simp at hz
         have HA := Lib.hid hA
         have HP := Lib.hid hP
         clear hb hA hP)
      | (go_at_call 31; refine (HR.out _).mono ?_; rintro e w2 ⟨rfl, rfl⟩))
    refine bodyPost_ret (v := .tuple #[.agg #[.int .i64 (at0 : Int), .int .i64 ((at0 : Int) + 1), (.slice none 0 0), .int .i64 0], .bool false]) (by simp [results, Tryd.results30, go_sem, a0, a1, a2, a3]) rfl ⟨escOut_bad HG.out (by omega), ?_⟩
    exact (((HB1.out.setCell (by simp) _).setCell (by simp) _).setCell (by simp) _).setCell (by simp) _

set_option maxHeartbeats 4000000 in
theorem rescape_ends (h1 : (s[at0 + 1]'hin).toNat ≠ 120) (h2 : (s[at0 + 1]'hin).toNat ≠ 117) (h3 : (s[at0 + 1]'hin).toNat ≠ 48) (h4 : (s[at0 + 1]'hin).toNat < 49 ∨ 57 < (s[at0 + 1]'hin).toNat) (h5 : simN (((s[at0 + 1]'hin).toNat : Nat) : Int) < 0) (hl : lenB s (at0 + 1) ≠ 0) (hr0 : (Utf8.decode s (at0 + 1)).1 = 10 ∨ (Utf8.decode s (at0 + 1)).1 = 8232 ∨ (Utf8.decode s (at0 + 1)).1 = 8233) :
    Calls Tryd.prog 30 #[.string s, .int .i64 (at0 : Int)] w fun e w' => EscOut s at0 w.heap.size e w' ∧ Below w.heap.size w w' := by
  have hlt := (s[at0 + 1]'hin).toNat_lt
  have HR := Lib.hid (fun W => rune_at s (at0 + 1) (y := (at0 : Int) + 1) W (by omega) hin (by omega))
  have hg := escB_in s at0 hin hl
  have hn1 := decode_pos s (at0 + 1)
  have hn2 := decode_in s (at0 + 1) hin
  have ht := decode_top s (at0 + 1)
  have hr : runeB s (at0 + 1) = (((Utf8.decode s (at0 + 1)).1 : Nat) : Int) := by unfold runeB; rw [if_neg hl]
  rw [hr] at HR
  have HCH := Lib.hid (chB_0 (s := s) (at0 := at0) rfl (by omega))
  generalize (Utf8.decode s (at0 + 1)).1 = r at *
  generalize (Utf8.decode s (at0 + 1)).2 = n at *
  clear hl hr
  have HG : Hid (escB s at0 = ⟨-1, at0 + 1 + n, true⟩) := Lib.hid (by rw [hg]; unfold escR; rw [if_neg (by omega), if_neg (by omega), if_neg (by omega), if_neg (by omega), if_neg (by omega), if_neg (by omega), if_pos (by omega)])
  have HE := Lib.hid (fun W => rends_any (r : Int) W)
  have he : endB (r : Int) = true := by rcases hr0 with rfl | rfl | rfl <;> rfl
  rw [he] at HE
  have g6 : ((r : Int) == 13) = false := by rw [beq_eq_false_iff_ne]; omega
  clear he hg hr0
  have HS := Lib.hid (fun W => rsimple_any (s[at0 + 1]'hin).toNat W hlt)
  generalize simN (((s[at0 + 1]'hin).toNat : Nat) : Int) = m at *
  have g1 : (((s[at0 + 1]'hin).toNat : Int) == 120) = false := by rw [beq_eq_false_iff_ne]; omega
  have g2 : (((s[at0 + 1]'hin).toNat : Int) == 117) = false := by rw [beq_eq_false_iff_ne]; omega
  have g3 : (((s[at0 + 1]'hin).toNat : Int) == 48) = false := by rw [beq_eq_false_iff_ne]; omega
  have h4' : ((s[at0 + 1]'hin).toNat : Int) < 49 ∨ 57 < ((s[at0 + 1]'hin).toNat : Int) := by omega
  clear h1 h2 h3 h4
  rcases h4' with h4 | h4
  all_goals
    go_enter Tryd.func30, Tryd.ntmps30
    go_wp2_with (first
      | (go_at_call 37
         refine (HS.out _).mono ?_
         rintro e w1 ⟨rfl, hb⟩
         have hA := Blk.below (Blk.alloc (Blk.new w _ _) _) hb
         have hP : Blk w1 (w.heap.size + 1) _ _ := Blk.below (Blk.new' _ _ (by simp)) hb
         obtain ⟨a0, a1, a2, a3, z0, z1, z2, z3⟩ := hA.four
         obtain ⟨p0, p1, p2, p3, y0, y1, y2, y3⟩ := hP.four
         have HB1 := Lib.hid ((((Below.refl _ w).alloc (Nat.le_refl _) _).alloc (by simp) _).trans (hb.mono (by simp; omega)))
         have hz := hb.size
         simp at hz
         have HA := Lib.hid hA
         have HP := Lib.hid hP
         clear hb hA hP)
      | (go_at_call 31; refine (HR.out _).mono ?_; rintro e w2 ⟨rfl, rfl⟩)
      | (go_at_call 38; refine (HE.out _).mono ?_; rintro e w3 ⟨rfl, rfl⟩))
    refine bodyPost_ret (v := .tuple #[.agg #[.int .i64 (at0 : Int), .int .i64 ((at0 : Int) + 1 + n), (.slice none 0 0), .int .i64 0], .bool true]) (by simp [results, Tryd.results30, go_sem, a0, a1, a2, a3]) rfl ⟨escOut_ok HG.out (by omega) (.inl ⟨rfl, rfl⟩) HCH.out, ?_⟩
    exact ((((HB1.out.setCell (by simp) _).setCell (by simp) _).setCell (by simp) _).setCell (by simp) _).setCell (by simp) _

set_option maxHeartbeats 4000000 in
theorem rescape_plain (h1 : (s[at0 + 1]'hin).toNat ≠ 120) (h2 : (s[at0 + 1]'hin).toNat ≠ 117) (h3 : (s[at0 + 1]'hin).toNat ≠ 48) (h4 : (s[at0 + 1]'hin).toNat < 49 ∨ 57 < (s[at0 + 1]'hin).toNat) (h5 : simN (((s[at0 + 1]'hin).toNat : Nat) : Int) < 0) (hl : lenB s (at0 + 1) ≠ 0) (hr0 : ¬ ((Utf8.decode s (at0 + 1)).1 = 10 ∨ (Utf8.decode s (at0 + 1)).1 = 13 ∨ (Utf8.decode s (at0 + 1)).1 = 8232 ∨ (Utf8.decode s (at0 + 1)).1 = 8233)) (hr1 : ¬ (49 ≤ (Utf8.decode s (at0 + 1)).1 ∧ (Utf8.decode s (at0 + 1)).1 ≤ 57)) (hr2 : ¬ ((Utf8.decode s (at0 + 1)).1 = 48 ∨ (Utf8.decode s (at0 + 1)).1 = 120 ∨ (Utf8.decode s (at0 + 1)).1 = 117)) (hr3 : simN (((Utf8.decode s (at0 + 1)).1 : Nat) : Int) < 0) :
    Calls Tryd.prog 30 #[.string s, .int .i64 (at0 : Int)] w fun e w' => EscOut s at0 w.heap.size e w' ∧ Below w.heap.size w w' := by
  have hlt := (s[at0 + 1]'hin).toNat_lt
  have HR := Lib.hid (fun W => rune_at s (at0 + 1) (y := (at0 : Int) + 1) W (by omega) hin (by omega))
  have hg := escB_in s at0 hin hl
  have hn1 := decode_pos s (at0 + 1)
  have hn2 := decode_in s (at0 + 1) hin
  have ht := decode_top s (at0 + 1)
  have hr : runeB s (at0 + 1) = (((Utf8.decode s (at0 + 1)).1 : Nat) : Int) := by unfold runeB; rw [if_neg hl]
  rw [hr] at HR
  have HCH := Lib.hid (chB_r (s := s) (at0 := at0) rfl (by omega))
  generalize (Utf8.decode s (at0 + 1)).1 = r at *
  generalize (Utf8.decode s (at0 + 1)).2 = n at *
  clear hl hr
  have HG : Hid (escB s at0 = ⟨r, at0 + 1 + n, true⟩) := Lib.hid (by rw [hg]; unfold escR; rw [if_neg (by omega), if_neg (by omega), if_neg (by omega), if_neg (by omega), if_neg (by omega), if_neg (by omega), if_neg (by omega), if_neg (by omega)])
  have HE := Lib.hid (fun W => rends_any (r : Int) W)
  have he : endB (r : Int) = false := by simp [endB]; omega
  rw [he] at HE
  have HU := Lib.hid (fun W => runits_any (r : Int) W (by omega) (by omega))
  have g6 : ((r : Int) == 13) = false := by rw [beq_eq_false_iff_ne]; omega
  clear he hg hr0 hr1 hr2 hr3
  have HS := Lib.hid (fun W => rsimple_any (s[at0 + 1]'hin).toNat W hlt)
  generalize simN (((s[at0 + 1]'hin).toNat : Nat) : Int) = m at *
  have g1 : (((s[at0 + 1]'hin).toNat : Int) == 120) = false := by rw [beq_eq_false_iff_ne]; omega
  have g2 : (((s[at0 + 1]'hin).toNat : Int) == 117) = false := by rw [beq_eq_false_iff_ne]; omega
  have g3 : (((s[at0 + 1]'hin).toNat : Int) == 48) = false := by rw [beq_eq_false_iff_ne]; omega
  have h4' : ((s[at0 + 1]'hin).toNat : Int) < 49 ∨ 57 < ((s[at0 + 1]'hin).toNat : Int) := by omega
  clear h1 h2 h3 h4
  rcases h4' with h4 | h4
  all_goals
    go_enter Tryd.func30, Tryd.ntmps30
    go_wp2_with (first
      | (go_at_call 37
         refine (HS.out _).mono ?_
         rintro e w1 ⟨rfl, hb⟩
         have hA := Blk.below (Blk.alloc (Blk.new w _ _) _) hb
         have hP : Blk w1 (w.heap.size + 1) _ _ := Blk.below (Blk.new' _ _ (by simp)) hb
         obtain ⟨a0, a1, a2, a3, z0, z1, z2, z3⟩ := hA.four
         obtain ⟨p0, p1, p2, p3, y0, y1, y2, y3⟩ := hP.four
         have HB1 := Lib.hid ((((Below.refl _ w).alloc (Nat.le_refl _) _).alloc (by simp) _).trans (hb.mono (by simp; omega)))
         have hz := hb.size
         simp at hz
         have HA := Lib.hid hA
         have HP := Lib.hid hP
         clear hb hA hP)
      | (go_at_call 31; refine (HR.out _).mono ?_; rintro e w2 ⟨rfl, rfl⟩)
      | (go_at_call 38; refine (HE.out _).mono ?_; rintro e w3 ⟨rfl, rfl⟩))
    refine (HU.out _).mono ?_
    rintro e w2 ⟨g, q, rfl, hu, hb⟩
    have hA := Blk.below (HA.out.set_other (a := ⟨w.heap.size + 1, 1, none⟩) (by simp) _) hb
    have hP := Blk.below (HP.out.set 1 _) hb
    clear a0 a1 a2 a3 z0 z1 z2 z3 p0 p1 p2 p3 y0 y1 y2 y3
    obtain ⟨a0, a1, a2, a3, z0, z1, z2, z3⟩ := hA.four
    obtain ⟨p0, p1, p2, p3, y0, y1, y2, y3⟩ := hP.four
    have HB2 := Lib.hid ((HB1.out.setCell (p := ⟨w.heap.size + 1, 1, none⟩) (by simp) _).trans (hb.mono (by simp; omega)))
    have HUA := Lib.hid (hu.low (show w.heap.size + 2 ≤ _ by simp; omega))
    have hz2 := hb.size
    simp at hz2
    have hz3 : w.heap.size + 1 < w2.heap.size := by omega
    have hz4 : w.heap.size < w2.heap.size := by omega
    clear hb hA hP hz hz2 hu
    go_wp2_with fail
    refine bodyPost_ret (v := .tuple #[.agg #[.int .i64 (at0 : Int), .int .i64 ((at0 : Int) + 1 + n), (.slice (some ⟨g, 0, none⟩) q q), .int .i64 (r : Int)], .bool true]) (by simp [results, Tryd.results30, go_sem, a0, a1, a2, a3, hz4]) rfl ⟨escOut_ok HG.out (by omega) (((((((HUA.out.set (by simp) _).set (by simp) _).set (by simp) _).set (by simp) _).set (by simp) _).set (by simp) _).low (by omega)) HCH.out, ?_⟩
    exact (((((HB2.out.setCell (by simp) _).setCell (by simp) _).setCell (by simp) _).setCell (by simp) _).setCell (by simp) _).setCell (by simp) _

set_option maxHeartbeats 4000000 in
theorem rescape_crlf (h1 : (s[at0 + 1]'hin).toNat ≠ 120) (h2 : (s[at0 + 1]'hin).toNat ≠ 117) (h3 : (s[at0 + 1]'hin).toNat ≠ 48) (h4 : (s[at0 + 1]'hin).toNat < 49 ∨ 57 < (s[at0 + 1]'hin).toNat) (h5 : simN (((s[at0 + 1]'hin).toNat : Nat) : Int) < 0) (hc13 : (s[at0 + 1]'hin).toNat = 13) (hin2 : at0 + 2 < s.size) (hb : (s[at0 + 2]'hin2).toNat = 10) :
    Calls Tryd.prog 30 #[.string s, .int .i64 (at0 : Int)] w fun e w' => EscOut s at0 w.heap.size e w' ∧ Below w.heap.size w w' := by
  have hlt := (s[at0 + 1]'hin).toNat_lt
  have HR := Lib.hid (fun W => rune_at s (at0 + 1) (y := (at0 : Int) + 1) W (by omega) hin (by omega))
  obtain ⟨k1, k2⟩ := escB_of s at0 13 hin (by rw [← byt_eq s (at0 + 1) hin, hc13]) (by decide)
  have HCH := Lib.hid (chB_0 k2 (by decide))
  have hd := decode_ascii s (at0 + 1) hin (by omega)
  have hr : runeB s (at0 + 1) = 13 := by unfold runeB; rw [hd, lenB_1 s (at0 + 1) (by rw [← byt_eq s (at0 + 1) hin]; omega), hc13]; rfl
  rw [hd, hr] at HR
  have HE := Lib.hid (fun W => rends_any 13 W)
  have HG : Hid (escB s at0 = ⟨-1, at0 + 3, true⟩) := Lib.hid (by rw [k1]; unfold escR; rw [if_neg (by omega), if_neg (by omega), if_neg (by omega), if_neg (by omega), if_neg (by omega), if_pos ⟨rfl, isByte_at hin2 hb⟩])
  have g6 : ((s[at0 + 2]'hin2).toNat : Int) = 10 := by omega
  clear hb
  have g7 : (at0 : Int) + 1 + 1 < (s.size : Int) := by omega
  clear k1 k2 hd hr hc13
  have HS := Lib.hid (fun W => rsimple_any (s[at0 + 1]'hin).toNat W hlt)
  generalize simN (((s[at0 + 1]'hin).toNat : Nat) : Int) = m at *
  have g1 : (((s[at0 + 1]'hin).toNat : Int) == 120) = false := by rw [beq_eq_false_iff_ne]; omega
  have g2 : (((s[at0 + 1]'hin).toNat : Int) == 117) = false := by rw [beq_eq_false_iff_ne]; omega
  have g3 : (((s[at0 + 1]'hin).toNat : Int) == 48) = false := by rw [beq_eq_false_iff_ne]; omega
  have h4' : ((s[at0 + 1]'hin).toNat : Int) < 49 ∨ 57 < ((s[at0 + 1]'hin).toNat : Int) := by omega
  clear h1 h2 h3 h4
  rcases h4' with h4 | h4
  all_goals
    go_enter Tryd.func30, Tryd.ntmps30
    go_wp2_with (first
      | (go_at_call 37
         refine (HS.out _).mono ?_
         rintro e w1 ⟨rfl, hb⟩
         have hA := Blk.below (Blk.alloc (Blk.new w _ _) _) hb
         have hP : Blk w1 (w.heap.size + 1) _ _ := Blk.below (Blk.new' _ _ (by simp)) hb
         obtain ⟨a0, a1, a2, a3, z0, z1, z2, z3⟩ := hA.four
         obtain ⟨p0, p1, p2, p3, y0, y1, y2, y3⟩ := hP.four
         have HB1 := Lib.hid ((((Below.refl _ w).alloc (Nat.le_refl _) _).alloc (by simp) _).trans (hb.mono (by simp; omega)))
         have hz := hb.size
         simp at hz
         have HA := Lib.hid hA
         have HP := Lib.hid hP
         clear hb hA hP)
      | (go_at_call 31; refine (HR.out _).mono ?_; rintro e w2 ⟨rfl, rfl⟩)
      | (go_at_call 38; refine (HE.out _).mono ?_; rintro e w3 ⟨rfl, rfl⟩))
    refine bodyPost_ret (v := .tuple #[.agg #[.int .i64 (at0 : Int), .int .i64 ((at0 : Int) + 1 + 1 + 1), (.slice none 0 0), .int .i64 0], .bool true]) (by simp [results, Tryd.results30, go_sem, a0, a1, a2, a3]) rfl ⟨escOut_ok HG.out (by omega) (.inl ⟨rfl, rfl⟩) HCH.out, ?_⟩
    exact (((((HB1.out.setCell (by simp) _).setCell (by simp) _).setCell (by simp) _).setCell (by simp) _).setCell (by simp) _).setCell (by simp) _

set_option maxHeartbeats 4000000 in
theorem rescape_cr (h1 : (s[at0 + 1]'hin).toNat ≠ 120) (h2 : (s[at0 + 1]'hin).toNat ≠ 117) (h3 : (s[at0 + 1]'hin).toNat ≠ 48) (h4 : (s[at0 + 1]'hin).toNat < 49 ∨ 57 < (s[at0 + 1]'hin).toNat) (h5 : simN (((s[at0 + 1]'hin).toNat : Nat) : Int) < 0) (hc13 : (s[at0 + 1]'hin).toNat = 13) (hin2 : at0 + 2 < s.size) (hb : (s[at0 + 2]'hin2).toNat ≠ 10) :
    Calls Tryd.prog 30 #[.string s, .int .i64 (at0 : Int)] w fun e w' => EscOut s at0 w.heap.size e w' ∧ Below w.heap.size w w' := by
  have hlt := (s[at0 + 1]'hin).toNat_lt
  have HR := Lib.hid (fun W => rune_at s (at0 + 1) (y := (at0 : Int) + 1) W (by omega) hin (by omega))
  obtain ⟨k1, k2⟩ := escB_of s at0 13 hin (by rw [← byt_eq s (at0 + 1) hin, hc13]) (by decide)
  have HCH := Lib.hid (chB_0 k2 (by decide))
  have hd := decode_ascii s (at0 + 1) hin (by omega)
  have hr : runeB s (at0 + 1) = 13 := by unfold runeB; rw [hd, lenB_1 s (at0 + 1) (by rw [← byt_eq s (at0 + 1) hin]; omega), hc13]; rfl
  rw [hd, hr] at HR
  have HE := Lib.hid (fun W => rends_any 13 W)
  have HG : Hid (escB s at0 = ⟨-1, at0 + 2, true⟩) := Lib.hid (by rw [k1]; unfold escR; rw [if_neg (by omega), if_neg (by omega), if_neg (by omega), if_neg (by omega), if_neg (by omega), if_neg (by rintro ⟨_, h⟩; rw [isByte_not hin2 hb] at h; cases h), if_pos (by omega)])
  have g6 : (((s[at0 + 2]'hin2).toNat : Int) == 10) = false := by rw [beq_eq_false_iff_ne]; omega
  clear hb
  have g7 : (at0 : Int) + 1 + 1 < (s.size : Int) := by omega
  clear k1 k2 hd hr hc13
  have HS := Lib.hid (fun W => rsimple_any (s[at0 + 1]'hin).toNat W hlt)
  generalize simN (((s[at0 + 1]'hin).toNat : Nat) : Int) = m at *
  have g1 : (((s[at0 + 1]'hin).toNat : Int) == 120) = false := by rw [beq_eq_false_iff_ne]; omega
  have g2 : (((s[at0 + 1]'hin).toNat : Int) == 117) = false := by rw [beq_eq_false_iff_ne]; omega
  have g3 : (((s[at0 + 1]'hin).toNat : Int) == 48) = false := by rw [beq_eq_false_iff_ne]; omega
  have h4' : ((s[at0 + 1]'hin).toNat : Int) < 49 ∨ 57 < ((s[at0 + 1]'hin).toNat : Int) := by omega
  clear h1 h2 h3 h4
  rcases h4' with h4 | h4
  all_goals
    go_enter Tryd.func30, Tryd.ntmps30
    go_wp2_with (first
      | (go_at_call 37
         refine (HS.out _).mono ?_
         rintro e w1 ⟨rfl, hb⟩
         have hA := Blk.below (Blk.alloc (Blk.new w _ _) _) hb
         have hP : Blk w1 (w.heap.size + 1) _ _ := Blk.below (Blk.new' _ _ (by simp)) hb
         obtain ⟨a0, a1, a2, a3, z0, z1, z2, z3⟩ := hA.four
         obtain ⟨p0, p1, p2, p3, y0, y1, y2, y3⟩ := hP.four
         have HB1 := Lib.hid ((((Below.refl _ w).alloc (Nat.le_refl _) _).alloc (by simp) _).trans (hb.mono (by simp; omega)))
         have hz := hb.size
         simp at hz
         have HA := Lib.hid hA
         have HP := Lib.hid hP
         clear hb hA hP)
      | (go_at_call 31; refine (HR.out _).mono ?_; rintro e w2 ⟨rfl, rfl⟩)
      | (go_at_call 38; refine (HE.out _).mono ?_; rintro e w3 ⟨rfl, rfl⟩))
    refine bodyPost_ret (v := .tuple #[.agg #[.int .i64 (at0 : Int), .int .i64 ((at0 : Int) + 1 + 1), (.slice none 0 0), .int .i64 0], .bool true]) (by simp [results, Tryd.results30, go_sem, a0, a1, a2, a3]) rfl ⟨escOut_ok HG.out (by omega) (.inl ⟨rfl, rfl⟩) HCH.out, ?_⟩
    exact ((((HB1.out.setCell (by simp) _).setCell (by simp) _).setCell (by simp) _).setCell (by simp) _).setCell (by simp) _

set_option maxHeartbeats 4000000 in
theorem rescape_cr_end (h1 : (s[at0 + 1]'hin).toNat ≠ 120) (h2 : (s[at0 + 1]'hin).toNat ≠ 117) (h3 : (s[at0 + 1]'hin).toNat ≠ 48) (h4 : (s[at0 + 1]'hin).toNat < 49 ∨ 57 < (s[at0 + 1]'hin).toNat) (h5 : simN (((s[at0 + 1]'hin).toNat : Nat) : Int) < 0) (hc13 : (s[at0 + 1]'hin).toNat = 13) (hin2 : ¬ at0 + 2 < s.size) :
    Calls Tryd.prog 30 #[.string s, .int .i64 (at0 : Int)] w fun e w' => EscOut s at0 w.heap.size e w' ∧ Below w.heap.size w w' := by
  have hlt := (s[at0 + 1]'hin).toNat_lt
  have HR := Lib.hid (fun W => rune_at s (at0 + 1) (y := (at0 : Int) + 1) W (by omega) hin (by omega))
  obtain ⟨k1, k2⟩ := escB_of s at0 13 hin (by rw [← byt_eq s (at0 + 1) hin, hc13]) (by decide)
  have HCH := Lib.hid (chB_0 k2 (by decide))
  have hd := decode_ascii s (at0 + 1) hin (by omega)
  have hr : runeB s (at0 + 1) = 13 := by unfold runeB; rw [hd, lenB_1 s (at0 + 1) (by rw [← byt_eq s (at0 + 1) hin]; omega), hc13]; rfl
  rw [hd, hr] at HR
  have HE := Lib.hid (fun W => rends_any 13 W)
  have HG : Hid (escB s at0 = ⟨-1, at0 + 2, true⟩) := Lib.hid (by rw [k1]; unfold escR; rw [if_neg (by omega), if_neg (by omega), if_neg (by omega), if_neg (by omega), if_neg (by omega), if_neg (by rintro ⟨_, h⟩; rw [isByte_out hin2] at h; cases h), if_pos (by omega)])
  have g7 : (s.size : Int) ≤ (at0 : Int) + 1 + 1 := by omega
  clear k1 k2 hd hr hc13
  have HS := Lib.hid (fun W => rsimple_any (s[at0 + 1]'hin).toNat W hlt)
  generalize simN (((s[at0 + 1]'hin).toNat : Nat) : Int) = m at *
  have g1 : (((s[at0 + 1]'hin).toNat : Int) == 120) = false := by rw [beq_eq_false_iff_ne]; omega
  have g2 : (((s[at0 + 1]'hin).toNat : Int) == 117) = false := by rw [beq_eq_false_iff_ne]; omega
  have g3 : (((s[at0 + 1]'hin).toNat : Int) == 48) = false := by rw [beq_eq_false_iff_ne]; omega
  have h4' : ((s[at0 + 1]'hin).toNat : Int) < 49 ∨ 57 < ((s[at0 + 1]'hin).toNat : Int) := by omega
  clear h1 h2 h3 h4
  rcases h4' with h4 | h4
  all_goals
    go_enter Tryd.func30, Tryd.ntmps30
    go_wp2_with (first
      | (go_at_call 37
         refine (HS.out _).mono ?_
         rintro e w1 ⟨rfl, hb⟩
         have hA := Blk.below (Blk.alloc (Blk.new w _ _) _) hb
         have hP : Blk w1 (w.heap.size + 1) _ _ := Blk.below (Blk.new' _ _ (by simp)) hb
         obtain ⟨a0, a1, a2, a3, z0, z1, z2, z3⟩ := hA.four
         obtain ⟨p0, p1, p2, p3, y0, y1, y2, y3⟩ := hP.four
         have HB1 := Lib.hid ((((Below.refl _ w).alloc (Nat.le_refl _) _).alloc (by simp) _).trans (hb.mono (by simp; omega)))
         have hz := hb.size
         simp at hz
         have HA := Lib.hid hA
         have HP := Lib.hid hP
         clear hb hA hP)
      | (go_at_call 31; refine (HR.out _).mono ?_; rintro e w2 ⟨rfl, rfl⟩)
      | (go_at_call 38; refine (HE.out _).mono ?_; rintro e w3 ⟨rfl, rfl⟩))
    refine bodyPost_ret (v := .tuple #[.agg #[.int .i64 (at0 : Int), .int .i64 ((at0 : Int) + 1 + 1), (.slice none 0 0), .int .i64 0], .bool true]) (by simp [results, Tryd.results30, go_sem, a0, a1, a2, a3]) rfl ⟨escOut_ok HG.out (by omega) (.inl ⟨rfl, rfl⟩) HCH.out, ?_⟩
    exact ((((HB1.out.setCell (by simp) _).setCell (by simp) _).setCell (by simp) _).setCell (by simp) _).setCell (by simp) _

end
end Go.Proofs.YtcjnlbelgmcpeaaDoor
