/- The reference's escape of a string literal: its branches, part one. -/
import Derived.Test.YtcjnlbelgmcpeaaDoorRefStrEsc
namespace Go.Proofs.YtcjnlbelgmcpeaaDoor
open Go.RowKit
set_option maxRecDepth 100000
set_option linter.unusedVariables false
set_option linter.unusedSimpArgs false
set_option linter.unusedSectionVars false
section
variable (s : ByteArray) (at0 : Nat) (w : World) (hs : s.size ≤ 4194304)
include hs

variable (hin : at0 + 1 < s.size)
include hin

set_option maxHeartbeats 4000000 in
theorem rescape_x (hc : (s[at0 + 1]'hin).toNat = 120) :
    Calls Tryd.prog 30 #[.string s, .int .i64 (at0 : Int)] w fun e w' => EscOut s at0 w.heap.size e w' ∧ Below w.heap.size w w' := by
  obtain ⟨h1, h2⟩ := escB_of s at0 120 hin (by rw [← byt_eq s (at0 + 1) hin, hc]) (by decide)
  have g1 : ((s[at0 + 1]'hin).toNat : Int) = 120 := by omega
  have HCH := Lib.hid (chB_0 h2 (by decide))
  have hg : escB s at0 = gotOf (digF s 2 (at0 + 2) 0) := by rw [h1]; unfold escR; rfl
  have hbd := fun y => digF_bd s 2 (at0 + 2) 0 y
  have HD := Lib.hid (fun W => rdigits_any s (at0 + 2) 2 (y := (at0 : Int) + 2) W hs (by omega) (by decide) (by omega))
  cases hd : digF s 2 (at0 + 2) 0 with | mk o p => _
  rw [hd] at hg hbd HD
  clear h1 h2 hc
  cases o with
  | none =>
    have HG : Hid (escB s at0 = ⟨0, p, false⟩) := Lib.hid hg
    clear hg hbd hd
    go_enter Tryd.func30, Tryd.ntmps30
    go_wp2_with (go_at_call 35; refine (HD.out _).mono ?_; rintro e w1 ⟨rfl, rfl⟩; simp only [rval])
    refine bodyPost_ret (v := .tuple #[.agg #[.int .i64 (at0 : Int), .int .i64 (p : Int), (.slice (some ⟨w.heap.size + 1 + 1, 0, none⟩) 1 1), .int .i64 0], .bool false]) (by simp [results, Tryd.results30, go_sem]) rfl ⟨escOut_bad HG.out rfl, ?_⟩
    exact (((Below.refl _ w).alloc (Nat.le_refl _) _).alloc (by simp) _).alloc (by simp; omega) _
  | some x =>
    have hx := hbd x rfl
    have HG : Hid (escB s at0 = ⟨x, p, true⟩) := Lib.hid hg
    clear hg hbd hd
    go_enter Tryd.func30, Tryd.ntmps30
    go_wp2_with (go_at_call 35; refine (HD.out _).mono ?_; rintro e w1 ⟨rfl, rfl⟩; simp only [rval])
    refine bodyPost_ret (v := .tuple #[.agg #[.int .i64 (at0 : Int), .int .i64 (p : Int), (.slice (some ⟨w.heap.size + 1 + 1, 0, none⟩) 1 1), .int .i64 0], .bool true]) (by simp [results, Tryd.results30, go_sem]) rfl ⟨escOut_ok HG.out rfl (unitsAt_one (by omega) (by omega) (by omega) (Blk.new' _ _ (by simp))) HCH.out, ?_⟩
    exact (((Below.refl _ w).alloc (Nat.le_refl _) _).alloc (by simp) _).alloc (by simp; omega) _

set_option maxHeartbeats 4000000 in
theorem rescape_u (hc : (s[at0 + 1]'hin).toNat = 117) (hin2 : at0 + 2 < s.size) (hb : (s[at0 + 2]'hin2).toNat ≠ 123) :
    Calls Tryd.prog 30 #[.string s, .int .i64 (at0 : Int)] w fun e w' => EscOut s at0 w.heap.size e w' ∧ Below w.heap.size w w' := by
  obtain ⟨h1, h2⟩ := escB_of s at0 117 hin (by rw [← byt_eq s (at0 + 1) hin, hc]) (by decide)
  have g1 : ((s[at0 + 1]'hin).toNat : Int) = 117 := by omega
  have HCH := Lib.hid (chB_0 h2 (by decide))
  have hg : escB s at0 = gotOf (digF s 4 (at0 + 2) 0) := by rw [h1]; unfold escR; rw [if_neg (by omega), if_neg (by omega), if_neg (by omega), if_neg (by rintro ⟨_, h⟩; rw [isByte_not hin2 hb] at h; cases h), if_pos rfl]
  have hbd := fun y => digF_bd s 4 (at0 + 2) 0 y
  have HD := Lib.hid (fun W => rdigits_any s (at0 + 2) 4 (y := (at0 : Int) + 2) W hs (by omega) (by decide) (by omega))
  cases hd : digF s 4 (at0 + 2) 0 with | mk o p => _
  rw [hd] at hg hbd HD
  clear h1 h2 hc
  have g2 : (((s[at0 + 2]'hin2).toNat : Int) == 123) = false := by rw [beq_eq_false_iff_ne]; omega
  have g3 : (at0 : Int) + 2 < (s.size : Int) := by omega
  clear hb
  cases o with
  | none =>
    have HG : Hid (escB s at0 = ⟨0, p, false⟩) := Lib.hid hg
    clear hg hbd hd
    go_enter Tryd.func30, Tryd.ntmps30
    go_wp2_with (go_at_call 35; refine (HD.out _).mono ?_; rintro e w1 ⟨rfl, rfl⟩; simp only [rval])
    refine bodyPost_ret (v := .tuple #[.agg #[.int .i64 (at0 : Int), .int .i64 (p : Int), (.slice (some ⟨w.heap.size + 1 + 1, 0, none⟩) 1 1), .int .i64 0], .bool false]) (by simp [results, Tryd.results30, go_sem]) rfl ⟨escOut_bad HG.out rfl, ?_⟩
    exact (((Below.refl _ w).alloc (Nat.le_refl _) _).alloc (by simp) _).alloc (by simp; omega) _
  | some x =>
    have hx := hbd x rfl
    have HG : Hid (escB s at0 = ⟨x, p, true⟩) := Lib.hid hg
    clear hg hbd hd
    go_enter Tryd.func30, Tryd.ntmps30
    go_wp2_with (go_at_call 35; refine (HD.out _).mono ?_; rintro e w1 ⟨rfl, rfl⟩; simp only [rval])
    refine bodyPost_ret (v := .tuple #[.agg #[.int .i64 (at0 : Int), .int .i64 (p : Int), (.slice (some ⟨w.heap.size + 1 + 1, 0, none⟩) 1 1), .int .i64 0], .bool true]) (by simp [results, Tryd.results30, go_sem]) rfl ⟨escOut_ok HG.out rfl (unitsAt_one (by omega) (by omega) (by omega) (Blk.new' _ _ (by simp))) HCH.out, ?_⟩
    exact (((Below.refl _ w).alloc (Nat.le_refl _) _).alloc (by simp) _).alloc (by simp; omega) _

set_option maxHeartbeats 4000000 in
theorem rescape_u_end (hc : (s[at0 + 1]'hin).toNat = 117) (hin2 : ¬ at0 + 2 < s.size) :
    Calls Tryd.prog 30 #[.string s, .int .i64 (at0 : Int)] w fun e w' => EscOut s at0 w.heap.size e w' ∧ Below w.heap.size w w' := by
  obtain ⟨h1, h2⟩ := escB_of s at0 117 hin (by rw [← byt_eq s (at0 + 1) hin, hc]) (by decide)
  have g1 : ((s[at0 + 1]'hin).toNat : Int) = 117 := by omega
  have HCH := Lib.hid (chB_0 h2 (by decide))
  have hg : escB s at0 = gotOf (digF s 4 (at0 + 2) 0) := by rw [h1]; unfold escR; rw [if_neg (by omega), if_neg (by omega), if_neg (by omega), if_neg (by rintro ⟨_, h⟩; rw [isByte_out hin2] at h; cases h), if_pos rfl]
  have hbd := fun y => digF_bd s 4 (at0 + 2) 0 y
  have HD := Lib.hid (fun W => rdigits_any s (at0 + 2) 4 (y := (at0 : Int) + 2) W hs (by omega) (by decide) (by omega))
  cases hd : digF s 4 (at0 + 2) 0 with | mk o p => _
  rw [hd] at hg hbd HD
  clear h1 h2 hc
  have g3 : (s.size : Int) ≤ (at0 : Int) + 2 := by omega
  cases o with
  | none =>
    have HG : Hid (escB s at0 = ⟨0, p, false⟩) := Lib.hid hg
    clear hg hbd hd
    go_enter Tryd.func30, Tryd.ntmps30
    go_wp2_with (go_at_call 35; refine (HD.out _).mono ?_; rintro e w1 ⟨rfl, rfl⟩; simp only [rval])
    refine bodyPost_ret (v := .tuple #[.agg #[.int .i64 (at0 : Int), .int .i64 (p : Int), (.slice (some ⟨w.heap.size + 1 + 1, 0, none⟩) 1 1), .int .i64 0], .bool false]) (by simp [results, Tryd.results30, go_sem]) rfl ⟨escOut_bad HG.out rfl, ?_⟩
    exact (((Below.refl _ w).alloc (Nat.le_refl _) _).alloc (by simp) _).alloc (by simp; omega) _
  | some x =>
    have hx := hbd x rfl
    have HG : Hid (escB s at0 = ⟨x, p, true⟩) := Lib.hid hg
    clear hg hbd hd
    go_enter Tryd.func30, Tryd.ntmps30
    go_wp2_with (go_at_call 35; refine (HD.out _).mono ?_; rintro e w1 ⟨rfl, rfl⟩; simp only [rval])
    refine bodyPost_ret (v := .tuple #[.agg #[.int .i64 (at0 : Int), .int .i64 (p : Int), (.slice (some ⟨w.heap.size + 1 + 1, 0, none⟩) 1 1), .int .i64 0], .bool true]) (by simp [results, Tryd.results30, go_sem]) rfl ⟨escOut_ok HG.out rfl (unitsAt_one (by omega) (by omega) (by omega) (Blk.new' _ _ (by simp))) HCH.out, ?_⟩
    exact (((Below.refl _ w).alloc (Nat.le_refl _) _).alloc (by simp) _).alloc (by simp; omega) _

set_option maxHeartbeats 4000000 in
theorem rescape_0_end (hc : (s[at0 + 1]'hin).toNat = 48) (hin2 : ¬ at0 + 2 < s.size) :
    Calls Tryd.prog 30 #[.string s, .int .i64 (at0 : Int)] w fun e w' => EscOut s at0 w.heap.size e w' ∧ Below w.heap.size w w' := by
  obtain ⟨h1, h2⟩ := escB_of s at0 48 hin (by rw [← byt_eq s (at0 + 1) hin, hc]) (by decide)
  have g1 : ((s[at0 + 1]'hin).toNat : Int) = 48 := by omega
  have HCH := Lib.hid (chB_0 h2 (by decide))
  have HG : Hid (escB s at0 = ⟨0, at0 + 2, true⟩) := Lib.hid (by rw [h1]; unfold escR; rw [if_neg (by omega), if_pos rfl, if_neg (by rw [isDig_out hin2]; decide)])
  clear h1 h2 hc
  have g3 : decide ((s.size : Int) ≤ (at0 : Int) + 2) = true := by simp; omega
  go_enter Tryd.func30, Tryd.ntmps30
  go_wp2_with fail
  have hp2 : 0 ≤ (at0 : Int) + 2 := by omega
  have ht2 : ((at0 : Int) + 2).toNat = at0 + 2 := by omega
  have hw2 : IntKind.i64.wrap ((at0 : Int) + 2) = (at0 : Int) + 2 := IntWalk.i64_in _ (by omega)
  go_region
  clear hw2
  go_wp2_with fail
  refine bodyPost_ret (v := .tuple #[.agg #[.int .i64 (at0 : Int), .int .i64 ((at0 : Int) + 2), (.slice (some ⟨w.heap.size + 1 + 1, 0, none⟩) 1 1), .int .i64 0], .bool true]) (by simp [results, Tryd.results30, go_sem]) rfl ⟨escOut_ok HG.out (by omega) (unitsAt_one (by omega) (by omega) (by omega) (Blk.new' _ _ (by simp))) HCH.out, ?_⟩
  exact below_drewN ((((Below.refl _ w).alloc (Nat.le_refl _) _).alloc (by simp) _).alloc (by simp; omega) _) 1

set_option maxHeartbeats 4000000 in
theorem rescape_0_low (hc : (s[at0 + 1]'hin).toNat = 48) (hin2 : at0 + 2 < s.size) (hb : (s[at0 + 2]'hin2).toNat < 48) :
    Calls Tryd.prog 30 #[.string s, .int .i64 (at0 : Int)] w fun e w' => EscOut s at0 w.heap.size e w' ∧ Below w.heap.size w w' := by
  obtain ⟨h1, h2⟩ := escB_of s at0 48 hin (by rw [← byt_eq s (at0 + 1) hin, hc]) (by decide)
  have g1 : ((s[at0 + 1]'hin).toNat : Int) = 48 := by omega
  have HCH := Lib.hid (chB_0 h2 (by decide))
  have HG : Hid (escB s at0 = ⟨0, at0 + 2, true⟩) := Lib.hid (by rw [h1]; unfold escR; rw [if_neg (by omega), if_pos rfl, if_neg (by rw [isDig_at hin2]; simp; omega)])
  clear h1 h2 hc
  have g3 : decide ((s.size : Int) ≤ (at0 : Int) + 2) = false := by simp; omega
  have g6 : (at0 : Int) + 2 < (s.size : Int) := by omega
  have g4 : decide (((s[at0 + 2]'hin2).toNat : Int) < 48) = true := by simp; omega
  go_enter Tryd.func30, Tryd.ntmps30
  go_wp2_with fail
  have hp2 : 0 ≤ (at0 : Int) + 2 := by omega
  have ht2 : ((at0 : Int) + 2).toNat = at0 + 2 := by omega
  have hw2 : IntKind.i64.wrap ((at0 : Int) + 2) = (at0 : Int) + 2 := IntWalk.i64_in _ (by omega)
  go_region
  clear hw2
  go_wp2_with fail
  refine bodyPost_ret (v := .tuple #[.agg #[.int .i64 (at0 : Int), .int .i64 ((at0 : Int) + 2), (.slice (some ⟨w.heap.size + 1 + 1, 0, none⟩) 1 1), .int .i64 0], .bool true]) (by simp [results, Tryd.results30, go_sem]) rfl ⟨escOut_ok HG.out (by omega) (unitsAt_one (by omega) (by omega) (by omega) (Blk.new' _ _ (by simp))) HCH.out, ?_⟩
  exact below_drewN ((((Below.refl _ w).alloc (Nat.le_refl _) _).alloc (by simp) _).alloc (by simp; omega) _) 1

set_option maxHeartbeats 4000000 in
theorem rescape_0_high (hc : (s[at0 + 1]'hin).toNat = 48) (hin2 : at0 + 2 < s.size) (hb : 57 < (s[at0 + 2]'hin2).toNat) :
    Calls Tryd.prog 30 #[.string s, .int .i64 (at0 : Int)] w fun e w' => EscOut s at0 w.heap.size e w' ∧ Below w.heap.size w w' := by
  obtain ⟨h1, h2⟩ := escB_of s at0 48 hin (by rw [← byt_eq s (at0 + 1) hin, hc]) (by decide)
  have g1 : ((s[at0 + 1]'hin).toNat : Int) = 48 := by omega
  have HCH := Lib.hid (chB_0 h2 (by decide))
  have HG : Hid (escB s at0 = ⟨0, at0 + 2, true⟩) := Lib.hid (by rw [h1]; unfold escR; rw [if_neg (by omega), if_pos rfl, if_neg (by rw [isDig_at hin2]; simp; omega)])
  clear h1 h2 hc
  have g3 : decide ((s.size : Int) ≤ (at0 : Int) + 2) = false := by simp; omega
  have g6 : (at0 : Int) + 2 < (s.size : Int) := by omega
  have g4 : decide (57 < ((s[at0 + 2]'hin2).toNat : Int)) = true := by simp; omega
  have g5 : decide (((s[at0 + 2]'hin2).toNat : Int) < 48) = false := by simp; omega
  go_enter Tryd.func30, Tryd.ntmps30
  go_wp2_with fail
  have hp2 : 0 ≤ (at0 : Int) + 2 := by omega
  have ht2 : ((at0 : Int) + 2).toNat = at0 + 2 := by omega
  have hw2 : IntKind.i64.wrap ((at0 : Int) + 2) = (at0 : Int) + 2 := IntWalk.i64_in _ (by omega)
  go_region
  clear hw2
  go_wp2_with fail
  refine bodyPost_ret (v := .tuple #[.agg #[.int .i64 (at0 : Int), .int .i64 ((at0 : Int) + 2), (.slice (some ⟨w.heap.size + 1 + 1, 0, none⟩) 1 1), .int .i64 0], .bool true]) (by simp [results, Tryd.results30, go_sem]) rfl ⟨escOut_ok HG.out (by omega) (unitsAt_one (by omega) (by omega) (by omega) (Blk.new' _ _ (by simp))) HCH.out, ?_⟩
  exact below_drewN ((((Below.refl _ w).alloc (Nat.le_refl _) _).alloc (by simp) _).alloc (by simp; omega) _) 1

set_option maxHeartbeats 4000000 in
theorem rescape_0_bad (hc : (s[at0 + 1]'hin).toNat = 48) (hin2 : at0 + 2 < s.size) (hb : 48 ≤ (s[at0 + 2]'hin2).toNat) (hb' : (s[at0 + 2]'hin2).toNat ≤ 57) :
    Calls Tryd.prog 30 #[.string s, .int .i64 (at0 : Int)] w fun e w' => EscOut s at0 w.heap.size e w' ∧ Below w.heap.size w w' := by
  obtain ⟨h1, h2⟩ := escB_of s at0 48 hin (by rw [← byt_eq s (at0 + 1) hin, hc]) (by decide)
  have g1 : ((s[at0 + 1]'hin).toNat : Int) = 48 := by omega
  have HCH := Lib.hid (chB_0 h2 (by decide))
  have HG : Hid (escB s at0 = ⟨0, at0 + 2, false⟩) := Lib.hid (by rw [h1]; unfold escR; rw [if_neg (by omega), if_pos rfl, if_pos (by rw [isDig_at hin2]; simp; omega)])
  clear h1 h2 hc
  have g3 : decide ((s.size : Int) ≤ (at0 : Int) + 2) = false := by simp; omega
  have g6 : (at0 : Int) + 2 < (s.size : Int) := by omega
  have g4 : decide (57 < ((s[at0 + 2]'hin2).toNat : Int)) = false := by simp; omega
  have g5 : decide (((s[at0 + 2]'hin2).toNat : Int) < 48) = false := by simp; omega
  go_enter Tryd.func30, Tryd.ntmps30
  go_wp2_with fail
  have hp2 : 0 ≤ (at0 : Int) + 2 := by omega
  have ht2 : ((at0 : Int) + 2).toNat = at0 + 2 := by omega
  have hw2 : IntKind.i64.wrap ((at0 : Int) + 2) = (at0 : Int) + 2 := IntWalk.i64_in _ (by omega)
  go_region
  clear hw2
  go_wp2_with fail
  refine bodyPost_ret (v := .tuple #[.agg #[.int .i64 (at0 : Int), .int .i64 ((at0 : Int) + 2), (.slice (some ⟨w.heap.size + 1 + 1, 0, none⟩) 1 1), .int .i64 0], .bool false]) (by simp [results, Tryd.results30, go_sem]) rfl ⟨escOut_bad HG.out (by omega), ?_⟩
  exact below_drewN ((((Below.refl _ w).alloc (Nat.le_refl _) _).alloc (by simp) _).alloc (by simp; omega) _) 1

set_option maxHeartbeats 4000000 in
theorem rescape_brace (hc : (s[at0 + 1]'hin).toNat = 117) (hin2 : at0 + 2 < s.size) (hb : (s[at0 + 2]'hin2).toNat = 123) :
    Calls Tryd.prog 30 #[.string s, .int .i64 (at0 : Int)] w fun e w' => EscOut s at0 w.heap.size e w' ∧ Below w.heap.size w w' := by
  obtain ⟨h1, h2⟩ := escB_of s at0 117 hin (by rw [← byt_eq s (at0 + 1) hin, hc]) (by decide)
  have g1 : ((s[at0 + 1]'hin).toNat : Int) = 117 := by omega
  have HCH := Lib.hid (chB_0 h2 (by decide))
  have hg : escB s at0 = gotOf (braRest s (at0 + 3) (at0 + 3) 0) := by rw [h1]; unfold escR; rw [if_neg (by omega), if_neg (by omega), if_neg (by omega), if_pos ⟨rfl, isByte_at hin2 hb⟩]
  have hbd := fun y => braF_bd s (at0 + 3) (s.size - (at0 + 3) + 1) (at0 + 3) 0 y
  have HD := Lib.hid (fun W => rbraced_any s (at0 + 3) (y := (at0 : Int) + 3) W hs (by omega) (by omega))
  have g2 : ((s[at0 + 2]'hin2).toNat : Int) = 123 := by omega
  have g3 : (at0 : Int) + 2 < (s.size : Int) := by omega
  change ∀ y, (braRest s (at0 + 3) (at0 + 3) 0).1 = some y → y ≤ 1114111 at hbd
  cases hd : braRest s (at0 + 3) (at0 + 3) 0 with | mk o p => _
  rw [hd] at hg hbd HD
  clear h1 h2 hc hb
  cases o with
  | none =>
    have HG : Hid (escB s at0 = ⟨0, p, false⟩) := Lib.hid hg
    clear hg hbd hd
    go_enter Tryd.func30, Tryd.ntmps30
    go_wp2_with (go_at_call 36; refine (HD.out _).mono ?_; rintro e w1 ⟨rfl, rfl⟩; simp only [rval])
    refine bodyPost_ret (v := .tuple #[.agg #[.int .i64 (at0 : Int), .int .i64 (p : Int), (.slice none 0 0), .int .i64 0], .bool false]) (by simp [results, Tryd.results30, go_sem]) rfl ⟨escOut_bad HG.out rfl, ?_⟩
    exact ((Below.refl _ w).alloc (Nat.le_refl _) _).alloc (by simp) _
  | some x =>
    have hx := hbd x rfl
    have HG : Hid (escB s at0 = ⟨x, p, true⟩) := Lib.hid hg
    have HU := Lib.hid (fun W => runits_any (x : Int) W (by omega) (by omega))
    clear hg hbd hd
    go_enter Tryd.func30, Tryd.ntmps30
    go_wp2_with (go_at_call 36; refine (HD.out _).mono ?_; rintro e w1 ⟨rfl, rfl⟩; simp only [rval])
    refine (HU.out _).mono ?_
    rintro e w1 ⟨g, n, rfl, hu, hb⟩
    have hA := Blk.below (Blk.alloc (Blk.new w _ _) _) hb
    have hP : Blk w1 (w.heap.size + 1) _ _ := Blk.below (Blk.new' _ _ (by simp)) hb
    obtain ⟨a0, a1, a2, a3, z0, z1, z2, z3⟩ := hA.four
    obtain ⟨p0, p1, p2, p3, y0, y1, y2, y3⟩ := hP.four
    have HUA := Lib.hid (hu.low (show w.heap.size + 2 ≤ _ by simp))
    have HB1 := Lib.hid ((((Below.refl _ w).alloc (Nat.le_refl _) _).alloc (by simp) _).trans (hb.mono (by simp; omega)))
    have hz := hb.size
    simp at hz
    clear hu hb hA hP
    go_wp2_with fail
    refine bodyPost_ret (v := .tuple #[.agg #[.int .i64 (at0 : Int), .int .i64 (p : Int), (.slice (some ⟨g, 0, none⟩) n n), .int .i64 0], .bool true]) (by simp [results, Tryd.results30, go_sem, a0, a1, a2, a3]) rfl ⟨escOut_ok HG.out rfl ((((((HUA.out.set (by simp) _).set (by simp) _).set (by simp) _).set (by simp) _).set (by simp) _).low (by omega)) HCH.out, ?_⟩
    exact ((((HB1.out.setCell (by simp) _).setCell (by simp) _).setCell (by simp) _).setCell (by simp) _).setCell (by simp) _

set_option maxHeartbeats 4000000 in
theorem rescape_digit (hc : 49 ≤ (s[at0 + 1]'hin).toNat) (hc' : (s[at0 + 1]'hin).toNat ≤ 57) :
    Calls Tryd.prog 30 #[.string s, .int .i64 (at0 : Int)] w fun e w' => EscOut s at0 w.heap.size e w' ∧ Below w.heap.size w w' := by
  obtain ⟨h1, h2⟩ := escB_of s at0 (s[at0 + 1]'hin).toNat hin (by rw [← byt_eq s (at0 + 1) hin]) (by omega)
  have HG : Hid (escB s at0 = ⟨0, at0 + 1, false⟩) := Lib.hid (by rw [h1]; unfold escR; rw [if_pos ⟨hc, hc'⟩])
  have g1 : 49 ≤ ((s[at0 + 1]'hin).toNat : Int) := by omega
  have g2 : ((s[at0 + 1]'hin).toNat : Int) ≤ 57 := by omega
  clear h1 h2 hc hc'
  go_enter Tryd.func30, Tryd.ntmps30
  go_wp2_with fail
  refine bodyPost_ret (v := .tuple #[.agg #[.int .i64 (at0 : Int), .int .i64 ((at0 : Int) + 1), (.slice none 0 0), .int .i64 0], .bool false]) (by simp [results, Tryd.results30, go_sem]) rfl ⟨escOut_bad HG.out (by omega), ?_⟩
  exact ((Below.refl _ w).alloc (Nat.le_refl _) _).alloc (by simp) _

set_option maxHeartbeats 4000000 in
theorem rescape_simple (hc : 0 ≤ simN (((s[at0 + 1]'hin).toNat : Nat) : Int)) :
    Calls Tryd.prog 30 #[.string s, .int .i64 (at0 : Int)] w fun e w' => EscOut s at0 w.heap.size e w' ∧ Below w.heap.size w w' := by
  have hlt := (s[at0 + 1]'hin).toNat_lt
  have hbd := simN_bd (((s[at0 + 1]'hin).toNat : Nat) : Int)
  have h6 : (s[at0 + 1]'hin).toNat = 98 ∨ (s[at0 + 1]'hin).toNat = 102 ∨ (s[at0 + 1]'hin).toNat = 110 ∨ (s[at0 + 1]'hin).toNat = 114 ∨ (s[at0 + 1]'hin).toNat = 116 ∨ (s[at0 + 1]'hin).toNat = 118 := by
    unfold simN at hc
    repeat' split at hc
    all_goals omega
  obtain ⟨h1, h2⟩ := escB_of s at0 (s[at0 + 1]'hin).toNat hin (by rw [← byt_eq s (at0 + 1) hin]) (by omega)
  have HCH := Lib.hid (chB_0 h2 (by omega))
  have HG : Hid (escB s at0 = ⟨simN (((s[at0 + 1]'hin).toNat : Nat) : Int), at0 + 2, true⟩) := Lib.hid (by rw [h1]; unfold escR; rw [if_neg (by omega), if_neg (by omega), if_neg (by omega), if_neg (by omega), if_neg (by omega), if_neg (by omega), if_neg (by omega), if_pos hc])
  have g1 : 98 ≤ ((s[at0 + 1]'hin).toNat : Int) := by omega
  have g2 : (((s[at0 + 1]'hin).toNat : Int) == 120) = false := by rw [beq_eq_false_iff_ne]; omega
  have g3 : (((s[at0 + 1]'hin).toNat : Int) == 117) = false := by rw [beq_eq_false_iff_ne]; omega
  have HS := Lib.hid (fun W => rsimple_any (s[at0 + 1]'hin).toNat W hlt)
  generalize simN (((s[at0 + 1]'hin).toNat : Nat) : Int) = m at *
  clear h1 h2 h6
  go_enter Tryd.func30, Tryd.ntmps30
  go_wp2_with (
      go_at_call 37
      refine (HS.out _).mono ?_
      rintro e w1 ⟨rfl, hb⟩
      have hA := Blk.below (Blk.alloc (Blk.new w _ _) _) hb
      have hP : Blk w1 (w.heap.size + 1) _ _ := Blk.below (Blk.new' _ _ (by simp)) hb
      obtain ⟨a0, a1, a2, a3, z0, z1, z2, z3⟩ := hA.four
      obtain ⟨p0, p1, p2, p3, y0, y1, y2, y3⟩ := hP.four
      have HB1 := Lib.hid ((((Below.refl _ w).alloc (Nat.le_refl _) _).alloc (by simp) _).trans (hb.mono (by simp; omega)))
      have hz := hb.size
      simp at hz
      have HA := Lib.hid hA
      have HP := Lib.hid hP
      clear hb hA hP)
  refine (HS.out _).mono ?_
  rintro e w2 ⟨rfl, hb⟩
  have hA := Blk.below (HA.out.set_other (a := ⟨w.heap.size + 1, 1, none⟩) (by simp) _) hb
  have hP := Blk.below (HP.out.set 1 _) hb
  clear a0 a1 a2 a3 z0 z1 z2 z3 p0 p1 p2 p3 y0 y1 y2 y3
  obtain ⟨a0, a1, a2, a3, z0, z1, z2, z3⟩ := hA.four
  obtain ⟨p0, p1, p2, p3, y0, y1, y2, y3⟩ := hP.four
  have HB2 := Lib.hid ((HB1.out.setCell (p := ⟨w.heap.size + 1, 1, none⟩) (by simp) _).trans (hb.mono (by simp; omega)))
  have hz2 := hb.size
  simp at hz2
  have hz3 : w.heap.size + 1 < w2.heap.size := by omega
  have hz4 : w.heap.size < w2.heap.size := by omega
  clear hb hA hP hz hz2
  go_wp2_with fail
  refine bodyPost_ret (v := .tuple #[.agg #[.int .i64 (at0 : Int), .int .i64 ((at0 : Int) + 2), (.slice (some ⟨w2.heap.size, 0, none⟩) 1 1), .int .i64 0], .bool true]) (by simp [results, Tryd.results30, go_sem, a0, a1, a2, a3, hz4]) rfl ⟨escOut_ok HG.out (by omega) (unitsAt_one (by omega) (by omega) (show w.heap.size ≤ _ by omega) (Blk.new' _ _ (by simp))) HCH.out, ?_⟩
  refine Below.alloc ?_ (by simp; omega) _
  exact ((((HB2.out.setCell (by simp) _).setCell (by simp) _).setCell (by simp) _).setCell (by simp) _).setCell (by simp) _

end
end Go.Proofs.YtcjnlbelgmcpeaaDoor
