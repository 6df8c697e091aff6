/- The reference's escape whole, and Next: a literal's part at a place. -/
import Derived.Test.YtcjnlbelgmcpeaaDoorRefStrEscA
import Derived.Test.YtcjnlbelgmcpeaaDoorRefStrEscB
namespace Go.Proofs.YtcjnlbelgmcpeaaDoor
open Go.RowKit
set_option maxRecDepth 100000
set_option linter.unusedVariables false
set_option linter.unusedSimpArgs false

theorem simN_letters {r : Int} (h : 0 ≤ simN r) : r = 98 ∨ r = 102 ∨ r = 110 ∨ r = 114 ∨ r = 116 ∨ r = 118 := by
  unfold simN at h
  repeat' split at h
  all_goals omega
theorem rescape_any (s : ByteArray) (at0 : Nat) (w : World) (hs : s.size ≤ 4194304) (h2 : at0 < s.size) :
    Calls Tryd.prog 30 #[.string s, .int .i64 (at0 : Int)] w fun e w' => EscOut s at0 w.heap.size e w' ∧ Below w.heap.size w w' := by
  by_cases hin : at0 + 1 < s.size
  · by_cases c1 : (s[at0 + 1]'hin).toNat = 120
    · exact rescape_x s at0 w hs hin c1
    by_cases c2 : (s[at0 + 1]'hin).toNat = 117
    · by_cases hin2 : at0 + 2 < s.size
      · by_cases hb : (s[at0 + 2]'hin2).toNat = 123
        · exact rescape_brace s at0 w hs hin c2 hin2 hb
        · exact rescape_u s at0 w hs hin c2 hin2 hb
      · exact rescape_u_end s at0 w hs hin c2 hin2
    by_cases c3 : (s[at0 + 1]'hin).toNat = 48
    · by_cases hin2 : at0 + 2 < s.size
      · by_cases hb : (s[at0 + 2]'hin2).toNat < 48
        · exact rescape_0_low s at0 w hs hin c3 hin2 hb
        · by_cases hb2 : (s[at0 + 2]'hin2).toNat ≤ 57
          · exact rescape_0_bad s at0 w hs hin c3 hin2 (by omega) hb2
          · exact rescape_0_high s at0 w hs hin c3 hin2 (by omega)
      · exact rescape_0_end s at0 w hs hin c3 hin2
    by_cases c4 : 49 ≤ (s[at0 + 1]'hin).toNat ∧ (s[at0 + 1]'hin).toNat ≤ 57
    · exact rescape_digit s at0 w hs hin c4.1 c4.2
    by_cases c5 : 0 ≤ simN (((s[at0 + 1]'hin).toNat : Nat) : Int)
    · exact rescape_simple s at0 w hs hin c5
    have c4' : (s[at0 + 1]'hin).toNat < 49 ∨ 57 < (s[at0 + 1]'hin).toNat := by omega
    have c5' : simN (((s[at0 + 1]'hin).toNat : Nat) : Int) < 0 := by omega
    by_cases hl : lenB s (at0 + 1) = 0
    · exact rescape_none s at0 w hs hin c1 c2 c3 c4' c5' hl
    by_cases c6 : (s[at0 + 1]'hin).toNat = 13
    · by_cases hin2 : at0 + 2 < s.size
      · by_cases hb : (s[at0 + 2]'hin2).toNat = 10
        · exact rescape_crlf s at0 w hs hin c1 c2 c3 c4' c5' c6 hin2 hb
        · exact rescape_cr s at0 w hs hin c1 c2 c3 c4' c5' c6 hin2 hb
      · exact rescape_cr_end s at0 w hs hin c1 c2 c3 c4' c5' c6 hin2
    by_cases c7 : (Utf8.decode s (at0 + 1)).1 = 10 ∨ (Utf8.decode s (at0 + 1)).1 = 8232 ∨ (Utf8.decode s (at0 + 1)).1 = 8233
    · exact rescape_ends s at0 w hs hin c1 c2 c3 c4' c5' hl c7
    have small : ∀ k, k < 128 → (Utf8.decode s (at0 + 1)).1 = k → (s[at0 + 1]'hin).toNat = k := fun k hk h => by
      have := (decode_small s (at0 + 1) (by omega)).2
      rw [byt_eq]
      omega
    refine rescape_plain s at0 w hs hin c1 c2 c3 c4' c5' hl ?_ ?_ ?_ ?_
    · rintro (h | h | h | h)
      · exact c7 (Or.inl h)
      · exact c6 (small 13 (by decide) h)
      · exact c7 (Or.inr (Or.inl h))
      · exact c7 (Or.inr (Or.inr h))
    · intro h
      have := small _ (by omega) rfl
      omega
    · rintro (h | h | h)
      · exact c3 (small 48 (by decide) h)
      · exact c1 (small 120 (by decide) h)
      · exact c2 (small 117 (by decide) h)
    · refine Int.lt_of_not_ge fun h => ?_
      have h6 := simN_letters h
      have := small _ (by omega) rfl
      exact c5 (by rw [this]; exact h)
  · exact rescape_out s at0 w hs hin h2

def chP (s : ByteArray) (i : Nat) : Int := if byt s i = 92 then chB s i else 0
/-- What Next hands out. -/
def NextOut (s : ByteArray) (i : Nat) (B : Nat) (e : Ending) (w' : World) : Prop :=
  ∃ a n ch, e = .returned (.tuple #[.agg #[.int .i64 (i : Int), .int .i64 ((pieceB s i).to : Int), .slice a n n, .int .i64 ch], .bool (pieceB s i).fine]) ∧ ((pieceB s i).fine = true → UnitsAt w' B (.slice a n n) (unitsOf (pieceB s i).val) ∧ ch = chP s i)
theorem nextOut_bad {s : ByteArray} {i B t n : Nat} {a : Option Addr} {w' : World} {v ch : Int} (hg : pieceB s i = ⟨v, t, false⟩) {x : Int} (hx : x = (t : Int)) :
    NextOut s i B (.returned (.tuple #[.agg #[.int .i64 (i : Int), .int .i64 x, .slice a n n, .int .i64 ch], .bool false])) w' := by
  refine ⟨a, n, ch, by rw [hg, hx], fun h => by rw [hg] at h; cases h⟩
theorem nextOut_ok {s : ByteArray} {i B t n : Nat} {a : Option Addr} {w' : World} {v ch : Int} (hg : pieceB s i = ⟨v, t, true⟩) {x : Int} (hx : x = (t : Int)) (hu : UnitsAt w' B (.slice a n n) (unitsOf v)) (hc : chP s i = ch) :
    NextOut s i B (.returned (.tuple #[.agg #[.int .i64 (i : Int), .int .i64 x, .slice a n n, .int .i64 ch], .bool true])) w' := by
  refine ⟨a, n, ch, by rw [hg, hx], fun _ => ⟨by rw [hg]; exact hu, hc.symm⟩⟩
theorem nextOut_esc {s : ByteArray} {i B n : Nat} {a : Option Addr} {w' : World} {ch : Int} (hp : pieceB s i = escB s i) (hch : chP s i = chB s i) (hu : (escB s i).fine = true → UnitsAt w' B (.slice a n n) (unitsOf (escB s i).val) ∧ ch = chB s i) :
    NextOut s i B (.returned (.tuple #[.agg #[.int .i64 (i : Int), .int .i64 ((escB s i).to : Int), .slice a n n, .int .i64 ch], .bool (escB s i).fine])) w' := by
  refine ⟨a, n, ch, by rw [hp], fun h => ?_⟩
  rw [hp] at h ⊢
  rw [hch]
  exact hu h

set_option maxHeartbeats 4000000 in
theorem rnext_any (s : ByteArray) (i : Nat) (w : World) (hs : s.size ≤ 4194304) (hin : i < s.size) :
    Calls Tryd.prog 25 #[.string s, .int .i64 (i : Int)] w fun e w' => NextOut s i w.heap.size e w' ∧ Below w.heap.size w w' := by
  by_cases hb : (s[i]'hin).toNat = 92
  · have hby : byt s i = 92 := by rw [← byt_eq s i hin]; exact hb
    have hd := decode_ascii s i hin (by omega)
    have HP := Lib.hid (pieceB_esc s i (by rw [lenB_1 s i (by omega)]; decide) (by rw [hd]; exact hb))
    have HC : Hid (chP s i = chB s i) := Lib.hid (by unfold chP; rw [if_pos hby])
    have g1 : ((s[i]'hin).toNat : Int) = 92 := by omega
    have HE := Lib.hid (fun W => rescape_any s i W hs hin)
    clear hb hby hd
    go_enter Tryd.func25, Tryd.ntmps25
    go_wp2_with fail
    refine (HE.out _).mono ?_
    rintro e w1 ⟨⟨a, n, ch, rfl, hu⟩, hb⟩
    have hA : Blk w1 w.heap.size _ _ := Blk.below (Blk.new w _ _) hb
    obtain ⟨a0, a1, a2, a3, z0, z1, z2, z3⟩ := hA.four
    have HU := Lib.hid hu
    have HB1 := Lib.hid (((Below.refl _ w).alloc (Nat.le_refl _) _).trans (hb.mono (by simp)))
    clear hu hb hA
    go_wp2_with fail
    refine bodyPost_ret (v := .tuple #[.agg #[.int .i64 (i : Int), .int .i64 ((escB s i).to : Int), .slice a n n, .int .i64 ch], .bool (escB s i).fine]) (by simp [results, Tryd.results25, go_sem, a0, a1, a2, a3]) rfl ⟨nextOut_esc HP.out HC.out (fun h => ⟨(((((HU.out h).1.set (by simp) _).set (by simp) _).set (by simp) _).set (by simp) _).low (by simp), (HU.out h).2⟩), ?_⟩
    exact (((HB1.out.setCell (by simp) _).setCell (by simp) _).setCell (by simp) _).setCell (by simp) _
  · have hby : byt s i ≠ 92 := by rw [← byt_eq s i hin]; exact hb
    have HC : Hid (chP s i = 0) := Lib.hid (by unfold chP; rw [if_neg hby])
    have g1 : (((s[i]'hin).toNat : Int) == 92) = false := by rw [beq_eq_false_iff_ne]; omega
    have HR := Lib.hid (fun W => rune_any s i W (by omega) hin)
    by_cases hbad : lenB s i = 0 ∨ (Utf8.decode s i).1 = 10 ∨ (Utf8.decode s i).1 = 13
    · have HP := Lib.hid (pieceB_bad s i hbad)
      have h3 : runeB s i = -1 ∨ runeB s i = 10 ∨ runeB s i = 13 := by
        unfold runeB
        by_cases hl : lenB s i = 0
        · rw [if_pos hl]; exact Or.inl rfl
        · rw [if_neg hl]; omega
      generalize runeB s i = r at *
      generalize (Utf8.decode s i).2 = q at *
      clear hb hby hbad
      rcases h3 with rfl | rfl | rfl
      all_goals
        go_enter Tryd.func25, Tryd.ntmps25
        go_wp2_with (go_at_call 31; refine (HR.out _).mono ?_; rintro e w2 ⟨rfl, rfl⟩)
        refine bodyPost_ret (v := .tuple #[.agg #[.int .i64 (i : Int), .int .i64 (i : Int), .slice none 0 0, .int .i64 0], .bool false]) (by simp [results, Tryd.results25, go_sem]) rfl ⟨nextOut_bad HP.out rfl, ?_⟩
        exact (Below.refl _ w).alloc (Nat.le_refl _) _
    · have hl : lenB s i ≠ 0 := fun h => hbad (Or.inl h)
      have hr : runeB s i = (((Utf8.decode s i).1 : Nat) : Int) := by unfold runeB; rw [if_neg hl]
      have h92 : (Utf8.decode s i).1 ≠ 92 := fun h => hby (by have := (decode_small s i (by omega)).2; omega)
      have hp := pieceB_plain s i hl (by omega) (by omega) h92
      have ht := decode_top s i
      have hn1 := decode_pos s i
      have hn2 := decode_in s i hin
      have hr1 : (Utf8.decode s i).1 ≠ 10 := by omega
      have hr2 : (Utf8.decode s i).1 ≠ 13 := by omega
      rw [hr] at HR
      generalize (Utf8.decode s i).1 = r at *
      generalize (Utf8.decode s i).2 = q at *
      have HP := Lib.hid hp
      have g2 : ((r : Int) == 10) = false := by rw [beq_eq_false_iff_ne]; omega
      have g3 : ((r : Int) == 13) = false := by rw [beq_eq_false_iff_ne]; omega
      have HU := Lib.hid (fun W => runits_any (r : Int) W (by omega) (by omega))
      clear hb hby hbad hl hr h92 hr1 hr2 hp
      go_enter Tryd.func25, Tryd.ntmps25
      go_wp2_with (go_at_call 31; refine (HR.out _).mono ?_; rintro e w2 ⟨rfl, rfl⟩)
      refine (HU.out _).mono ?_
      rintro e w1 ⟨g, n, rfl, hu, hb⟩
      have hA : Blk w1 w.heap.size _ _ := Blk.below (Blk.new w _ _) hb
      obtain ⟨a0, a1, a2, a3, z0, z1, z2, z3⟩ := hA.four
      have HUA := Lib.hid hu
      have HB1 := Lib.hid (((Below.refl _ w).alloc (Nat.le_refl _) _).trans (hb.mono (by simp)))
      clear hu hb hA
      go_wp2_with fail
      refine bodyPost_ret (v := .tuple #[.agg #[.int .i64 (i : Int), .int .i64 ((i : Int) + q), .slice (some ⟨g, 0, none⟩) n n, .int .i64 0], .bool true]) (by simp [results, Tryd.results25, go_sem, a0, a1, a2, a3]) rfl ⟨nextOut_ok HP.out (by omega) (((((HUA.out.set (by simp) _).set (by simp) _).set (by simp) _).set (by simp) _).low (by simp)) HC.out, ?_⟩
      exact (((HB1.out.setCell (by simp) _).setCell (by simp) _).setCell (by simp) _).setCell (by simp) _
end Go.Proofs.YtcjnlbelgmcpeaaDoor
