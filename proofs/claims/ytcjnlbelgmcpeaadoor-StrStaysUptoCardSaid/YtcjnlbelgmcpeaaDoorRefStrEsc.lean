/- The reference's escape of a string literal, branch by branch. -/
import Derived.Test.YtcjnlbelgmcpeaaDoorRefStrHex
import Derived.BigRegion
namespace Go.Proofs.YtcjnlbelgmcpeaaDoor
open Go.RowKit
set_option maxRecDepth 100000
set_option linter.unusedVariables false
set_option linter.unusedSimpArgs false
set_option linter.unusedSectionVars false

/-- The character that is escaped plainly; 0: none is. -/
def chB (s : ByteArray) (at0 : Nat) : Int :=
  let r := (Utf8.decode s (at0 + 1)).1
  if r = 48 ∨ r = 120 ∨ r = 117 ∨ r = 13 ∨ r = 10 ∨ r = 8232 ∨ r = 8233 ∨ 0 ≤ simN r then 0 else r
theorem chB_0 {s : ByteArray} {at0 r : Nat} (h : (Utf8.decode s (at0 + 1)).1 = r) (hr : r = 48 ∨ r = 120 ∨ r = 117 ∨ r = 13 ∨ r = 10 ∨ r = 8232 ∨ r = 8233 ∨ 0 ≤ simN r) : chB s at0 = 0 := by
  unfold chB
  simp only
  rw [h, if_pos hr]
theorem chB_r {s : ByteArray} {at0 r : Nat} (h : (Utf8.decode s (at0 + 1)).1 = r) (hr : ¬ (r = 48 ∨ r = 120 ∨ r = 117 ∨ r = 13 ∨ r = 10 ∨ r = 8232 ∨ r = 8233 ∨ 0 ≤ simN r)) : chB s at0 = r := by
  unfold chB
  simp only
  rw [h, if_neg hr]

/-- What the reference's escape hands out. -/
def EscOut (s : ByteArray) (at0 : Nat) (B : Nat) (e : Ending) (w' : World) : Prop :=
  ∃ a n ch, e = .returned (.tuple #[.agg #[.int .i64 (at0 : Int), .int .i64 ((escB s at0).to : Int), .slice a n n, .int .i64 ch], .bool (escB s at0).fine]) ∧ ((escB s at0).fine = true → UnitsAt w' B (.slice a n n) (unitsOf (escB s at0).val) ∧ ch = chB s at0)
theorem escOut_bad {s : ByteArray} {at0 B t n : Nat} {a : Option Addr} {w' : World} {v ch : Int} (hg : escB s at0 = ⟨v, t, false⟩) {x : Int} (hx : x = (t : Int)) :
    EscOut s at0 B (.returned (.tuple #[.agg #[.int .i64 (at0 : Int), .int .i64 x, .slice a n n, .int .i64 ch], .bool false])) w' := by
  refine ⟨a, n, ch, by rw [hg, hx], fun h => by rw [hg] at h; cases h⟩
theorem escOut_ok {s : ByteArray} {at0 B t n : Nat} {a : Option Addr} {w' : World} {v ch : Int} (hg : escB s at0 = ⟨v, t, true⟩) {x : Int} (hx : x = (t : Int)) (hu : UnitsAt w' B (.slice a n n) (unitsOf v)) (hc : chB s at0 = ch) :
    EscOut s at0 B (.returned (.tuple #[.agg #[.int .i64 (at0 : Int), .int .i64 x, .slice a n n, .int .i64 ch], .bool true])) w' := by
  refine ⟨a, n, ch, by rw [hg, hx], fun _ => ⟨by rw [hg]; exact hu, hc.symm⟩⟩
theorem unitsAt_one {W : World} {B g : Nat} {x : Int} (h0 : 0 ≤ x) (h1 : x ≤ 65535) (hB : B ≤ g) (hb : Blk W g [.int .i64 x] 3) : UnitsAt W B (.slice (some ⟨g, 0, none⟩) 1 1) (unitsOf x) := by
  have hu : unitsOf x = [x] := by unfold unitsOf; rw [if_neg (by omega), if_neg (by omega)]
  rw [hu]
  exact .inr ⟨g, rfl, hB, hb, by simp, by simp⟩
theorem escB_of (s : ByteArray) (at0 c : Nat) (h : at0 + 1 < s.size) (hc : byt s (at0 + 1) = c) (hs : c < 128) : escB s at0 = escR s (at0 + 1) c 1 ∧ (Utf8.decode s (at0 + 1)).1 = c := by
  have hd := decode_ascii s (at0 + 1) h (by rw [byt_eq, hc]; exact hs)
  rw [byt_eq, hc] at hd
  have hl : lenB s (at0 + 1) ≠ 0 := by rw [lenB_1 s (at0 + 1) (by rw [hc]; exact hs)]; decide
  refine ⟨?_, by rw [hd]⟩
  rw [escB_in s at0 h hl, hd]

theorem rune_at (s : ByteArray) (i : Nat) {y : Int} (w : World) (hs : s.size ≤ 4611686018427387904) (hi : i < s.size) (hy : y = (i : Int)) :
    Calls Tryd.prog 31 #[.string s, .int .i64 y] w fun e w' => e = .returned (.tuple #[.int .i64 (runeB s i), .int .i64 (Utf8.decode s i).2]) ∧ w = w' := by
  subst hy
  exact rune_any s i w hs hi
/-- A block of four cells. -/
theorem Blk.four {W : World} {g : Nat} {a b c d : Value} {e : TypeId} (h : Blk W g [a, b, c, d] e) :
    W.cell? ⟨g, 0, none⟩ = some a ∧ W.cell? ⟨g, 1, none⟩ = some b ∧ W.cell? ⟨g, 2, none⟩ = some c ∧ W.cell? ⟨g, 3, none⟩ = some d ∧ W.frozen? ⟨g, 0, none⟩ = false ∧ W.frozen? ⟨g, 1, none⟩ = false ∧ W.frozen? ⟨g, 2, none⟩ = false ∧ W.frozen? ⟨g, 3, none⟩ = false :=
  ⟨h.cell 0, h.cell 1, h.cell 2, h.cell 3, h.frozen 0, h.frozen 1, h.frozen 2, h.frozen 3⟩
theorem UnitsAt.set {W : World} {B : Nat} {v : Value} {us : List Int} (h : UnitsAt W B v us) {a : Addr} (ha : a.block < B) (u : Value) : UnitsAt (W.setCell a u) B v us := by
  rcases h with h | ⟨g, h1, h2, h3, h4⟩
  · exact .inl h
  · exact .inr ⟨g, h1, h2, h3.set_other (by omega) u, h4⟩

section
variable (s : ByteArray) (at0 : Nat) (w : World) (hs : s.size ≤ 4194304)
include hs

set_option maxHeartbeats 4000000 in
theorem rescape_out (h : ¬ at0 + 1 < s.size) (h2 : at0 < s.size) :
    Calls Tryd.prog 30 #[.string s, .int .i64 (at0 : Int)] w fun e w' => EscOut s at0 w.heap.size e w' ∧ Below w.heap.size w w' := by
  have HG := Lib.hid (escB_out s at0 (Or.inl h))
  have g1 : (s.size : Int) ≤ (at0 : Int) + 1 := by omega
  go_enter Tryd.func30, Tryd.ntmps30
  go_wp2_with fail
  refine bodyPost_ret (v := .tuple #[.agg #[.int .i64 (at0 : Int), .int .i64 (s.size : Int), .slice none 0 0, .int .i64 0], .bool false]) (by simp [results, Tryd.results30, go_sem]) rfl ⟨escOut_bad HG.out (by omega), ?_⟩
  exact ((Below.refl _ w).alloc (Nat.le_refl _) _).alloc (by simp) _

end
end Go.Proofs.YtcjnlbelgmcpeaaDoor
