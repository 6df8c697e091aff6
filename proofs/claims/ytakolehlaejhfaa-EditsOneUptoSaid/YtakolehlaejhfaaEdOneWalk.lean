/- EditsOne: the walk. -/
import Derived.Test.YtakolehlaejhfaaEdOnePlain
namespace Go.Proofs.Ytakolehlaejhfaa
open Go.RowKit
set_option maxRecDepth 100000
set_option linter.unusedVariables false
set_option linter.unusedSimpArgs false

set_option maxHeartbeats 600000 in
/-- No lines, or too many: nothing is asked. -/
theorem editsOne_none (x line : ByteArray) (z : Int) (w : World) (hx : x.size ≤ 1048576) (hl : (linesB x.data.toList).length = 0 ∨ 1024 ≤ (linesB x.data.toList).length) :
    Calls Try.prog 6 #[.string x, .int .i64 z, .string line] w fun e w' => e = .returned (.bool true) ∧ Below w.heap.size w w' := by
  have RL := Lib.hid (fun W => refLines_any x.data.toList W (by simpa using hx))
  rw [strOf_list] at RL
  generalize linesB x.data.toList = a at *
  have hc : ((a.length : Int) == 0) = true ∨ (((a.length : Int) == 0) = false ∧ (1024 : Int) ≤ (a.length : Int)) := by
    rcases hl with h | h
    · exact .inl (by rw [beq_iff_eq]; omega)
    · exact .inr ⟨by rw [beq_eq_false_iff_ne]; omega, by omega⟩
  clear hl
  rcases hc with h1 | ⟨h1, h2⟩
  all_goals
    go_enter Try.func6, Try.ntmps6
    go_wp2_with (go_at_call 14; refine (awake_any _).mono ?_; rintro e wk ⟨rfl, hbk⟩; have HBK := Lib.hid hbk; clear hbk)
    refine (RL.out wk).mono ?_
    rintro e w5 ⟨A5, c5, rfl, hc5, ht5, hb5⟩
    have HB := Lib.hid (HBK.out.call hb5)
    clear ht5 hb5 hc5 RL HBK
    go_wp2_with fail
    go_ret
    exact ⟨rfl, HB.out⟩

set_option maxHeartbeats 600000 in
/-- No line end at its end: nothing is asked. -/
theorem editsOne_open (l : Ln) (line : ByteArray) (z : Int) (w : World) (hx : l.length ≤ 1048576) (hn : 0 < (linesB l).length) (hm : (linesB l).length < 1024) (hl : l ≠ []) (hc : l.getLast hl ≠ 10 ∨ line.size = 0) :
    Calls Try.prog 6 #[.string (strOf l), .int .i64 z, .string line] w fun e w' => e = .returned (.bool true) ∧ Below w.heap.size w w' := by
  have RL := Lib.hid (fun W => refLines_any l W hx)
  have hsz : (strOf l).size = l.length := strOf_size l
  have hlen : 0 < l.length := List.length_pos_iff.2 hl
  have hgl : ∀ (p : l.length - 1 < (strOf l).size), (strOf l)[l.length - 1]'p = l.getLast hl := fun p => by
    rw [List.getLast_eq_getElem]; rfl
  generalize linesB l = a at *
  have h1 : ((a.length : Int) == 0) = false := by rw [beq_eq_false_iff_ne]; omega
  have h2 : (a.length : Int) < (1024 : Int) := by omega
  have h3 : (((l.getLast hl).toNat : Int) != 10) = true ∨ ((((l.getLast hl).toNat : Int) != 10) = false ∧ line.size = 0) := by
    by_cases h : l.getLast hl = 10
    · refine .inr ⟨by rw [h]; rfl, ?_⟩
      rcases hc with h' | h'
      · exact absurd h h'
      · exact h'
    · refine .inl ?_
      rw [bne_iff_ne]
      intro e
      exact h (UInt8.toNat_inj.1 (by have e10 : (10 : UInt8).toNat = 10 := rfl; omega))
  clear hc hm hn
  generalize l.getLast hl = ch at *
  have e1 : (((l.length : Int) - 1).toNat) = l.length - 1 := by omega
  go_enter Try.func6, Try.ntmps6
  go_wp2_with (go_at_call 14; refine (awake_any _).mono ?_; rintro e wk ⟨rfl, hbk⟩; have HBK := Lib.hid hbk; clear hbk)
  refine (RL.out wk).mono ?_
  rintro e w5 ⟨A5, c5, rfl, hc5, ht5, hb5⟩
  have HB := Lib.hid (HBK.out.call hb5)
  clear ht5 hb5 hc5 RL HBK
  rcases h3 with h3 | ⟨h3, h4⟩
  · go_wp2_with fail
    go_ret
    exact ⟨rfl, HB.out⟩
  · obtain rfl : line = ByteArray.empty := by
      cases line; simp [ByteArray.size] at h4; subst h4; rfl
    go_wp2_with fail
    go_ret
    exact ⟨rfl, HB.out⟩
end Go.Proofs.Ytakolehlaejhfaa
