/- Package regex: the reader in memory; the walks of its smallest words: digit, below, fail, stop, peek, is, want. -/
import Derived.Test.YtnbadnmmolagfaaDoorTabsR
import Derived.Test.YtnbadnmmolagfaaDoorOwn
import Derived.Test.YtnbadnmmolagfaaDoorRegPlain
import Derived.WalkSmall
import Derived.IntWalk
import Derived.Test.YtnbadnmmolagfaaDoorUniEnds
namespace Go.Proofs.YtnbadnmmolagfaaDoor
open Go.RowKit
set_option maxRecDepth 100000
set_option linter.unusedVariables false
set_option linter.unusedSimpArgs false

def strOf (l : Ln) : ByteArray := ⟨l.toArray⟩
theorem strOf_size (l : Ln) : (strOf l).size = l.length := by simp [strOf, ByteArray.size]
theorem strOf_list (l : Ln) : (strOf l).data.toList = l := by simp [strOf]

/-- The reader at block b: it reads l and has r left; xs: its other four fields. -/
def Rd (b : Nat) (l : Ln) (u : Bool) (xs : List Value) (r : Ln) (w : World) : Prop :=
  ∃ k : Nat, k + r.length = l.length ∧ l.drop k = r ∧ Blk w b (.string (strOf l) :: .int .i64 (k : Int) :: .bool u :: xs) 47
/-- A reader's fault, thrown. -/
def thrown (n : Nat) (e : Flt) : Ending := .panicked [{ v := .iface 40 (.agg #[.int .i64 (e.1 : Int), .int .i64 ((n : Int) - (e.2 : Int))]), recovered := false }]
/-- How a reader's call ends. -/
def Ends (b : Nat) (l : Ln) (u : Bool) (xs : List Value) (w : World) (R : Except Flt (Value × Ln)) (e : Ending) (w' : World) : Prop :=
  w.grownBy w' (some b) ∧ match R with
  | .ok p => e = .returned p.1 ∧ Rd b l u xs p.2 w'
  | .error f => e = thrown l.length f

theorem grown_refl (w : World) (o : Option Nat) : w.grownBy w o := ⟨rfl, rfl, rfl, Nat.le_refl _, fun _ _ _ => rfl⟩
theorem grown_trans {w w1 w2 : World} {o : Option Nat} (h : w.grownBy w1 o) (k : w1.grownBy w2 o) : w.grownBy w2 o :=
  ⟨k.os.trans h.os, k.tape.trans h.tape, k.output.trans h.output, Nat.le_trans h.size k.size, fun i hi hne => (k.block i (Nat.lt_of_lt_of_le hi h.size) hne).trans (h.block i hi hne)⟩
theorem grown_of {w w' : World} (h : Below w.heap.size w w') (o : Option Nat) : w.grownBy w' o := ⟨h.os, h.tape, h.output, h.size, fun k hk _ => h.block k hk⟩
theorem grown_set {w w' : World} {b : Nat} (h : w.grownBy w' (some b)) (j : Nat) (v : Value) : w.grownBy (w'.setCell ⟨b, j, none⟩ v) (some b) :=
  ⟨h.os, h.tape, h.output, by simpa [World.setCell] using h.size, fun k hk hne => (Below.heap_setCell w' ⟨b, j, none⟩ v k (by simpa using hne)).trans (h.block k hk hne)⟩
theorem grown_drew {w w' : World} {o : Option Nat} (h : w.grownBy w' o) (n : Nat) : w.grownBy (w'.drewN n) o := ⟨h.os, h.tape, h.output, h.size, h.block⟩
theorem grown_tabs {w w' : World} {b : Nat} (h : w.grownBy w' (some b)) (hT : Tabs w) (hb : 1 < b) (hb2 : 2 < b) : Tabs w' := by
  have hz := hT.2
  have hc : ∀ (p : Addr) v, p.block < b → w.cell? p = some v → w'.cell? p = some v := fun p v hp hv => h.cell hv (by simp; omega)
  refine ⟨⟨fun c hc' => hc _ _ ?_ (hT.1.1 c hc'), fun i hi => ⟨hc _ _ ?_ (hT.1.2 i hi).1, hc _ _ ?_ (hT.1.2 i hi).2⟩⟩, Nat.lt_of_lt_of_le hz h.size⟩ <;> simpa
theorem Rd.grown {b : Nat} {l : Ln} {u : Bool} {xs : List Value} {r : Ln} {w w' : World} (h : Rd b l u xs r w) (hg : Below w.heap.size w w') : Rd b l u xs r w' := by
  obtain ⟨k, h1, h2, h3⟩ := h
  exact ⟨k, h1, h2, h3.below hg⟩
theorem Rd.drew {b : Nat} {l : Ln} {u : Bool} {xs : List Value} {r : Ln} {w : World} (h : Rd b l u xs r w) (n : Nat) : Rd b l u xs r (w.drewN n) := h

theorem digit_any (c : Nat) (w : World) :
    Calls Tryd.prog 37 #[.int .u8 (c : Int)] w fun e w' => e = .returned (.bool (digitB c)) ∧ w = w' := by
  unfold digitB
  by_cases h1 : (48 : Int) ≤ c
  · have e1 : decide ((c : Int) ≥ 48) = true := by simpa using h1
    have e2 : decide (48 ≤ c) = true := by simp; omega
    have e3 : decide ((c : Int) ≤ 57) = decide (c ≤ 57) := by by_cases h : c ≤ 57 <;> simp <;> omega
    go_enter Tryd.func37, Tryd.ntmps37
    go_wp2
    go_ret
    refine ⟨ret_bool ?_, rfl⟩
    simp_all
  · have e1 : decide (48 ≤ c) = false := by simp; omega
    go_enter Tryd.func37, Tryd.ntmps37
    go_wp2
    go_ret
    refine ⟨ret_bool ?_, rfl⟩
    simp_all

theorem fail_any (c k : Int) (w : World) :
    Calls Tryd.prog 24 #[.int .i64 c, .int .i64 k] w fun e w' => e = .panicked [{ v := .iface 40 (.agg #[.int .i64 c, .int .i64 k]), recovered := false }] ∧ w = w' := by
  go_enter Tryd.func24, Tryd.ntmps24
  go_wp2
  go_simp
  exact ⟨rfl, rfl, rfl⟩
theorem thrown_at {l r : Ln} {k : Nat} (c : Nat) (hk : k + r.length = l.length) : Ending.panicked [{ v := .iface 40 (.agg #[.int .i64 (c : Int), .int .i64 (k : Int)]), recovered := false }] = thrown l.length (c, r.length) := by
  have e : (k : Int) = (l.length : Int) - (r.length : Int) := by omega
  unfold thrown
  rw [e]
theorem stop_any (b : Nat) (l : Ln) (u : Bool) (xs : List Value) (r : Ln) (w : World) (h : Rd b l u xs r w) :
    Calls Tryd.prog 18 #[.pointer (some ⟨b, 0, none⟩)] w fun e w' => e = thrown l.length (form r) ∧ w = w' := by
  obtain ⟨k, hk, hd, hb⟩ := h
  have c1 := hb.cell 1
  have HK := Lib.hid hk
  clear hk hd
  go_enter Tryd.func18, Tryd.ntmps18
  go_wp2_with (go_at_call 24; refine (fail_any _ _ _).mono ?_; rintro e w1 ⟨rfl, rfl⟩)
  exact ⟨rfl, thrown_at 400 HK.out, rfl⟩

theorem lt_of_rest {l r : Ln} {k : Nat} (hk : k + r.length = l.length) (hr : r ≠ []) : k < l.length := by
  have := List.length_pos_iff.2 hr
  omega
theorem peek_at {l r : Ln} {k : Nat} (hd : l.drop k = r) (h : k < (strOf l).size) : ((strOf l)[k]'h).toNat = peekL r := by
  subst hd
  unfold peekL
  rw [List.getD_eq_getElem?_getD, List.getElem?_drop, Nat.add_zero]
  rw [strOf_size] at h
  rw [List.getElem?_eq_getElem h]
  simp [strOf]
  rfl
theorem peek_any (b : Nat) (l : Ln) (u : Bool) (xs : List Value) (r : Ln) (w : World) (h : Rd b l u xs r w) (hl : l.length ≤ 4096) :
    Calls Tryd.prog 21 #[.pointer (some ⟨b, 0, none⟩)] w fun e w' => e = .returned (.int .u8 (peekL r : Int)) ∧ ∃ n, w' = w.drewN n := by
  obtain ⟨k, hk, hd, hb⟩ := h
  have c0 := hb.cell 0
  have c1 := hb.cell 1
  have hz := strOf_size l
  by_cases hr : r = []
  · have hkl : ¬ ((k : Int) < (l.length : Int)) := by subst hr; simp at hk; omega
    have HR := Lib.hid hr
    have HB := Lib.hid hb
    clear hk hd hr hb
    go_enter Tryd.func21, Tryd.ntmps21
    go_wp2_with fail
    go_quiet (fail)
    go_wp2_with fail
    go_ret
    refine ⟨?_, _, rfl⟩
    rw [HR.out]
    rfl
  · have hlt := lt_of_rest hk hr
    have hp := peek_at hd (by rw [hz]; exact hlt)
    have hkl : (k : Int) < (l.length : Int) := by omega
    have h0 : (0 : Int) ≤ (k : Int) := by omega
    have HP := Lib.hid hp
    have HB := Lib.hid hb
    clear hk hd hr hb hp
    go_enter Tryd.func21, Tryd.ntmps21
    go_wp2_with fail
    go_quiet (fail)
    obtain ⟨nq0, hn0⟩ : ∃ n, n = nq := ⟨_, rfl⟩
    rw [← hn0]
    clear hn0
    generalize hw1 : w.drewN nq0 = w1
    have c0' : w1.cell? ⟨b, 0, none⟩ = w.cell? ⟨b, 0, none⟩ := by rw [← hw1]; rfl
    have c1' : w1.cell? ⟨b, 1, none⟩ = w.cell? ⟨b, 1, none⟩ := by rw [← hw1]; rfl
    rw [c0] at c0'
    rw [c1] at c1'
    have HW := Lib.hid hw1
    clear hw1 c0 c1
    go_wp2_with fail
    go_quiet (fail)
    go_wp2_with fail
    go_ret
    refine ⟨?_, nq0 + nq, ?_⟩
    · exact congrArg (fun n : Nat => Ending.returned (.int .u8 (n : Int))) HP.out
    · rw [← HW.out, World.drewN_drewN]

theorem peek_rd (b : Nat) (l : Ln) (u : Bool) (xs : List Value) (r : Ln) (w : World) (h : Rd b l u xs r w) (hl : l.length ≤ 4096) :
    Calls Tryd.prog 21 #[.pointer (some ⟨b, 0, none⟩)] w fun e w' => e = .returned (.int .u8 (peekL r : Int)) ∧ Rd b l u xs r w' ∧ Below w.heap.size w w' :=
  (peek_any b l u xs r w h hl).mono fun _ _ ⟨he, n, hw⟩ => by subst hw; exact ⟨he, h.drew n, below_drewN (Below.refl _ w) n⟩

theorem slice_rest {l r : Ln} {k : Nat} (hk : k + r.length = l.length) (hd : l.drop k = r) (W : World) :
    (Instr.slice 9 (.string (strOf l)) (some (.int .i64 (k : Int))) none none).run Tryd.prog W = .ok (.string (strOf r)) W := by
  have h := run_slice_string_l (P := Tryd.prog) (w := W) (t := 9) (s := strOf l) Tryd.underlying9 .i64 (k : Int) (by omega) (by rw [strOf_size]; omega)
  rw [h]
  have e1 : ((k : Int)).toNat = k := by omega
  rw [e1]
  subst hd
  congr 2
  apply ByteArray.ext
  apply Array.ext'
  simp only [strOf, ByteArray.size, ByteArray.data_extract, Array.toList_extract, List.extract_eq_take_drop]
  exact List.take_of_length_le (by simp)
/-- A reader whose place is written. -/
theorem Rd.move {b : Nat} {l : Ln} {u : Bool} {xs : List Value} {r : Ln} {w : World} {k : Nat} (hk : k + r.length = l.length) (hd : l.drop k = r) (hb : Blk w b (.string (strOf l) :: .int .i64 (k : Int) :: .bool u :: xs) 47) (m : Nat) (hm : m ≤ r.length) {z : Int} (hz : z = ((k + m : Nat) : Int)) :
    Rd b l u xs (r.drop m) (w.setCell ⟨b, 1, none⟩ (.int .i64 z)) := by
  subst hz
  refine ⟨k + m, ?_, ?_, hb.set 1 _⟩
  · rw [List.length_drop]; omega
  · rw [← hd, List.drop_drop]
theorem is_any (b : Nat) (l : Ln) (u : Bool) (xs : List Value) (r : Ln) (w : World) (h : Rd b l u xs r w) (hl : l.length ≤ 4096) (t : Ln) :
    Calls Tryd.prog 23 #[.pointer (some ⟨b, 0, none⟩), .string (strOf t)] w fun e w' => e = .returned (.bool (hasP t r)) ∧ Rd b l u xs (skipL t r) w' ∧ w.grownBy w' (some b) := by
  obtain ⟨k, hk, hd, hb⟩ := h
  have hsl := slice_rest hk hd
  have HPF := fun w => Tryd.strings_HasPrefix (strOf r) (strOf t) w
  simp only [strOf_list] at HPF
  have c0 := hb.cell 0
  have c1 := hb.cell 1
  have f1 := hb.frozen 1
  have hz := strOf_size t
  cases hp : hasP t r
  · have hp' : Lib.hasPrefix r t = false := hp
    simp only [hp'] at HPF
    have hsk : skipL t r = r := by unfold skipL; rw [hp]; rfl
    have HPF' := Lib.hid HPF
    have HR := Lib.hid (And.intro hsk (show Rd b l u xs r w from ⟨k, hk, hd, hb⟩))
    clear HPF hp hp' hk hd hb hsk
    go_enter Tryd.func23, Tryd.ntmps23
    go_wp2_with fail
    go_quiet (first | (go_at_call 30; exact Calls.quiet_of_same (HPF'.out _)))
    go_wp2_with fail
    go_ret
    exact ⟨rfl, by rw [HR.out.1]; exact HR.out.2.drew _, grown_drew (grown_refl w _) _⟩
  · have hp' : Lib.hasPrefix r t = true := hp
    simp only [hp'] at HPF
    have hpl : t.length ≤ r.length := (List.isPrefixOf_iff_prefix.1 hp').length_le
    have hsk : skipL t r = r.drop t.length := by unfold skipL; rw [hp]; rfl
    have HPF' := Lib.hid HPF
    have HB := Lib.hid hb
    have HK := Lib.hid (And.intro hk (And.intro hd (And.intro hpl hsk)))
    clear HPF hp hp' hk hd hb hpl hsk
    go_enter Tryd.func23, Tryd.ntmps23
    go_wp2_with fail
    go_quiet (first | (go_at_call 30; exact Calls.quiet_of_same (HPF'.out _)))
    generalize hw1 : w.drewN nq = w1
    have hb1 : Blk w1 b (.string (strOf l) :: .int .i64 (k : Int) :: .bool u :: xs) 47 := by rw [← hw1]; exact HB.out
    have hg1 : w.grownBy w1 (some b) := by rw [← hw1]; exact grown_drew (grown_refl w _) _
    have d1 := hb1.cell 1
    have e1 := hb1.frozen 1
    have H1 := Lib.hid (And.intro hb1 hg1)
    clear hw1 c0 c1 f1 hb1 hg1
    go_wp2_with fail
    go_ret
    refine ⟨rfl, ?_, grown_set H1.out.2 _ _⟩
    rw [HK.out.2.2.2]
    refine Rd.move HK.out.1 HK.out.2.1 H1.out.1 t.length HK.out.2.2.1 ?_
    have := HK.out.1
    have := HK.out.2.2.1
    rw [IntWalk.wrap64_in _ ⟨by omega, by omega⟩]
    omega
end Go.Proofs.YtnbadnmmolagfaaDoor
