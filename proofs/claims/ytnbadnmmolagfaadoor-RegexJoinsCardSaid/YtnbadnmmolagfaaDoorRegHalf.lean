/- Package regex: the closure of class: the next point, a half kept. -/
import Derived.Test.YtnbadnmmolagfaaDoorRegPoint
namespace Go.Proofs.YtnbadnmmolagfaaDoor
open Go.RowKit
set_option maxRecDepth 100000
set_option linter.unusedVariables false
set_option linter.unusedSimpArgs false

theorem hexesL_val : ∀ (m j x v : Nat) (r r1 : Ln), x < 16 ^ j → hexesL m x r = .ok (v, r1) → v < 16 ^ (j + m)
  | 0, j, x, v, r, r1, hx, h => by
    injection h with h
    injection h with h1 h2
    rw [← h1]
    exact hx
  | m + 1, j, x, v, r, r1, hx, h => by
    unfold hexesL at h
    split at h
    · cases h
    · rename_i d hd
      have := hexesL_val m (j + 1) _ v _ r1 (pow16 hx (hexL_lt hd)) h
      rw [show j + (m + 1) = j + 1 + m from by omega]
      exact this
theorem bracedL_val {r r1 : Ln} {v : Nat} (h : bracedL r = .ok (v, r1)) : v ≤ 1114111 := by
  unfold bracedL at h
  rcases hh : hexesL 1 0 r with f | ⟨x, r2⟩
  · rw [hh] at h; cases h
  · rw [hh] at h
    simp only [bind, Except.bind] at h
    split at h
    · cases h
    · rename_i hc
      injection h with h
      injection h with h1 h2
      simp at hc
      omega
theorem simpleL_val {c v : Nat} (h : simpleL c = some v) : v ≤ 13 := by
  unfold simpleL at h
  repeat' split at h
  all_goals first | (injection h with h; omega) | cases h
theorem escapeL_val {u : Bool} {r r1 : Ln} {v : Nat} (h : escapeL u r = .ok (v, r1)) : v ≤ 1114111 := by
  unfold escapeL at h
  rcases ht : takeL r with f | ⟨c, r2⟩
  · rw [ht] at h; cases h
  · rw [ht] at h
    have hc := takeL_rune ht
    have hp := peekL_lt r2
    simp only [bind, Except.bind] at h
    split at h
    · split at h
      · injection h with h
        injection h with h1 h2
        omega
      · cases h
    · split at h
      · split at h
        · cases h
        · injection h with h
          injection h with h1 h2
          omega
      · split at h
        · have := hexesL_val 2 0 0 v r2 r1 (by decide) h
          simp at this
          omega
        · split at h
          · split at h
            · exact bracedL_val h
            · have := hexesL_val 4 0 0 v r2 r1 (by decide) h
              simp at this
              omega
          · split at h
            · rename_i x hx
              have := simpleL_val hx
              injection h with h
              injection h with h1 h2
              omega
            · unfold idleL at h
              split at h
              · cases h
              · injection h with h
                injection h with h1 h2
                omega
theorem pointL_val {u : Bool} {r r1 : Ln} {p : Pt} (h : pointL u r = .ok (p, r1)) : p.val ≤ 1114111 := by
  unfold pointL at h
  split at h
  · split at h
    · injection h with h
      injection h with h1 h2
      rw [← h1]
      simp
    · split at h
      · injection h with h
        injection h with h1 h2
        rw [← h1]
        simp
      · rcases hs : setL u (r.drop 1) with f | o
        · rw [hs] at h; cases h
        · rw [hs] at h
          cases o with
          | some r2 =>
            injection h with h
            injection h with h1 h2
            rw [← h1]
            simp
          | none =>
            rcases he : escapeL u (r.drop 1) with f | ⟨c, r2⟩
            · simp only [bind, Except.bind] at h
              rw [he] at h; cases h
            · simp only [bind, Except.bind] at h
              rw [he] at h
              injection h with h
              injection h with h1 h2
              rw [← h1]
              exact escapeL_val he
  · rcases ht : takeL r with f | ⟨c, r2⟩
    · rw [ht] at h; cases h
    · rw [ht] at h
      injection h with h
      injection h with h1 h2
      rw [← h1]
      exact takeL_rune ht

theorem and1023 (x : Nat) (hx : x < 9223372036854775808) : bits .and .i64 (x : Int) 1023 = ((x % 1024 : Nat) : Int) := by
  have h1 : (BitVec.ofInt 64 ((x : Nat) : Int)).toNat = x := by
    rw [BitVec.ofInt_natCast, BitVec.toNat_ofNat]; exact Nat.mod_eq_of_lt (by omega)
  show IntKind.i64.wrap ((BitVec.ofInt 64 ((x : Nat) : Int) &&& BitVec.ofInt 64 1023).toNat : Int) = _
  rw [BitVec.toNat_and, h1, show (BitVec.ofInt 64 1023).toNat = 2 ^ 10 - 1 from rfl, Nat.and_two_pow_sub_one_eq_mod, IntKind.wrap_i64]
  have : x % 2 ^ 10 < 1024 := Nat.mod_lt _ (by decide)
  rw [show (2 : Nat) ^ 10 = 1024 from rfl] at *
  omega

/-- All blocks but two are as they were. -/
structure Two (b g : Nat) (w w' : World) : Prop where
  os : w'.os = w.os
  tape : w'.tape = w.tape
  output : w'.output = w.output
  size : w.heap.size ≤ w'.heap.size
  block : ∀ k, k < w.heap.size → k ≠ b → k ≠ g → w'.heap[k]? = w.heap[k]?
theorem Two.refl (b g : Nat) (w : World) : Two b g w w := ⟨rfl, rfl, rfl, Nat.le_refl _, fun _ _ _ _ => rfl⟩
theorem Two.trans {b g : Nat} {w w1 w2 : World} (h : Two b g w w1) (k : Two b g w1 w2) : Two b g w w2 :=
  ⟨k.os.trans h.os, k.tape.trans h.tape, k.output.trans h.output, Nat.le_trans h.size k.size, fun i hi h1 h2 => (k.block i (Nat.lt_of_lt_of_le hi h.size) h1 h2).trans (h.block i hi h1 h2)⟩
theorem Two.of {b g : Nat} {w w' : World} (h : w.grownBy w' (some b)) : Two b g w w' := ⟨h.os, h.tape, h.output, h.size, fun k hk h1 _ => h.block k hk (by simpa using h1)⟩
theorem Two.alloc {b g : Nat} {w w' : World} (h : Two b g w w') (o : Obj) : Two b g w (w'.alloc o) := h.trans (.of (grown_of ((Below.refl _ w').alloc (Nat.le_refl _) o) _))
theorem Two.set {b g : Nat} {w w' : World} (h : Two b g w w') {q : Nat} (hq : q = b ∨ q = g ∨ w.heap.size ≤ q) (j : Nat) (v : Value) : Two b g w (w'.setCell ⟨q, j, none⟩ v) :=
  ⟨h.os, h.tape, h.output, by simpa [World.setCell] using h.size, fun k hk h1 h2 => (Below.heap_setCell w' ⟨q, j, none⟩ v k (by simp; omega)).trans (h.block k hk h1 h2)⟩
theorem Blk.two {W W' : World} {b h g : Nat} {cs : List Value} {e : TypeId} (k : Blk W g cs e) (hg : Two b h W W') (h1 : g ≠ b) (h2 : g ≠ h) : Blk W' g cs e := (hg.block g k.lt h1 h2).trans k

/-- The variable half, as it is held. -/
def HalfV (n : Nat) (w0 w : World) (b gh gr : Nat) (v : Value) : Option Pt → Prop
  | none => v = .slice none 0 0
  | some p => ∃ g, v = .slice (some ⟨g, 0, none⟩) 1 1 ∧ Blk w g [.int .i64 ((n : Int) - (p.rem : Int)), .int .i64 (p.val : Int), .bool p.single] 64 ∧ w0.heap.size ≤ g ∧ g ≠ b ∧ g ≠ gh ∧ g ≠ gr
/-- class at work: the reader; its box; half. -/
structure ClAt (b : Nat) (l : Ln) (u : Bool) (xs : List Value) (w0 : World) (gr gh : Nat) (h : Option Pt) (r : Ln) (w : World) : Prop where
  at_ : At b l u xs w0 r w
  br : Blk w gr [.pointer (some ⟨b, 0, none⟩)] 42
  bh : ∃ v, Blk w gh [v] 62 ∧ HalfV l.length w0 w b gh gr v h
  ger : w0.heap.size ≤ gr
  geh : w0.heap.size ≤ gh
  nrh : gr ≠ gh
  nrb : gr ≠ b
  nhb : gh ≠ b
theorem HalfV.next {n : Nat} {w0 w w' : World} {b gh gr : Nat} {v : Value} {h : Option Pt} (k : HalfV n w0 w b gh gr v h) (hg : Two b gh w w') : HalfV n w0 w' b gh gr v h := by
  cases h with
  | none => exact k
  | some p =>
    obtain ⟨g, h1, h2, h3, h4, h5, h6⟩ := k
    exact ⟨g, h1, h2.two hg h4 h5, h3, h4, h5, h6⟩
theorem ClAt.next {b : Nat} {l : Ln} {u : Bool} {xs : List Value} {w0 w w' : World} {gr gh : Nat} {h : Option Pt} {r r' : Ln} (k : ClAt b l u xs w0 gr gh h r w) (h1 : Rd b l u xs r' w') (h2 : w.grownBy w' (some b)) : ClAt b l u xs w0 gr gh h r' w' := by
  obtain ⟨v, hv, hh⟩ := k.bh
  exact ⟨k.at_.next h1 h2, k.br.two (.of (g := gh) h2) k.nrb k.nrh, ⟨v, hv.grown h2 (by simpa using k.nhb), hh.next (.of h2)⟩, k.ger, k.geh, k.nrh, k.nrb, k.nhb⟩
end Go.Proofs.YtnbadnmmolagfaaDoor
