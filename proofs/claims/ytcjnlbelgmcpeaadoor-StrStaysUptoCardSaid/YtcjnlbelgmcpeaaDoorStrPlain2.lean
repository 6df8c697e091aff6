/- Package str in plain Lean, more: what holds of a literal's parts; the units of a list of parts. -/
import Derived.Test.YtcjnlbelgmcpeaaDoorStrPlain
import Derived.Test.YtcjnlbelgmcpeaaDoorStrEsc
namespace Go.Proofs.YtcjnlbelgmcpeaaDoor
open Go

theorem hexAt_nat (s : ByteArray) (i : Nat) (h : 0 ≤ hexAt s i) : (hexAt s i).toNat ≤ 15 := by
  have := hexAt_bd s i
  omega
theorem digF_bd (s : ByteArray) : ∀ (m at' x y : Nat), (digF s m at' x).1 = some y → y < 16 ^ m * (x + 1)
  | 0, at', x, y, h => by simp [digF] at h; omega
  | m + 1, at', x, y, h => by
    unfold digF at h
    split at h
    · rename_i hx
      have hd := hexAt_nat s at' hx
      have ih := digF_bd s m (at' + 1) _ y h
      have e : 16 ^ (m + 1) * (x + 1) = 16 ^ m * (16 * (x + 1)) := by rw [Nat.pow_succ, Nat.mul_assoc]
      have h2 : 16 ^ m * (16 * x + (hexAt s at').toNat + 1) ≤ 16 ^ m * (16 * (x + 1)) := Nat.mul_le_mul_left _ (by omega)
      omega
    · cases h
theorem braF_bd (s : ByteArray) (start : Nat) : ∀ (f at' x y : Nat), (braF s start f at' x).1 = some y → y ≤ 1114111
  | 0, at', x, y, h => by simp [braF] at h
  | f + 1, at', x, y, h => by
    unfold braF at h
    split at h
    · exact braF_bd s start f _ _ y h
    · split at h
      · simp at h; omega
      · cases h
theorem got_val {r : Option Nat × Nat} {b : Nat} (h : ∀ y, r.1 = some y → y ≤ b) : -1 ≤ (gotOf r).val ∧ (gotOf r).val ≤ b := by
  unfold gotOf
  split
  · rename_i x hx
    have := h x hx
    simp
    omega
  · simp
theorem decode_top (s : ByteArray) (i : Nat) : (Utf8.decode s i).1 ≤ 1114111 := by
  have := decode_valid s i
  unfold Utf8.valid at this
  simp at this
  omega
theorem escB_val (s : ByteArray) (i : Nat) : -1 ≤ (escB s i).val ∧ (escB s i).val ≤ 1114111 := by
  have ht := decode_top s (i + 1)
  unfold escB
  simp only
  split
  · simp
  · split
    · simp
    · split
      · split <;> simp
      · split
        · have := @got_val (digF s 2 (i + 1 + 1) 0) 1114111 (fun y h => by have := digF_bd s 2 _ _ y h; omega)
          exact this
        · split
          · exact @got_val _ 1114111 (fun y h => braF_bd s _ _ _ _ y h)
          · split
            · exact @got_val (digF s 4 (i + 1 + 1) 0) 1114111 (fun y h => by have := digF_bd s 4 _ _ y h; omega)
            · split
              · simp
              · split
                · simp
                · split
                  · rename_i hsim
                    simp only
                    refine ⟨by omega, ?_⟩
                    unfold simN
                    repeat' split
                    all_goals omega
                  · simp; omega
theorem pieceB_val (s : ByteArray) (i : Nat) : -1 ≤ (pieceB s i).val ∧ (pieceB s i).val ≤ 1114111 := by
  have ht := decode_top s i
  unfold pieceB
  simp only
  split
  · simp
  · split
    · exact escB_val s i
    · simp; omega
/-- What holds of each part. -/
structure PtOk (s : ByteArray) (p : Pt) : Prop where
  lo : 1 ≤ p.fr
  lt : p.fr < p.to
  hi : p.to ≤ s.size
  vlo : -1 ≤ p.val
  vhi : p.val ≤ 1114111
theorem parF_ok (s : ByteArray) : ∀ (f i : Nat) (ps : List Pt), 1 ≤ i → parF s f i = .ok ps → ∀ p ∈ ps, PtOk s p
  | 0, i, ps, _, h => by cases h
  | f + 1, i, ps, h1, h => by
    unfold parF at h
    by_cases hi : i < s.size
    · rw [if_pos hi] at h
      by_cases hq : byt s i = byt s 0
      · rw [if_pos hq] at h
        by_cases he : i + 1 = s.size
        · rw [if_pos he] at h
          cases h
          simp
        · rw [if_neg he] at h
          cases h
      · rw [if_neg hq] at h
        by_cases hf : (pieceB s i).fine = true
        · rw [if_pos hf] at h
          have ht := pieceB_to s i hi
          have hv := pieceB_val s i
          cases hr : parF s f (pieceB s i).to with
          | error e => rw [hr] at h; cases h
          | ok qs =>
            rw [hr] at h
            cases h
            intro p hp
            rcases List.mem_cons.1 hp with rfl | hp
            · exact ⟨h1, ht.2.2 hf, ht.2.1, hv.1, hv.2⟩
            · exact parF_ok s f _ qs (by have := ht.2.2 hf; omega) hr p hp
        · rw [if_neg hf] at h
          cases h
    · rw [if_neg hi] at h
      cases h
theorem partsB_ok {s : ByteArray} {ps : List Pt} (h : partsB s = .ok ps) : ∀ p ∈ ps, PtOk s p := by
  unfold partsB at h
  split at h
  · cases h
  · exact parF_ok s _ 1 ps (Nat.le_refl _) h
theorem partsB_start {s : ByteArray} {ps : List Pt} (h : partsB s = .ok ps) : 0 < s.size ∧ (byt s 0 = 39 ∨ byt s 0 = 34) := by
  unfold partsB at h
  split at h
  · cases h
  · omega
theorem partsB_bad {s : ByteArray} {p : Nat} (h : partsB s = .error p) : p ≤ s.size := by
  have hF : ∀ (f i p : Nat), i ≤ s.size → parF s f i = .error p → p ≤ s.size := by
    intro f
    induction f with
    | zero => intro i p _ h; cases h; exact Nat.le_refl _
    | succ f ih =>
      intro i p hi h
      unfold parF at h
      by_cases hi : i < s.size
      · rw [if_pos hi] at h
        have ht := pieceB_to s i hi
        by_cases hq : byt s i = byt s 0
        · rw [if_pos hq] at h
          by_cases he : i + 1 = s.size
          · rw [if_pos he] at h
            cases h
          · rw [if_neg he] at h
            cases h
            omega
        · rw [if_neg hq] at h
          by_cases hf : (pieceB s i).fine = true
          · rw [if_pos hf] at h
            cases hr : parF s f (pieceB s i).to with
            | error e =>
              rw [hr] at h
              cases h
              exact ih _ _ ht.2.1 hr
            | ok qs => rw [hr] at h; cases h
          · rw [if_neg hf] at h
            cases h
            exact ht.2.1
      · rw [if_neg hi] at h
        cases h
        exact Nat.le_refl _
  unfold partsB at h
  split at h
  · cases h; omega
  · exact hF _ 1 p (by omega) h

/-- The units of parts. -/
def flatU (ps : List Pt) : List Int := ps.flatMap fun p => unitsOf p.val
theorem flatU_snoc (ps : List Pt) (p : Pt) : flatU (ps ++ [p]) = flatU ps ++ unitsOf p.val := by simp [flatU]
theorem unitsOf_len (v : Int) : (unitsOf v).length ≤ 2 := by
  unfold unitsOf
  repeat' split
  all_goals simp
theorem flatU_len (ps : List Pt) : (flatU ps).length ≤ 2 * ps.length := by
  induction ps with
  | nil => simp [flatU]
  | cons p ps ih =>
    have := unitsOf_len p.val
    simp only [flatU, List.flatMap_cons, List.length_append, List.length_cons] at ih ⊢
    omega
theorem take_succ_of {α : Type} (l : List α) (k : Nat) (h : k < l.length) : l.take (k + 1) = l.take k ++ [l[k]] := by
  rw [List.take_succ_eq_append_getElem h]
end Go.Proofs.YtcjnlbelgmcpeaaDoor
