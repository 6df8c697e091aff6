/- The parts of a text within another text: plain. -/
import Derived.Test.YtcjnlbelgmcpeaaDoorStrLocal
namespace Go.Proofs.YtcjnlbelgmcpeaaDoor
open Go
set_option linter.unusedVariables false
set_option linter.unusedSimpArgs false

/-- A part moved on. -/
def Pt.move (d : Nat) (p : Pt) : Pt := ⟨p.fr + d, p.to + d, p.esc, p.val⟩
theorem isDig_iff (s : ByteArray) (i : Nat) : isDig s i = true ↔ i < s.size ∧ 48 ≤ byt s i ∧ byt s i ≤ 57 := by
  unfold isDig
  simp [and_assoc]
/-- What an escape that is fine says of the byte behind a zero, a carriage return. -/
theorem escB_zero {s : ByteArray} {i n : Nat} {v : Int} (h : escB s i = ⟨v, i + n, true⟩) (hi : i + 1 < s.size) (hb : byt s (i + 1) = 48) : isDig s (i + 2) = false ∧ n = 2 := by
  have he := (escB_of s i 48 hi hb (by decide)).1
  rw [h] at he
  unfold escR at he
  rw [if_neg (by omega), if_pos rfl] at he
  split at he
  · simp at he
  · rename_i hd
    simp only [Got.mk.injEq, and_true] at he
    exact ⟨by simpa using hd, by omega⟩
theorem escB_cr {s : ByteArray} {i : Nat} {v : Int} (h : escB s i = ⟨v, i + 2, true⟩) (hi : i + 1 < s.size) (hb : byt s (i + 1) = 13) : isByte s (i + 2) 10 = false := by
  have he := (escB_of s i 13 hi hb (by decide)).1
  rw [h] at he
  cases hx : isByte s (i + 2) 10
  · rfl
  · exfalso
    unfold escR at he
    rw [if_neg (by omega), if_neg (by omega), if_neg (by omega), if_neg (by omega), if_neg (by omega), if_pos ⟨rfl, hx⟩] at he
    simp at he
theorem parF_join {s t : ByteArray} {d e : Nat} (hs : s.size = e + 1) (hq : byt t 0 = byt s 0) (ht : e + d < t.size)
    (c0 : ¬ (48 ≤ byt t (e + d) ∧ byt t (e + d) ≤ 57)) (c1 : byt s (e - 1) = 13 → byt t (e + d) ≠ 10) :
    ∀ (f i : Nat) (ps : List Pt), parF s f i = .ok ps → (∀ k, i ≤ k → k < e → byt t (k + d) = byt s k) → parRest t (i + d) = (parRest t (e + d)).map (ps.map (Pt.move d) ++ ·)
  | 0, i, ps, h, _ => by cases h
  | f + 1, i, ps, h, ag => by
    unfold parF at h
    by_cases hi : i < s.size
    · rw [if_pos hi] at h
      by_cases hb : byt s i = byt s 0
      · rw [if_pos hb] at h
        by_cases he : i + 1 = s.size
        · rw [if_pos he] at h
          cases h
          have : i = e := by omega
          subst this
          cases parRest t (i + d) <;> rfl
        · rw [if_neg he] at h
          cases h
      · rw [if_neg hb] at h
        by_cases hf : (pieceB s i).fine = true
        · rw [if_pos hf] at h
          cases hr : parF s f (pieceB s i).to with
          | error x => rw [hr] at h; cases h
          | ok qs =>
            rw [hr] at h
            cases h
            have hto := pieceB_to s i hi
            have hto3 := hto.2.2 hf
            have hlast : (pieceB s i).to < s.size := by
              by_cases hx : (pieceB s i).to < s.size
              · exact hx
              · exfalso
                cases f with
                | zero => cases hr
                | succ f => unfold parF at hr; rw [if_neg hx] at hr; cases hr
            obtain ⟨n, hn⟩ : ∃ n, (pieceB s i).to = i + n := ⟨(pieceB s i).to - i, by omega⟩
            have hp : pieceB s i = ⟨(pieceB s i).val, i + n, true⟩ := by
              rw [← hn]
              generalize pieceB s i = q at hf ⊢
              obtain ⟨a, b, c⟩ := q
              simp only at hf
              subst hf
              rfl
            have hie : i < e := by omega
            have ai := ag i (Nat.le_refl _) hie
            have hpt := pieceB_local (s := s) (t := t) (i := i) (j := i + d) (n := n) hp hi (by omega) (fun k hk => by have := ag (i + k) (by omega) (by omega); rw [show i + d + k = i + k + d by omega]; exact this) ?_ ?_
            · have ih := parF_join hs hq ht c0 c1 f (pieceB s i).to qs hr (fun k hk hk2 => ag k (by omega) hk2)
              have hst := parRest_step t (i + d) (by omega) (by rw [ai, hq]; exact hb) (by rw [hpt])
              rw [hst, hpt]
              simp only
              rw [show i + d + n = (pieceB s i).to + d by omega, ih, ai]
              cases parRest t (e + d) with
              | error x => rfl
              | ok rs =>
                simp only [Except.map, List.map_cons, List.cons_append, Pt.move]
            · intro h92 h48
              have e1 : pieceB s i = escB s i := pieceB_esc s i (by rw [lenB_1 s i (by omega)]; decide) (by rw [decode_byte s i hi (by omega)]; exact h92)
              rw [e1] at hp
              have h2 := escB_two s i (by rw [← e1]; exact hf)
              have hz := escB_zero (n := n) (by rw [← e1] at hp ⊢; exact hp) (by rw [e1] at hlast; omega) h48
              cases hx : isDig t (i + d + 2)
              · rfl
              · exfalso
                have hy := (isDig_iff _ _).1 hx
                by_cases hlt : i + 2 < e
                · have a2 := ag (i + 2) (by omega) hlt
                  rw [show i + d + 2 = i + 2 + d by omega, a2] at hy
                  have := (isDig_iff s (i + 2)).2 ⟨by omega, hy.2⟩
                  rw [hz.1] at this
                  cases this
                · have : i + d + 2 = e + d := by have := hz.2; omega
                  rw [this] at hy
                  exact c0 hy.2
            · intro h92 h13 hn2
              have e1 : pieceB s i = escB s i := pieceB_esc s i (by rw [lenB_1 s i (by omega)]; decide) (by rw [decode_byte s i hi (by omega)]; exact h92)
              subst hn2
              have hz := escB_cr (by rw [← e1]; exact hp) (by omega) h13
              cases hx : isByte t (i + d + 2) 10
              · rfl
              · exfalso
                have hy := (isByte_iff _ _ _).1 hx
                by_cases hlt : i + 2 < e
                · have a2 := ag (i + 2) (by omega) hlt
                  rw [show i + d + 2 = i + 2 + d by omega, a2] at hy
                  have := (isByte_iff s (i + 2) 10).2 ⟨by omega, hy.2⟩
                  rw [hz] at this
                  cases this
                · have hee : i + d + 2 = e + d := by omega
                  rw [hee] at hy
                  exact c1 (by rw [show e - 1 = i + 1 by omega]; exact h13) hy.2
        · rw [if_neg hf] at h
          cases h
    · rw [if_neg hi] at h
      cases h
theorem flatU_move (d : Nat) (ps : List Pt) : flatU (ps.map (Pt.move d)) = flatU ps := by
  induction ps with
  | nil => rfl
  | cons p ps ih => simp only [flatU, List.map_cons, List.flatMap_cons] at ih ⊢; rw [ih]; rfl
theorem flatU_app (ps qs : List Pt) : flatU (ps ++ qs) = flatU ps ++ flatU qs := by simp [flatU]
section
variable (s t : ByteArray)
theorem sapp_data : (s ++ t).data.toList = s.data.toList ++ t.data.toList := by simp
theorem sapp_size : (s ++ t).size = s.size + t.size := by rw [size_list, sapp_data, List.length_append, ← size_list, ← size_list]
theorem sapp_left (j : Nat) (h : j < s.size) : byt (s ++ t) j = byt s j := by
  rw [byt_list, byt_list, sapp_data, List.getElem?_append_left (by rw [← size_list]; exact h)]
theorem sapp_right (j k : Nat) (h : k = s.size + j) : byt (s ++ t) k = byt t j := by
  subst h
  rw [byt_list, byt_list, sapp_data, List.getElem?_append_right (by rw [← size_list]; omega), ← size_list]
  congr 2
  rw [show s.size + j - s.size = j by omega]
end
/-- A text in quotes. -/
def wrapQ (q : UInt8) (s : ByteArray) : ByteArray := ⟨#[q]⟩ ++ s ++ ⟨#[q]⟩
theorem one_size (q : UInt8) : (⟨#[q]⟩ : ByteArray).size = 1 := rfl
theorem one_byt (q : UInt8) : byt (⟨#[q]⟩ : ByteArray) 0 = q.toNat := rfl
theorem wrap_size (q : UInt8) (s : ByteArray) : (wrapQ q s).size = s.size + 2 := by
  unfold wrapQ
  rw [sapp_size, sapp_size, one_size]
  omega
theorem wrap_0 (q : UInt8) (s : ByteArray) : byt (wrapQ q s) 0 = q.toNat := by
  unfold wrapQ
  rw [sapp_left _ _ 0 (by rw [sapp_size, one_size]; omega), sapp_left _ _ 0 (by rw [one_size]; omega)]
  rfl
theorem wrap_in (q : UInt8) (s : ByteArray) (k : Nat) (h : k < s.size) : byt (wrapQ q s) (k + 1) = byt s k := by
  unfold wrapQ
  rw [sapp_left _ _ (k + 1) (by rw [sapp_size, one_size]; omega), sapp_right _ _ k (k + 1) (by rw [one_size]; omega)]
theorem wrap_end (q : UInt8) (s : ByteArray) : byt (wrapQ q s) (s.size + 1) = q.toNat := by
  unfold wrapQ
  rw [sapp_right _ _ 0 (s.size + 1) (by rw [sapp_size, one_size]; omega)]
  rfl
/-- TWO TEXTS' PARTS IN ONE LITERAL. -/
theorem parts_join {q : UInt8} {s t : ByteArray} {ps qs : List Pt} (hq : q.toNat = 39 ∨ q.toNat = 34) (hs : partsB (wrapQ q s) = .ok ps) (ht : partsB (wrapQ q t) = .ok qs)
    (c0 : 0 < t.size → ¬ (48 ≤ byt t 0 ∧ byt t 0 ≤ 57)) (c1 : 0 < s.size → 0 < t.size → byt s (s.size - 1) = 13 → byt t 0 ≠ 10) :
    partsB (wrapQ q (s ++ t)) = .ok (ps ++ qs.map (Pt.move s.size)) := by
  have zs := wrap_size q s
  have zt := wrap_size q t
  have zc := wrap_size q (s ++ t)
  have zst := sapp_size s t
  have d0 := wrap_0 q s
  have d1 := wrap_0 q t
  have d2 := wrap_0 q (s ++ t)
  unfold partsB at hs ht ⊢
  rw [if_neg (by omega)] at hs ht ⊢
  unfold parRest at hs ht
  -- the byte behind the first text
  have hnext : byt (wrapQ q (s ++ t)) (s.size + 1) = if 0 < t.size then byt t 0 else q.toNat := by
    by_cases h : 0 < t.size
    · rw [if_pos h, wrap_in q (s ++ t) s.size (by omega), sapp_right s t 0 s.size (by omega)]
    · rw [if_neg h]
      have := wrap_end q (s ++ t)
      rw [zst, show s.size + t.size + 1 = s.size + 1 by omega] at this
      exact this
  have j1 := parF_join (s := wrapQ q s) (t := wrapQ q (s ++ t)) (d := 0) (e := s.size + 1) (by omega) (by omega) (by omega)
    (by
      rw [Nat.add_zero, hnext]
      by_cases h : 0 < t.size
      · rw [if_pos h]; exact c0 h
      · rw [if_neg h]; omega)
    (by
      intro h13
      rw [Nat.add_zero, hnext]
      by_cases h : 0 < t.size
      · rw [if_pos h]
        by_cases h0 : 0 < s.size
        · refine c1 h0 h ?_
          have := wrap_in q s (s.size - 1) (by omega)
          rw [show s.size - 1 + 1 = s.size + 1 - 1 by omega] at this
          omega
        · exfalso
          rw [show s.size + 1 - 1 = 0 by omega, d0] at h13
          omega
      · rw [if_neg h]; omega) _ 1 ps hs
    (fun k hk hk2 => by
      have h1 := wrap_in q s (k - 1) (by omega)
      have h2 := wrap_in q (s ++ t) (k - 1) (by omega)
      rw [sapp_left s t (k - 1) (by omega)] at h2
      rw [show k - 1 + 1 = k by omega] at h1 h2
      rw [Nat.add_zero, h1, h2])
  have j2 := parF_join (s := wrapQ q t) (t := wrapQ q (s ++ t)) (d := s.size) (e := t.size + 1) (by omega) (by omega) (by omega)
    (by
      have := wrap_end q (s ++ t)
      rw [zst, show s.size + t.size + 1 = t.size + 1 + s.size by omega] at this
      rw [this]
      omega)
    (by
      intro _
      have := wrap_end q (s ++ t)
      rw [zst, show s.size + t.size + 1 = t.size + 1 + s.size by omega] at this
      rw [this]
      omega) _ 1 qs ht
    (fun k hk hk2 => by
      have h1 := wrap_in q t (k - 1) (by omega)
      have h2 := wrap_in q (s ++ t) (s.size + (k - 1)) (by omega)
      rw [sapp_right s t (k - 1) (s.size + (k - 1)) rfl] at h2
      rw [show k - 1 + 1 = k by omega] at h1
      rw [show s.size + (k - 1) + 1 = k + s.size by omega] at h2
      rw [h1, h2])
  rw [Nat.add_zero, Nat.add_zero] at j1
  rw [j1, show s.size + 1 = 1 + s.size by omega, j2]
  have hend := wrap_end q (s ++ t)
  rw [zst, show s.size + t.size + 1 = t.size + 1 + s.size by omega] at hend
  rw [parRest_quote _ _ (by omega) (by rw [hend, d2]), if_pos (by omega)]
  have hm : ps.map (Pt.move 0) = ps := by
    have : Pt.move 0 = id := by funext p; rfl
    rw [this, List.map_id]
  simp [Except.map, hm]
end Go.Proofs.YtcjnlbelgmcpeaaDoor
