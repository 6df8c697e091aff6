/- A part of a literal depends on its own bytes, and on one more: plain. -/
import Derived.Test.YtcjnlbelgmcpeaaDoorRefStrQuotePlain
namespace Go.Proofs.YtcjnlbelgmcpeaaDoor
open Go
set_option linter.unusedVariables false
set_option linter.unusedSimpArgs false

theorem char_core {b0 b1 b2 b3 c1 c2 c3 m : Nat} {t1 t2 t3 u1 u2 u3 : Bool} (hm : lenF b0 b1 t1 t2 t3 = m) (h0 : m ≠ 0)
    (h1 : 2 ≤ m → c1 = b1 ∧ (t1 = true → u1 = true)) (h2 : 3 ≤ m → c2 = b2 ∧ (t2 = true → u2 = true)) (h3 : 4 ≤ m → c3 = b3 ∧ (t3 = true → u3 = true)) :
    lenF b0 c1 u1 u2 u3 = m ∧ decF b0 c1 c2 c3 u1 u2 u3 = decF b0 b1 b2 b3 t1 t2 t3 := by
  unfold lenF at hm
  split at hm
  · rename_i hb
    subst hm
    unfold lenF decF
    rw [if_pos hb, if_pos hb, if_pos hb]
    exact ⟨rfl, rfl⟩
  · rename_i hb
    split at hm
    · rename_i hr
      subst hm
      obtain ⟨rfl, hu⟩ := h1 (by omega)
      obtain rfl := hu hr.2.2
      obtain ⟨hr1, hr2, rfl⟩ := hr
      have e : (b0 / 32 == 6) = true := by rw [beq_iff_eq]; omega
      exact ⟨by simp [lenF, hb, hr1, hr2], by simp [decF, hb, e]⟩
    · rename_i hr
      split at hm
      · rename_i hr3
        split at hm
        · exact absurd hm.symm h0
        · rename_i hx
          subst hm
          obtain ⟨rfl, hu⟩ := h1 (by omega)
          obtain ⟨rfl, hv⟩ := h2 (by omega)
          obtain ⟨hr1, hr2, ht1, ht2⟩ := hr3
          obtain rfl := hu ht1
          obtain rfl := hv ht2
          subst ht1 ht2
          have e0 : (b0 / 32 == 6) = false := by rw [beq_eq_false_iff_ne]; omega
          have e : (b0 / 16 == 14) = true := by rw [beq_iff_eq]; omega
          exact ⟨by unfold lenF; rw [if_neg hb, if_neg (by omega), if_pos ⟨hr1, hr2, rfl, rfl⟩, if_neg hx], by simp [decF, hb, e, e0]⟩
      · rename_i hr3
        split at hm
        · rename_i hr4
          split at hm
          · exact absurd hm.symm h0
          · rename_i hx
            subst hm
            obtain ⟨rfl, hu⟩ := h1 (by omega)
            obtain ⟨rfl, hv⟩ := h2 (by omega)
            obtain ⟨rfl, hw⟩ := h3 (by omega)
            obtain ⟨hr1, hr2, ht1, ht2, ht3⟩ := hr4
            obtain rfl := hu ht1
            obtain rfl := hv ht2
            obtain rfl := hw ht3
            subst ht1 ht2 ht3
            have e0 : (b0 / 32 == 6) = false := by rw [beq_eq_false_iff_ne]; omega
            have e1 : (b0 / 16 == 14) = false := by rw [beq_eq_false_iff_ne]; omega
            have e : (b0 / 8 == 30) = true := by rw [beq_iff_eq]; omega
            exact ⟨by unfold lenF; rw [if_neg hb, if_neg (by omega), if_neg (by omega), if_pos ⟨hr1, hr2, rfl, rfl, rfl⟩, if_neg hx], by simp [decF, hb, e, e0, e1]⟩
        · exact absurd hm.symm h0

theorem tail_move {s t : ByteArray} {a b : Nat} (ht : b < t.size) (he : byt t b = byt s a) : tailB s a = true → tailB t b = true := by
  intro h
  have := tailB_bd h
  unfold tailB
  rw [he]
  simp
  omega
theorem decode_local {s t : ByteArray} {i j : Nat} (hl : lenB s i ≠ 0) (tz : j + (Utf8.decode s i).2 ≤ t.size) (ag : ∀ k, k < (Utf8.decode s i).2 → byt t (j + k) = byt s (i + k)) :
    Utf8.decode t j = Utf8.decode s i ∧ lenB t j = lenB s i := by
  have h2 := decode_two s i
  rw [if_neg hl] at h2
  rw [h2] at tz ag
  have a0 : byt t j = byt s i := ag 0 (by omega)
  have H := @char_core (byt s i) (byt s (i + 1)) (byt s (i + 2)) (byt s (i + 3)) (byt t (j + 1)) (byt t (j + 2)) (byt t (j + 3)) (lenB s i) (tailB s (i + 1)) (tailB s (i + 2)) (tailB s (i + 3)) (tailB t (j + 1)) (tailB t (j + 2)) (tailB t (j + 3)) rfl hl
    (fun h => ⟨ag 1 (by omega), tail_move (by omega) (ag 1 (by omega))⟩) (fun h => ⟨ag 2 (by omega), tail_move (by omega) (ag 2 (by omega))⟩) (fun h => ⟨ag 3 (by omega), tail_move (by omega) (ag 3 (by omega))⟩)
  rw [decode_F, decode_F, lenB_F t j, a0]
  exact ⟨H.2, H.1⟩

theorem hexAt_local {s t : ByteArray} {i j : Nat} (hs : i < s.size) (ht : j < t.size) (he : byt t j = byt s i) : hexAt t j = hexAt s i := by
  unfold hexAt
  rw [if_pos hs, if_pos ht, he]
theorem digF_local {s t : ByteArray} : ∀ (m i j x y : Nat), (digF s m i x).1 = some y → i + m ≤ s.size → j + m ≤ t.size → (∀ k, k < m → byt t (j + k) = byt s (i + k)) → digF t m j x = (some y, j + m)
  | 0, i, j, x, y, h, _, _, _ => by
    simp [digF] at h
    simp [digF, h]
  | m + 1, i, j, x, y, h, hs, ht, ag => by
    unfold digF at h ⊢
    rw [hexAt_local (s := s) (t := t) (i := i) (j := j) (by omega) (by omega) (by simpa using ag 0 (by omega))]
    by_cases hh : 0 ≤ hexAt s i
    · rw [if_pos hh] at h ⊢
      rw [digF_local m (i + 1) (j + 1) _ y h (by omega) (by omega) (fun k hk => by have := ag (k + 1) (by omega); rw [show j + 1 + k = j + (k + 1) by omega, show i + 1 + k = i + (k + 1) by omega]; exact this)]
      rw [show j + 1 + m = j + (m + 1) by omega]
    · rw [if_neg hh] at h
      cases h
theorem braF_local {s t : ByteArray} : ∀ (f st su i j x y p : Nat), braF s st f i x = (some y, i + p) → j + p ≤ t.size → (st ≤ i ∧ su ≤ j ∧ i - st = j - su) → (∀ k, k < p → byt t (j + k) = byt s (i + k)) → ∀ g, p ≤ g → braF t su g j x = (some y, j + p)
  | 0, st, su, i, j, x, y, p, h, _, _, _ => by simp [braF] at h
  | f + 1, st, su, i, j, x, y, p, h, ht, hst, ag => by
    intro g hg
    have hto := braF_to s st (f + 1) i x
    rw [h] at hto
    have hp1 : 1 ≤ p := by have := hto.2.1 rfl; simp at this; omega
    obtain ⟨g, rfl⟩ : ∃ g', g = g' + 1 := ⟨g - 1, by omega⟩
    unfold braF at h ⊢
    have hi : i < s.size := by
      by_cases hh : 0 ≤ hexAt s i
      · exact hexAt_in hh
      · rw [if_neg hh] at h
        split at h
        · rename_i hc; exact hc.1
        · cases h
    have hx : hexAt t j = hexAt s i := hexAt_local (s := s) (t := t) (i := i) (j := j) hi (by omega) (by simpa using ag 0 (by omega))
    have hb : byt t j = byt s i := by simpa using ag 0 (by omega)
    rw [hx]
    by_cases hh : 0 ≤ hexAt s i
    · rw [if_pos hh] at h ⊢
      have hto2 := braF_to s st f (i + 1) (min (16 * x + (hexAt s i).toNat) 1114112)
      rw [h] at hto2
      have hp2 : i + 1 < i + p := hto2.2.1 rfl
      have := braF_local (s := s) (t := t) f st su (i + 1) (j + 1) _ y (p - 1) (by rw [h]; congr 1; omega) (by omega) ?_ (fun k hk => by have := ag (k + 1) (by omega); rw [show j + 1 + k = j + (k + 1) by omega, show i + 1 + k = i + (k + 1) by omega]; exact this) g (by omega)
      · rw [this]
        congr 1
        omega
      · omega
    · rw [if_neg hh] at h ⊢
      split at h
      · rename_i hc
        simp only [Prod.mk.injEq, Option.some.injEq] at h
        obtain ⟨rfl, hp⟩ := h
        have : p = 1 := by omega
        subst this
        rw [if_pos ⟨by omega, by rw [hb]; exact hc.2.1, fun e => hc.2.2.1 (by omega), hc.2.2.2⟩]
      · cases h
theorem isByte_iff (s : ByteArray) (i c : Nat) : isByte s i c = true ↔ i < s.size ∧ byt s i = c := by
  unfold isByte
  simp
theorem got_some_of {r : Option Nat × Nat} {v : Int} {p : Nat} (h : gotOf r = ⟨v, p, true⟩) : ∃ y : Nat, r = (some y, p) ∧ v = y := by
  unfold gotOf at h
  obtain ⟨o, q⟩ := r
  cases o with
  | none => cases h
  | some y =>
    simp only [Got.mk.injEq, and_true] at h
    exact ⟨y, by rw [h.2], h.1.symm⟩
theorem escR_local {s t : ByteArray} {i j r m n : Nat} {v : Int} (h : escR s i r m = ⟨v, i + n, true⟩) (hi : i < s.size) (hm1 : 1 ≤ m) (hsm : r < 128 → m = 1) (hs : i + n ≤ s.size) (ht : j + n ≤ t.size)
    (ag : ∀ k, k < n → byt t (j + k) = byt s (i + k)) (L0 : r = 48 → isDig t (j + 1) = false) (L1 : r = 13 → n = 1 → isByte t (j + 1) 10 = false) :
    escR t j r m = ⟨v, j + n, true⟩ ∧ m ≤ n := by
  unfold escR at h ⊢
  split at h
  · simp at h
  · rename_i c1
    rw [if_neg c1]
    split at h
    · rename_i c2
      rw [if_pos c2]
      split at h
      · simp at h
      · simp only [Got.mk.injEq, and_true] at h
        obtain ⟨rfl, hn⟩ := h
        have : n = 1 := by omega
        subst this
        rw [if_neg (by rw [L0 c2]; simp)]
        exact ⟨rfl, by have := hsm (by omega); omega⟩
    · rename_i c2
      rw [if_neg c2]
      split at h
      · rename_i c3
        rw [if_pos c3]
        obtain ⟨y, hy, rfl⟩ := got_some_of h
        have hto := digF_to s 2 (i + 1) 0
        rw [hy] at hto
        have hn : n = 3 := by have := hto.2.2.1 rfl; simp at this; omega
        subst hn
        have := digF_local (s := s) (t := t) 2 (i + 1) (j + 1) 0 y (by rw [hy]) (by omega) (by omega) (fun k hk => by have := ag (k + 1) (by omega); rw [show j + 1 + k = j + (k + 1) by omega, show i + 1 + k = i + (k + 1) by omega]; exact this)
        rw [this]
        exact ⟨rfl, by have := hsm (by omega); omega⟩
      · rename_i c3
        rw [if_neg c3]
        split at h
        · rename_i c4
          obtain ⟨y, hy, rfl⟩ := got_some_of h
          have hb := (isByte_iff s (i + 1) 123).1 c4.2
          have hto := braF_to s (i + 2) (s.size - (i + 2) + 1) (i + 2) 0
          unfold braRest at hy
          rw [hy] at hto
          have hn : i + 2 < i + n := hto.2.1 rfl
          have a1 := ag 1 (by omega)
          rw [if_pos ⟨c4.1, (isByte_iff t (j + 1) 123).2 ⟨by omega, by rw [a1]; exact hb.2⟩⟩]
          have := braF_local (s := s) (t := t) _ (i + 2) (j + 2) (i + 2) (j + 2) 0 y (n - 2) (by rw [hy]; congr 1; omega) (by omega) ⟨by omega, by omega, by omega⟩ (fun k hk => by have := ag (k + 2) (by omega); rw [show j + 2 + k = j + (k + 2) by omega, show i + 2 + k = i + (k + 2) by omega]; exact this) (t.size - (j + 2) + 1) (by omega)
          unfold braRest
          rw [this, show j + 2 + (n - 2) = j + n by omega]
          exact ⟨rfl, by have := hsm (by omega); omega⟩
        · rename_i c4
          split at h
          · rename_i c5
            obtain ⟨y, hy, rfl⟩ := got_some_of h
            have hto := digF_to s 4 (i + 1) 0
            rw [hy] at hto
            have hn : n = 5 := by have := hto.2.2.1 rfl; simp at this; omega
            subst hn
            have a1 := ag 1 (by omega)
            have c4' : ¬ (r = 117 ∧ isByte t (j + 1) 123 = true) := by
              rintro ⟨_, hb⟩
              have := (isByte_iff t (j + 1) 123).1 hb
              exact c4 ⟨c5, (isByte_iff s (i + 1) 123).2 ⟨by omega, by rw [← a1]; exact this.2⟩⟩
            rw [if_neg c4', if_pos c5]
            have := digF_local (s := s) (t := t) 4 (i + 1) (j + 1) 0 y (by rw [hy]) (by omega) (by omega) (fun k hk => by have := ag (k + 1) (by omega); rw [show j + 1 + k = j + (k + 1) by omega, show i + 1 + k = i + (k + 1) by omega]; exact this)
            rw [this]
            exact ⟨rfl, by have := hsm (by omega); omega⟩
          · rename_i c5
            rw [if_neg (by omega), if_neg c5]
            split at h
            · rename_i c6
              simp only [Got.mk.injEq, and_true] at h
              obtain ⟨rfl, hn⟩ := h
              have : n = 2 := by omega
              subst this
              have hb := (isByte_iff s (i + 1) 10).1 c6.2
              have a1 := ag 1 (by omega)
              rw [if_pos ⟨c6.1, (isByte_iff t (j + 1) 10).2 ⟨by omega, by rw [a1]; exact hb.2⟩⟩]
              exact ⟨rfl, by have := hsm (by omega); omega⟩
            · rename_i c6
              have hnm : n = m := by
                split at h
                · simp only [Got.mk.injEq, and_true] at h; omega
                · split at h <;> (simp only [Got.mk.injEq, and_true] at h; omega)
              subst hnm
              have c6' : ¬ (r = 13 ∧ isByte t (j + 1) 10 = true) := by
                rintro ⟨h1, h2⟩
                rw [L1 h1 (hsm (by omega))] at h2
                cases h2
              rw [if_neg c6']
              refine ⟨?_, Nat.le_refl _⟩
              split at h
              · rename_i c7
                rw [if_pos c7]
                simp only [Got.mk.injEq, and_true] at h
                first | rw [h.1] | rw [h]
              · rename_i c7
                rw [if_neg c7]
                split at h
                · rename_i c8
                  rw [if_pos c8]
                  simp only [Got.mk.injEq, and_true] at h
                  first | rw [h.1] | rw [h]
                · rename_i c8
                  rw [if_neg c8]
                  simp only [Got.mk.injEq, and_true] at h
                  first | rw [h.1] | rw [h]
/-- AN ESCAPE DEPENDS ON ITS BYTES, and on one more behind a zero or a carriage return. -/
theorem escB_local {s t : ByteArray} {i j n : Nat} {v : Int} (h : escB s i = ⟨v, i + n, true⟩) (ht : j + n ≤ t.size) (ag : ∀ k, k < n → byt t (j + k) = byt s (i + k))
    (L0 : byt s (i + 1) = 48 → isDig t (j + 2) = false) (L1 : byt s (i + 1) = 13 → n = 2 → isByte t (j + 2) 10 = false) : escB t j = ⟨v, j + n, true⟩ := by
  have h2 := escB_two s i (by rw [h])
  rw [h] at h2
  simp only at h2
  by_cases hin : ¬ i + 1 < s.size ∨ lenB s (i + 1) = 0
  · rw [escB_out s i hin] at h
    simp at h
  · have hl : lenB s (i + 1) ≠ 0 := fun e => hin (Or.inr e)
    have hi1 : i + 1 < s.size := by
      by_cases e : i + 1 < s.size
      · exact e
      · exact absurd (Or.inl e) hin
    have hto := escB_to s i (by omega)
    rw [h] at hto
    simp only at hto
    rw [escB_in s i hi1 hl] at h
    obtain ⟨k, rfl⟩ : ∃ k, n = k + 1 := ⟨n - 1, by omega⟩
    have hr := escR_local (s := s) (t := t) (i := i + 1) (j := j + 1) (n := k) (v := v) (by rw [h]; congr 1; omega) hi1 (decode_pos s (i + 1)) (fun hlt => (decode_small s (i + 1) hlt).1) (by omega) (by omega)
      (fun q hq => by have := ag (q + 1) (by omega); rw [show j + 1 + q = j + (q + 1) by omega, show i + 1 + q = i + (q + 1) by omega]; exact this)
      (fun e => L0 (by rw [(decode_small s (i + 1) (by omega)).2, e])) (fun e hk => L1 (by rw [(decode_small s (i + 1) (by omega)).2, e]) (by omega))
    have hd := decode_local (s := s) (t := t) (i := i + 1) (j := j + 1) hl (by omega) (fun q hq => by have := ag (q + 1) (by omega); rw [show j + 1 + q = j + (q + 1) by omega, show i + 1 + q = i + (q + 1) by omega]; exact this)
    rw [escB_in t j (by omega) (by rw [hd.2]; exact hl), hd.1, hr.1]
    congr 1
    omega
/-- A PART DEPENDS ON ITS BYTES, and on one more behind an escaped zero or carriage return. -/
theorem pieceB_local {s t : ByteArray} {i j n : Nat} {v : Int} (h : pieceB s i = ⟨v, i + n, true⟩) (hi : i < s.size) (ht : j + n ≤ t.size) (ag : ∀ k, k < n → byt t (j + k) = byt s (i + k))
    (L0 : byt s i = 92 → byt s (i + 1) = 48 → isDig t (j + 2) = false) (L1 : byt s i = 92 → byt s (i + 1) = 13 → n = 2 → isByte t (j + 2) 10 = false) : pieceB t j = ⟨v, j + n, true⟩ := by
  have hto := (pieceB_to s i hi).2.2 (by rw [h])
  rw [h] at hto
  simp only at hto
  have a0 := ag 0 (by omega)
  simp only [Nat.add_zero] at a0
  by_cases hb : byt s i = 92
  · have e1 : pieceB s i = escB s i := pieceB_esc s i (by rw [lenB_1 s i (by omega)]; decide) (by rw [decode_byte s i hi (by omega)]; exact hb)
    have e2 : pieceB t j = escB t j := pieceB_esc t j (by rw [lenB_1 t j (by omega)]; decide) (by rw [decode_byte t j (by omega) (by omega)]; omega)
    rw [e1] at h
    rw [e2]
    exact escB_local h ht ag (L0 hb) (L1 hb)
  · have hl : lenB s i ≠ 0 := by
      intro hl
      rw [pieceB_bad s i (Or.inl hl)] at h
      simp at h
    have hn : ¬ ((Utf8.decode s i).1 = 10 ∨ (Utf8.decode s i).1 = 13) := by
      intro hn
      rw [pieceB_bad s i (Or.inr hn)] at h
      simp at h
    have h93 : (Utf8.decode s i).1 ≠ 92 := fun e => hb (by have := (decode_small s i (by omega)).2; omega)
    rw [pieceB_plain s i hl (by omega) (by omega) h93] at h
    simp only [Got.mk.injEq, and_true] at h
    obtain ⟨rfl, hn2⟩ := h
    have e : (Utf8.decode s i).2 = n := by omega
    have hd := decode_local (s := s) (t := t) (i := i) (j := j) hl (by omega) (fun q hq => ag q (by omega))
    rw [pieceB_plain t j (by rw [hd.2]; exact hl) (by rw [hd.1]; omega) (by rw [hd.1]; omega) (by rw [hd.1]; exact h93), hd.1, e]
end Go.Proofs.YtcjnlbelgmcpeaaDoor
