/- The reference's Quote in plain Lean: which parts are quotes, and what stands for them. -/
import Derived.Test.YtcjnlbelgmcpeaaDoorStrQuotePlain
import Derived.Test.YtcjnlbelgmcpeaaDoorRefStrNext
namespace Go.Proofs.YtcjnlbelgmcpeaaDoor
open Go
set_option linter.unusedVariables false
set_option linter.unusedSimpArgs false

theorem parF_piece (s : ByteArray) : ∀ (f i : Nat) (ps : List Pt), parF s f i = .ok ps → ∀ p ∈ ps, pieceB s p.fr = ⟨p.val, p.to, true⟩ ∧ p.esc = (byt s p.fr == 92) ∧ p.fr < s.size
  | 0, i, ps, h => by cases h
  | f + 1, i, ps, h => by
    unfold parF at h
    by_cases hi : i < s.size
    · rw [if_pos hi] at h
      by_cases hq : byt s i = byt s 0
      · rw [if_pos hq] at h
        by_cases he : i + 1 = s.size
        · rw [if_pos he] at h
          cases h
          simp
        · rw [if_neg he] at h
          cases h
      · rw [if_neg hq] at h
        by_cases hf : (pieceB s i).fine = true
        · rw [if_pos hf] at h
          cases hr : parF s f (pieceB s i).to with
          | error e => rw [hr] at h; cases h
          | ok qs =>
            rw [hr] at h
            cases h
            intro p hp
            rcases List.mem_cons.1 hp with rfl | hp
            · refine ⟨?_, rfl, hi⟩
              simp only
              generalize pieceB s i = q at *
              obtain ⟨a, b, c⟩ := q
              simp only at hf
              subst hf
              rfl
            · exact parF_piece s f _ qs hr p hp
        · rw [if_neg hf] at h
          cases h
    · rw [if_neg hi] at h
      cases h
theorem partsB_piece {s : ByteArray} {ps : List Pt} (h : partsB s = .ok ps) : ∀ p ∈ ps, pieceB s p.fr = ⟨p.val, p.to, true⟩ ∧ p.esc = (byt s p.fr == 92) ∧ p.fr < s.size := by
  unfold partsB at h
  split at h
  · cases h
  · exact parF_piece s _ 1 ps h
theorem decode_byte (s : ByteArray) (i : Nat) (h : i < s.size) (hb : byt s i < 128) : Utf8.decode s i = (byt s i, 1) := by
  have := decode_ascii s i h (by rw [byt_eq]; exact hb)
  rw [byt_eq] at this
  exact this
theorem got_fine_to {r : Option Nat × Nat} (h : (gotOf r).fine = true) : r.1.isSome = true ∧ (gotOf r).to = r.2 := ⟨(got_to r).2 h, (got_to r).1⟩
/-- A fine escape ends two bytes on, or further. -/
theorem escB_two (s : ByteArray) (i : Nat) : (escB s i).fine = true → i + 2 ≤ (escB s i).to := by
  have hp := decode_pos s (i + 1)
  unfold escB
  simp only
  split
  · intro h; cases h
  · split
    · intro h; cases h
    · split
      · split
        · intro h; cases h
        · intro _; simp
      · split
        · intro h
          obtain ⟨h1, h2⟩ := got_fine_to h
          rw [h2]
          have := digF_to s 2 (i + 1 + 1) 0
          omega
        · split
          · intro h
            obtain ⟨h1, h2⟩ := got_fine_to h
            rw [h2]
            have := (braF_to s (i + 1 + 2) (s.size - (i + 1 + 2) + 1) (i + 1 + 2) 0).1
            unfold braRest
            omega
          · split
            · intro h
              obtain ⟨h1, h2⟩ := got_fine_to h
              rw [h2]
              have := digF_to s 4 (i + 1 + 1) 0
              omega
            · split
              · intro _; first | (simp; done) | (simp; omega)
              · split
                · intro _; first | (simp; done) | (simp; omega)
                · split <;> (intro _; first | (simp; done) | (simp; omega))
/-- What the reference looks at, of a fine part. -/
structure RFacts (s : ByteArray) (p : Pt) : Prop where
  one : p.to = p.fr + 1 → unitsOf p.val = [p.val] ∧ p.val = (byt s p.fr : Int) ∧ chP s p.fr = 0 ∧ p.esc = false ∧ chQ s p = byt s p.fr
  more : p.to ≠ p.fr + 1 → ∀ c : Nat, c = 39 ∨ c = 34 → ((isQ s p = true ∧ chQ s p = c) ↔ chP s p.fr = (c : Int))
  lead : ∀ c : Nat, c = 39 ∨ c = 34 → byt s p.fr = c → p.to = p.fr + 1
theorem rfacts {s : ByteArray} {p : Pt} (hp : pieceB s p.fr = ⟨p.val, p.to, true⟩) (he : p.esc = (byt s p.fr == 92)) (hin : p.fr < s.size) (ok : PtOk s p) : RFacts s p := by
  obtain ⟨f, t, e, v⟩ := p
  simp only at hp he hin
  by_cases h92 : byt s f = 92
  · have hd := decode_byte s f hin (by omega)
    have hpe : pieceB s f = escB s f := pieceB_esc s f (by rw [lenB_1 s f (by omega)]; decide) (by rw [hd]; exact h92)
    rw [hpe] at hp
    have ht := escB_two s f (by rw [hp])
    rw [hp] at ht
    simp only at ht
    have het : e = true := by rw [he, h92]; rfl
    have hch : chP s f = chB s f := by unfold chP; rw [if_pos h92]
    refine ⟨fun h => by simp only at h; omega, fun _ c hc => ?_, fun c hc h => by simp only at h; omega⟩
    simp only
    rw [hch]
    have hts : t ≤ s.size := ok.hi
    have hin1 : f + 1 < s.size := by omega
    constructor
    · rintro ⟨hq, hqc⟩
      unfold isQ at hq
      simp only [Bool.and_eq_true, decide_eq_true_eq] at hq
      have h2 : t = f + 2 := by have := hq.1.2; omega
      unfold chQ at hqc
      simp only at hqc
      rw [h2] at hqc
      have hb : byt s (f + 1) = c := hqc
      have hdc := decode_byte s (f + 1) hin1 (by omega)
      rw [hb] at hdc
      have : chB s f = ((c : Nat) : Int) := chB_r (by rw [hdc]) (by rcases hc with rfl | rfl <;> decide)
      exact this
    · intro hcb
      have hr : (Utf8.decode s (f + 1)).1 = c := by
        unfold chB at hcb
        simp only at hcb
        split at hcb
        · omega
        · omega
      have hsm := decode_small s (f + 1) (by rw [hr]; omega)
      have hb : byt s (f + 1) = c := by rw [hsm.2, hr]
      have hee := (escB_of s f c hin1 hb (by omega)).1
      have hrr : escR s (f + 1) c 1 = ⟨(c : Int), f + 1 + 1, true⟩ := by
        unfold escR
        have hs0 : ¬ 0 ≤ simN ((c : Nat) : Int) := by rcases hc with rfl | rfl <;> decide
        rw [if_neg (by omega), if_neg (by omega), if_neg (by omega), if_neg (by omega), if_neg (by omega), if_neg (by omega), if_neg (by omega), if_neg hs0]
      rw [hp, hrr] at hee
      simp only [Got.mk.injEq] at hee
      have h2 : t = f + 2 := by omega
      have hcq : chQ s ⟨f, t, e, v⟩ = c := by unfold chQ; simp only; rw [h2]; exact hb
      refine ⟨?_, hcq⟩
      unfold isQ
      rw [hcq, h2, het]
      rcases hc with rfl | rfl <;> simp
  · have hch : chP s f = 0 := by unfold chP; rw [if_neg h92]
    have hef : e = false := by rw [he]; simpa using h92
    have hl : lenB s f ≠ 0 := by
      intro hl
      rw [pieceB_bad s f (Or.inl hl)] at hp
      cases hp
    have hn : ¬ ((Utf8.decode s f).1 = 10 ∨ (Utf8.decode s f).1 = 13) := by
      intro hn
      rw [pieceB_bad s f (Or.inr hn)] at hp
      cases hp
    have h93 : (Utf8.decode s f).1 ≠ 92 := fun h => h92 (by have := (decode_small s f (by omega)).2; omega)
    rw [pieceB_plain s f hl (by omega) (by omega) h93] at hp
    simp only [Got.mk.injEq, and_true] at hp
    obtain ⟨hv, ht⟩ := hp
    have small : byt s f < 128 → (Utf8.decode s f) = (byt s f, 1) := fun h => decode_byte s f hin h
    have hone : t = f + 1 → byt s f < 128 := by
      intro h
      have h2 := decode_two s f
      rw [if_neg hl] at h2
      have h1 : lenB s f = 1 := by omega
      refine Nat.lt_of_not_le fun hb => ?_
      rcases (by omega : byt s f < 194 ∨ 245 ≤ byt s f ∨ (194 ≤ byt s f ∧ byt s f < 224) ∨ (224 ≤ byt s f ∧ byt s f < 240) ∨ (240 ≤ byt s f ∧ byt s f < 245)) with h | h | h | h | h
      · rw [lenB_0 s f hb (Or.inl h)] at h1; omega
      · rw [lenB_0 s f hb (Or.inr h)] at h1; omega
      · rw [lenB_2 s f h.1 h.2] at h1; split at h1 <;> omega
      · rw [lenB_3 s f h.1 h.2] at h1; split at h1 <;> (try split at h1) <;> omega
      · rw [lenB_4 s f h.1 h.2] at h1; split at h1 <;> (try split at h1) <;> omega
    refine ⟨fun h => ?_, fun h c hc => ?_, fun c hc h => ?_⟩
    · simp only at h
      have hb := hone h
      have hd := small hb
      rw [hd] at hv
      simp only at hv
      refine ⟨?_, hv.symm, hch, hef, ?_⟩
      · simp only
        unfold unitsOf
        rw [if_neg (by omega), if_neg (by omega)]
      · unfold chQ
        simp only
        rw [h]
        rfl
    · simp only at h ⊢
      rw [hch]
      constructor
      · rintro ⟨hq, _⟩
        unfold isQ at hq
        rw [hef] at hq
        simp at hq
        omega
      · intro h0
        omega
    · simp only at h ⊢
      have hd := small (by omega)
      rw [hd] at ht
      simp only at ht
      exact ht.symm
/-- What a part counts for. -/
theorem hit_one {s : ByteArray} {p : Pt} (h : RFacts s p) (h1 : p.to = p.fr + 1) (c : Nat) (hc : c = 39 ∨ c = 34) : (isQ s p && chQ s p == c) = (byt s p.fr == c) := by
  obtain ⟨_, _, _, he, hq⟩ := h.one h1
  unfold isQ
  rw [hq, h1, he]
  by_cases hb : byt s p.fr = c
  · rw [hb]
    rcases hc with rfl | rfl <;> simp
  · have : (byt s p.fr == c) = false := by simpa using hb
    rw [this]
    simp
theorem hit_more {s : ByteArray} {p : Pt} (h : RFacts s p) (h1 : p.to ≠ p.fr + 1) (c : Nat) (hc : c = 39 ∨ c = 34) : (isQ s p && chQ s p == c) = decide (chP s p.fr = (c : Int)) := by
  have := h.more h1 c hc
  by_cases hb : chP s p.fr = (c : Int)
  · obtain ⟨h2, h3⟩ := this.2 hb
    rw [h2, h3]
    simp [hb]
  · have h4 : ¬ (isQ s p = true ∧ chQ s p = c) := fun h => hb (this.1 h)
    simp only [hb, decide_false]
    cases hq : isQ s p
    · rfl
    · have : chQ s p ≠ c := fun h => h4 ⟨hq, h⟩
      simpa using this
theorem cut_one (s : ByteArray) (f : Nat) (h : f < s.size) : cutB s f (f + 1) = [Nat.toUInt8 (byt s f)] := by
  have hl := size_list s
  unfold cutB
  rw [show f + 1 - f = 1 by omega, List.take_one, byt_list]
  have hf : f < s.data.toList.length := by omega
  rw [List.head?_drop, List.getElem?_eq_getElem hf]
  simp
theorem cut_two (s : ByteArray) (f : Nat) (h : f + 1 < s.size) : cutB s f (f + 2) = [Nat.toUInt8 (byt s f), Nat.toUInt8 (byt s (f + 1))] := by
  have hl := size_list s
  have hf : f < s.data.toList.length := by omega
  have hf1 : f + 1 < s.data.toList.length := by omega
  unfold cutB
  rw [show f + 2 - f = 2 by omega, byt_list, byt_list, List.drop_eq_getElem_cons hf, List.drop_eq_getElem_cons hf1, List.getElem?_eq_getElem hf, List.getElem?_eq_getElem hf1]
  simp
/-- What stands for a part: the three ways of the reference. -/
theorem piece_A {s : ByteArray} {p : Pt} (h : RFacts s p) {Q O : Nat} (hQ : (Q = 39 ∧ O = 34) ∨ (Q = 34 ∧ O = 39)) (hc : chP s p.fr = (O : Int)) : pieceQ s Q p = [Nat.toUInt8 O] := by
  have h1 : p.to ≠ p.fr + 1 := fun h1 => by have := (h.one h1).2.2.1; omega
  obtain ⟨h2, h3⟩ := (h.more h1 O (by omega)).2 hc
  unfold pieceQ
  rw [if_pos h2, if_neg (by omega), h3]
theorem piece_B {s : ByteArray} {p : Pt} (h : RFacts s p) {Q : Nat} (hQ : Q = 39 ∨ Q = 34) (hc : byt s p.fr = Q) : pieceQ s Q p = [92, Nat.toUInt8 Q] := by
  have h1 := h.lead Q hQ hc
  have h2 := hit_one h h1 Q hQ
  rw [hc] at h2
  simp at h2
  unfold pieceQ
  rw [if_pos h2.1, if_pos h2.2]
theorem piece_C {s : ByteArray} {p : Pt} (h : RFacts s p) (he : p.esc = (byt s p.fr == 92)) (ok : PtOk s p) {Q O : Nat} (hQ : (Q = 39 ∧ O = 34) ∨ (Q = 34 ∧ O = 39)) (hc : chP s p.fr ≠ (O : Int)) (hb : byt s p.fr ≠ Q) : pieceQ s Q p = cutB s p.fr p.to := by
  unfold pieceQ
  by_cases hq : isQ s p = true
  · rw [if_pos hq]
    have hch : chQ s p = 39 ∨ chQ s p = 34 := by
      have := hq
      unfold isQ at this
      simp only [Bool.and_eq_true, Bool.or_eq_true, beq_iff_eq] at this
      exact this.1.1
    have hhi := ok.hi
    have hlt := ok.lt
    by_cases h1 : p.to = p.fr + 1
    · obtain ⟨_, _, _, _, h5⟩ := h.one h1
      rw [if_neg (by omega), h1, cut_one s p.fr (by omega), h5]
    · have h3 := (h.more h1 (chQ s p) hch).1 ⟨hq, rfl⟩
      have h4 : chQ s p = Q := by omega
      have h5 : p.esc = true := by
        have := hq
        unfold isQ at this
        simp only [Bool.and_eq_true, Bool.or_eq_true, beq_iff_eq] at this
        rcases this.2 with h | h
        · exact h
        · exact absurd h h1
      have h6 : p.to = p.fr + 2 := by
        have := hq
        unfold isQ at this
        simp only [Bool.and_eq_true, decide_eq_true_eq] at this
        have := this.1.2
        omega
      have h7 : byt s p.fr = 92 := by rw [h5] at he; simpa using he.symm
      have h8 : byt s (p.fr + 1) = Q := by rw [← h4]; unfold chQ; rw [h6]; rfl
      rw [if_pos h4, h6, cut_two s p.fr (by omega), h7, h8]
      rfl
  · rw [if_neg hq]
end Go.Proofs.YtcjnlbelgmcpeaaDoor
