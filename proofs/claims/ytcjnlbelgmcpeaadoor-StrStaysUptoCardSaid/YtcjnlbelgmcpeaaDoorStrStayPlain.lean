/- A literal in other quotes stands for the same, and again it stays: plain. -/
import Derived.Test.YtcjnlbelgmcpeaaDoorStrJoinPlain
namespace Go.Proofs.YtcjnlbelgmcpeaaDoor
open Go
set_option linter.unusedVariables false
set_option linter.unusedSimpArgs false

/-- A text's bytes from a place, as a list. -/
theorem byt_drop {t : ByteArray} {j : Nat} {l : List UInt8} (h : t.data.toList.drop j = l) (k : Nat) : byt t (j + k) = (l[k]?.getD 0).toNat := by
  rw [byt_list, ← h, List.getElem?_drop]
theorem size_drop {t : ByteArray} {j : Nat} {l : List UInt8} (h : t.data.toList.drop j = l) (hl : 0 < l.length) : t.size = j + l.length := by
  have := size_list t
  have h2 : l.length = t.data.toList.length - j := by rw [← h, List.length_drop]
  omega
theorem drop_more {t : ByteArray} {j : Nat} {a b : List UInt8} (h : t.data.toList.drop j = a ++ b) : t.data.toList.drop (j + a.length) = b := by
  rw [← List.drop_drop, h, List.drop_left]
theorem cutB_getD (s : ByteArray) (a b k : Nat) (hk : k < b - a) : (((cutB s a b)[k]?).getD 0).toNat = byt s (a + k) := by
  unfold cutB
  rw [byt_list, List.getElem?_take_of_lt hk, List.getElem?_drop]
theorem toU8 (n : Nat) (h : n = 39 ∨ n = 34) : (Nat.toUInt8 n).toNat = n := by rcases h with rfl | rfl <;> rfl

/-- Two lists, one by one. -/
inductive All2 {α β : Type} (R : α → β → Prop) : List α → List β → Prop
  | nil : All2 R [] []
  | cons {a : α} {b : β} {xs : List α} {ys : List β} : R a b → All2 R xs ys → All2 R (a :: xs) (b :: ys)
/-- What is kept of a part. -/
structure Kept (s t : ByteArray) (Q : Nat) (p q : Pt) : Prop where
  val : q.val = p.val
  piece : pieceQ t Q q = pieceQ s Q p
  quote : isQ t q = isQ s p
  last : chQ t q = chQ s p
/-- The first byte of what comes. -/
theorem parF_cases {s : ByteArray} {f i : Nat} {ps : List Pt} (h : parF s f i = .ok ps) :
    (i + 1 = s.size ∧ byt s i = byt s 0 ∧ ps = []) ∨
    ∃ f' n qs, f = f' + 1 ∧ i < s.size ∧ byt s i ≠ byt s 0 ∧ pieceB s i = ⟨(pieceB s i).val, i + n, true⟩ ∧ 0 < n ∧ i + n < s.size ∧ parF s f' (i + n) = .ok qs ∧ ps = ⟨i, i + n, byt s i == 92, (pieceB s i).val⟩ :: qs := by
  cases f with
  | zero => cases h
  | succ f =>
    unfold parF at h
    by_cases hi : i < s.size
    · rw [if_pos hi] at h
      by_cases hb : byt s i = byt s 0
      · rw [if_pos hb] at h
        by_cases he : i + 1 = s.size
        · rw [if_pos he] at h
          cases h
          exact .inl ⟨he, hb, rfl⟩
        · rw [if_neg he] at h
          cases h
      · rw [if_neg hb] at h
        by_cases hf : (pieceB s i).fine = true
        · rw [if_pos hf] at h
          cases hr : parF s f (pieceB s i).to with
          | error x => rw [hr] at h; cases h
          | ok qs =>
            rw [hr] at h
            cases h
            have hto := pieceB_to s i hi
            have hto3 := hto.2.2 hf
            have hlast : (pieceB s i).to < s.size := by
              by_cases hx : (pieceB s i).to < s.size
              · exact hx
              · exfalso
                cases f with
                | zero => cases hr
                | succ f => unfold parF at hr; rw [if_neg hx] at hr; cases hr
            refine .inr ⟨f, (pieceB s i).to - i, qs, rfl, hi, hb, ?_, by omega, by omega, by rw [show i + ((pieceB s i).to - i) = (pieceB s i).to by omega]; exact hr, by rw [show i + ((pieceB s i).to - i) = (pieceB s i).to by omega]⟩
            rw [show i + ((pieceB s i).to - i) = (pieceB s i).to by omega]
            generalize pieceB s i = q at hf ⊢
            obtain ⟨a, b, c⟩ := q
            simp only at hf
            subst hf
            rfl
        · rw [if_neg hf] at h
          cases h
    · rw [if_neg hi] at h
      cases h
/-- A part that begins with a quote is that quote alone. -/
theorem piece_quote {s : ByteArray} {i c : Nat} (hi : i < s.size) (h : byt s i = c) (hc : c = 39 ∨ c = 34) : pieceB s i = ⟨(c : Int), i + 1, true⟩ := by
  have hd := decode_byte s i hi (by omega)
  have hl : lenB s i ≠ 0 := by rw [lenB_1 s i (by omega)]; decide
  have := pieceB_plain s i hl (by rw [hd]; simp only; omega) (by rw [hd]; simp only; omega) (by rw [hd]; simp only; omega)
  rw [this, hd, h]
/-- An escaped quote. -/
theorem piece_escquote {s : ByteArray} {i c : Nat} (hi : i + 1 < s.size) (h0 : byt s i = 92) (h : byt s (i + 1) = c) (hc : c = 39 ∨ c = 34) : pieceB s i = ⟨(c : Int), i + 2, true⟩ := by
  have hd := decode_byte s i (by omega) (by omega)
  have hl : lenB s i ≠ 0 := by rw [lenB_1 s i (by omega)]; decide
  rw [pieceB_esc s i hl (by rw [hd]; exact h0), (escB_of s i c hi h (by omega)).1]
  unfold escR
  rw [if_neg (by omega), if_neg (by omega), if_neg (by omega), if_neg (by omega), if_neg (by omega), if_neg (by omega), if_neg (by omega)]
  rcases hc with rfl | rfl
  · rw [if_neg (by decide)]
  · rw [if_neg (by decide)]
/-- A part that is a quote: its value, its bytes. -/
theorem isQ_part {s : ByteArray} {i n : Nat} (hi : i < s.size) (hb : i + n ≤ s.size) (hn : 0 < n) (hp : pieceB s i = ⟨(pieceB s i).val, i + n, true⟩) (h : isQ s ⟨i, i + n, byt s i == 92, (pieceB s i).val⟩ = true) :
    ∃ c, (c = 39 ∨ c = 34) ∧ chQ s ⟨i, i + n, byt s i == 92, (pieceB s i).val⟩ = c ∧ (pieceB s i).val = (c : Int) ∧ n ≤ 2 := by
  unfold isQ at h
  simp only [Bool.and_eq_true, Bool.or_eq_true, beq_iff_eq, decide_eq_true_eq] at h
  obtain ⟨⟨h1, h2⟩, h3⟩ := h
  refine ⟨_, h1, rfl, ?_, by omega⟩
  have hch : chQ s ⟨i, i + n, byt s i == 92, (pieceB s i).val⟩ = byt s (i + n - 1) := rfl
  rw [hch] at h1 ⊢
  rcases (by omega : n = 1 ∨ n = 2) with rfl | rfl
  · rw [show i + 1 - 1 = i by omega] at h1 ⊢
    rw [piece_quote hi rfl h1]
  · have h92 : byt s i = 92 := by
      rcases h3 with h3 | h3
      · exact h3
      · omega
    rw [show i + 2 - 1 = i + 1 by omega] at h1 ⊢
    rw [piece_escquote (by omega) h92 rfl h1]
theorem isQ_not {s : ByteArray} {i n : Nat} (hi : i < s.size) (hp : pieceB s i = ⟨(pieceB s i).val, i + n, true⟩) (h : isQ s ⟨i, i + n, byt s i == 92, (pieceB s i).val⟩ = false) : byt s i ≠ 39 ∧ byt s i ≠ 34 := by
  have key : ∀ c, (c = 39 ∨ c = 34) → byt s i ≠ c := by
    intro c hc e
    have e1 := piece_quote hi e hc
    rw [e1] at hp
    simp only [Got.mk.injEq, and_true] at hp
    have hn : n = 1 := by omega
    subst hn
    have : isQ s ⟨i, i + 1, byt s i == 92, (pieceB s i).val⟩ = true := by
      unfold isQ chQ
      simp only [Nat.add_sub_cancel]
      rw [e]
      rcases hc with rfl | rfl <;> simp
    rw [this] at h
    cases h
  exact ⟨key 39 (.inl rfl), key 34 (.inr rfl)⟩
/-- The first byte of parts in other quotes: the text's own, or a backslash, or a quote. -/
theorem head_of {s t : ByteArray} {Q f i j : Nat} {ps : List Pt} (hQ : Q = 39 ∨ Q = 34) (h : parF s f i = .ok ps) (ht : t.data.toList.drop j = bodyQ s Q ps ++ [Q.toUInt8]) :
    byt t j = byt s i ∨ byt t j = 92 ∨ byt t j = 39 ∨ byt t j = 34 := by
  have b0 := byt_drop ht 0
  rw [Nat.add_zero] at b0
  rcases parF_cases h with ⟨_, _, rfl⟩ | ⟨f', n, qs, rfl, hi, hb, hp, hn, hlast, hr, rfl⟩
  · simp only [bodyQ, List.flatMap_nil, List.nil_append, List.getElem?_cons_zero, Option.getD_some] at b0
    rw [toU8 Q hQ] at b0
    omega
  · simp only [bodyQ, List.flatMap_cons] at b0
    cases hq : isQ s ⟨i, i + n, byt s i == 92, (pieceB s i).val⟩
    · have : pieceQ s Q ⟨i, i + n, byt s i == 92, (pieceB s i).val⟩ = cutB s i (i + n) := by unfold pieceQ; rw [hq]; rfl
      rw [this] at b0
      have hl := cutB_len s i (i + n) (by omega)
      rw [List.append_assoc, List.getElem?_append_left (by omega), cutB_getD s i (i + n) 0 (by omega)] at b0
      exact .inl b0
    · obtain ⟨c, hc, hch, _, _⟩ := isQ_part hi (by omega) hn hp hq
      unfold pieceQ at b0
      rw [hq, hch, if_pos rfl] at b0
      by_cases hcq : c = Q
      · rw [if_pos hcq] at b0
        right; left
        simpa using b0
      · rw [if_neg hcq] at b0
        simp only [List.cons_append, List.getElem?_cons_zero, Option.getD_some] at b0
        rw [toU8 c hc] at b0
        omega
theorem stay_F {s t : ByteArray} {Q : Nat} (hQ : Q = 39 ∨ Q = 34) (h0 : byt t 0 = Q) : ∀ (f i j : Nat) (ps : List Pt), parF s f i = .ok ps → t.data.toList.drop j = bodyQ s Q ps ++ [Q.toUInt8] →
    ∃ qs, parRest t j = .ok qs ∧ All2 (Kept s t Q) ps qs
  | f, i, j, ps, h, ht => by
    have hz := size_drop ht (by simp)
    rcases parF_cases h with ⟨_, _, rfl⟩ | ⟨f', n, qs, rfl, hi, hb, hp, hn, hlast, hr, rfl⟩
    · refine ⟨[], ?_, .nil⟩
      have b0 := byt_drop ht 0
      simp only [bodyQ, List.flatMap_nil, List.nil_append, List.getElem?_cons_zero, Option.getD_some, Nat.add_zero] at b0
      simp only [bodyQ, List.flatMap_nil, List.nil_append, List.length_cons, List.length_nil] at hz
      rw [parRest_quote t j (by omega) (by rw [b0, h0, toU8 Q hQ]), if_pos (by omega)]
    · have hbd : bodyQ s Q (⟨i, i + n, byt s i == 92, (pieceB s i).val⟩ :: qs) = pieceQ s Q ⟨i, i + n, byt s i == 92, (pieceB s i).val⟩ ++ bodyQ s Q qs := by simp [bodyQ]
      rw [hbd, List.append_assoc] at ht
      rw [hbd, List.append_assoc, List.length_append] at hz
      have ht2 := drop_more ht
      have bk := byt_drop ht
      have ih := fun j' (e : j + (pieceQ s Q ⟨i, i + n, byt s i == 92, (pieceB s i).val⟩).length = j') => stay_F (s := s) (t := t) hQ h0 f' (i + n) j' qs hr (by subst e; exact ht2)
      have hd := fun j' (e : j + (pieceQ s Q ⟨i, i + n, byt s i == 92, (pieceB s i).val⟩).length = j') => head_of (s := s) (t := t) (j := j') hQ hr (by subst e; exact ht2)
      have hne : 0 < (bodyQ s Q qs ++ [Q.toUInt8]).length := by simp
      -- the end of each way
      have fin : ∀ (m : Nat), (pieceQ s Q ⟨i, i + n, byt s i == 92, (pieceB s i).val⟩).length = m → 0 < m → byt t j ≠ Q → pieceB t j = ⟨(pieceB s i).val, j + m, true⟩ →
          Kept s t Q ⟨i, i + n, byt s i == 92, (pieceB s i).val⟩ ⟨j, j + m, byt t j == 92, (pieceB s i).val⟩ →
          ∃ rs, parRest t j = .ok rs ∧ All2 (Kept s t Q) (⟨i, i + n, byt s i == 92, (pieceB s i).val⟩ :: qs) rs := by
        intro m hm hm0 hb0 hpt hk
        obtain ⟨rs, hrs, hf⟩ := ih (j + m) (by rw [hm])
        have hst := parRest_step t j (by omega) (by rw [h0]; exact hb0) (by rw [hpt])
        rw [hpt] at hst
        simp only at hst
        exact ⟨_, by rw [hst, hrs]; rfl, .cons hk hf⟩
      cases hq : isQ s ⟨i, i + n, byt s i == 92, (pieceB s i).val⟩
      · have hpc : pieceQ s Q ⟨i, i + n, byt s i == 92, (pieceB s i).val⟩ = cutB s i (i + n) := by unfold pieceQ; rw [hq]; rfl
        have hl := cutB_len s i (i + n) (by omega)
        rw [show i + n - i = n by omega] at hl
        rw [hpc] at ht ht2 bk ih hd fin hz
        have ag : ∀ k, k < n → byt t (j + k) = byt s (i + k) := by
          intro k hk
          rw [bk k, List.getElem?_append_left (by omega), cutB_getD s i (i + n) k (by omega)]
        have a0 := ag 0 hn
        rw [Nat.add_zero, Nat.add_zero] at a0
        have hnq := isQ_not hi hp hq
        have hhd := hd (j + n) (by rw [hl])
        have hpt := pieceB_local (s := s) (t := t) (i := i) (j := j) (n := n) hp hi (by omega) ag ?_ ?_
        · refine fin n hl hn (by rw [a0]; omega) hpt ?_
          have hch : chQ t ⟨j, j + n, byt t j == 92, (pieceB s i).val⟩ = chQ s ⟨i, i + n, byt s i == 92, (pieceB s i).val⟩ := by
            unfold chQ
            simp only
            have := ag (n - 1) (by omega)
            rw [show j + n - 1 = j + (n - 1) by omega, show i + n - 1 = i + (n - 1) by omega]
            exact this
          have hqq : isQ t ⟨j, j + n, byt t j == 92, (pieceB s i).val⟩ = isQ s ⟨i, i + n, byt s i == 92, (pieceB s i).val⟩ := by
            have e1 : decide (j + n ≤ j + 2) = decide (i + n ≤ i + 2) := by
              rw [decide_eq_decide]; omega
            have e2 : (j + n == j + 1) = (i + n == i + 1) := by
              rw [Bool.eq_iff_iff, beq_iff_eq, beq_iff_eq]; omega
            unfold isQ
            rw [hch]
            simp only [e1, e2, a0]
          refine ⟨rfl, ?_, hqq, hch⟩
          have e3 : pieceQ t Q ⟨j, j + n, byt t j == 92, (pieceB s i).val⟩ = cutB t j (j + n) := by unfold pieceQ; rw [hqq, hq]; rfl
          rw [e3, hpc]
          conv => lhs; unfold cutB
          rw [ht, show j + n - j = (cutB s i (i + n)).length by omega, List.take_left]
        · intro h92 h48
          have e1 : pieceB s i = escB s i := pieceB_esc s i (by rw [lenB_1 s i (by omega)]; decide) (by rw [decode_byte s i hi (by omega)]; exact h92)
          have hz2 := escB_zero (n := n) (by rw [← e1]; exact hp) (by have := (escB_two s i (by rw [← e1, hp])); rw [← e1, hp] at this; simp only at this; omega) h48
          obtain ⟨hz3, rfl⟩ := hz2
          cases hx : isDig t (j + 2)
          · rfl
          · exfalso
            have hy := (isDig_iff _ _).1 hx
            rcases hhd with e | e | e | e
            · have := (isDig_iff s (i + 2)).2 ⟨by omega, by omega, by omega⟩
              rw [hz3] at this
              cases this
            · omega
            · omega
            · omega
        · intro h92 h13 hn2
          subst hn2
          have e1 : pieceB s i = escB s i := pieceB_esc s i (by rw [lenB_1 s i (by omega)]; decide) (by rw [decode_byte s i hi (by omega)]; exact h92)
          have hz3 := escB_cr (by rw [← e1]; exact hp) (by omega) h13
          cases hx : isByte t (j + 2) 10
          · rfl
          · exfalso
            have hy := (isByte_iff _ _ _).1 hx
            rcases hhd with e | e | e | e
            · have := (isByte_iff s (i + 2) 10).2 ⟨by omega, by omega⟩
              rw [hz3] at this
              cases this
            · omega
            · omega
            · omega
      · obtain ⟨c, hc, hch, hv, hn2⟩ := isQ_part hi (by omega) hn hp hq
        rw [hv] at fin ⊢
        rw [hv] at hch hq ht bk hz
        by_cases hcq : c = Q
        · subst hcq
          have hpc : pieceQ s c ⟨i, i + n, byt s i == 92, (c : Int)⟩ = [92, c.toUInt8] := by unfold pieceQ; rw [hq, hch, if_pos rfl, if_pos rfl]
          rw [hpc] at bk hz
          simp only [List.length_cons, List.length_nil] at hz
          have b0 : byt t j = 92 := by have := bk 0; simpa using this
          have b1 : byt t (j + 1) = c := by
            have := bk 1
            simp only [List.cons_append, List.getElem?_cons_succ, List.getElem?_cons_zero, Option.getD_some] at this
            rw [this, toU8 c hc]
          have hpt := piece_escquote (by omega) b0 b1 hc
          refine fin 2 (by rw [hpc]; rfl) (by omega) (by omega) hpt ?_
          have hch2 : chQ t ⟨j, j + 2, byt t j == 92, (c : Int)⟩ = c := by
            unfold chQ
            simp only
            rw [show j + 2 - 1 = j + 1 by omega, b1]
          have hq2 : isQ t ⟨j, j + 2, byt t j == 92, (c : Int)⟩ = true := by
            unfold isQ
            rw [hch2]
            rcases hc with rfl | rfl <;> simp [b0]
          refine ⟨rfl, ?_, by rw [hq2, hq], by rw [hch2, hch]⟩
          rw [hpc]
          unfold pieceQ
          rw [hq2, hch2, if_pos rfl, if_pos rfl]
        · have hpc : pieceQ s Q ⟨i, i + n, byt s i == 92, (c : Int)⟩ = [c.toUInt8] := by unfold pieceQ; rw [hq, hch, if_pos rfl, if_neg hcq]
          rw [hpc] at bk hz
          simp only [List.length_cons, List.length_nil] at hz
          have b0 : byt t j = c := by
            have := bk 0
            simp only [List.cons_append, List.getElem?_cons_zero, Option.getD_some, Nat.add_zero] at this
            rw [this, toU8 c hc]
          have hpt := piece_quote (i := j) (by omega) b0 hc
          refine fin 1 (by rw [hpc]; rfl) (by omega) (by omega) hpt ?_
          have hch2 : chQ t ⟨j, j + 1, byt t j == 92, (c : Int)⟩ = c := by
            unfold chQ
            simp only
            rw [show j + 1 - 1 = j by omega, b0]
          have hq2 : isQ t ⟨j, j + 1, byt t j == 92, (c : Int)⟩ = true := by
            unfold isQ
            rw [hch2]
            rcases hc with rfl | rfl <;> simp
          refine ⟨rfl, ?_, by rw [hq2, hq], by rw [hch2, hch]⟩
          rw [hpc]
          unfold pieceQ
          rw [hq2, hch2, if_pos rfl, if_neg hcq]

theorem kept_flat {s t : ByteArray} {Q : Nat} {ps qs : List Pt} (h : All2 (Kept s t Q) ps qs) : flatU qs = flatU ps ∧ bodyQ t Q qs = bodyQ s Q ps ∧ ∀ c, cntQ t c qs = cntQ s c ps := by
  induction h with
  | nil => exact ⟨rfl, rfl, fun _ => rfl⟩
  | @cons p q ps qs hk hf ih =>
    refine ⟨?_, ?_, fun c => ?_⟩
    · simp only [flatU, List.flatMap_cons] at ih ⊢
      rw [ih.1, hk.val]
    · simp only [bodyQ, List.flatMap_cons] at ih ⊢
      rw [ih.2.1, hk.piece]
    · have := ih.2.2 c
      unfold cntQ at this ⊢
      simp only [List.filter_cons, hk.quote, hk.last]
      split
      · simp only [List.length_cons]; omega
      · exact this
theorem body_len {s : ByteArray} {Q : Nat} : ∀ (f i : Nat) (ps : List Pt), parF s f i = .ok ps → (bodyQ s Q ps).length + 2 * i + 2 ≤ 2 * s.size
  | f, i, ps, h => by
    rcases parF_cases h with ⟨_, _, rfl⟩ | ⟨f', n, qs, rfl, hi, hb, hp, hn, hlast, hr, rfl⟩
    · simp only [bodyQ, List.flatMap_nil, List.length_nil]
      omega
    · have ih := body_len (Q := Q) f' (i + n) qs hr
      have : (pieceQ s Q ⟨i, i + n, byt s i == 92, (pieceB s i).val⟩).length ≤ 2 * n := by
        unfold pieceQ
        split
        · split
          · simp only [List.length_cons, List.length_nil]; omega
          · simp only [List.length_cons, List.length_nil]; omega
        · rw [cutB_len s _ _ (by simp only; omega)]
          simp only
          omega
      simp only [bodyQ, List.flatMap_cons, List.length_append] at ih ⊢
      omega
/-- A LITERAL IN OTHER QUOTES: it stands for the same, and again it stays. -/
theorem quote_stays {s : ByteArray} {ps : List Pt} {single : Bool} (h : partsB s = .ok ps) (t : ByteArray) (e : t = ⟨(quoteB s ps single).toArray⟩) :
    ∃ qs, partsB t = .ok qs ∧ flatU qs = flatU ps ∧ quoteB t qs single = quoteB s ps single ∧ 2 ≤ t.size ∧ t.size ≤ 2 * s.size ∧ byt t 0 = byt t (t.size - 1) := by
  have hs := partsB_start h
  unfold partsB at h
  rw [if_neg (by omega)] at h
  unfold parRest at h
  have hQ := pickQ_two s ps single
  have hl : t.data.toList = Nat.toUInt8 (pickQ s ps single) :: (bodyQ s (pickQ s ps single) ps ++ [Nat.toUInt8 (pickQ s ps single)]) := by rw [e]; rfl
  have hz : t.size = (bodyQ s (pickQ s ps single) ps).length + 2 := by rw [size_list, hl]; simp
  have h0 : byt t 0 = pickQ s ps single := by rw [byt_list, hl]; simp only [List.getElem?_cons_zero, Option.getD_some]; exact toU8 _ hQ
  have hend : byt t (t.size - 1) = pickQ s ps single := by
    rw [byt_list, hl, hz, show (bodyQ s (pickQ s ps single) ps).length + 2 - 1 = (bodyQ s (pickQ s ps single) ps).length + 1 by omega, List.getElem?_cons_succ, List.getElem?_append_right (by omega), Nat.sub_self]
    exact toU8 _ hQ
  obtain ⟨qs, hq, hf⟩ := stay_F (j := 1) hQ h0 _ 1 ps h (by rw [hl]; rfl)
  obtain ⟨f1, f2, f3⟩ := kept_flat hf
  have hbl := body_len (Q := pickQ s ps single) _ 1 ps h
  refine ⟨qs, ?_, f1, ?_, by omega, by omega, by rw [h0, hend]⟩
  · unfold partsB
    rw [if_neg (by omega)]
    exact hq
  · have hpk : pickQ t qs single = pickQ s ps single := by unfold pickQ; rw [f3, f3]
    unfold quoteB
    rw [hpk, f2]
end Go.Proofs.YtcjnlbelgmcpeaaDoor
