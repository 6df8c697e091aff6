/- LayoutLines in plain words: how long the text is; what stands about a line's end. -/
import Derived.Test.YthljgiimdcbfpaaDoorLPLines2
namespace Go.Proofs.YthljgiimdcbfpaaDoor
open Go.RowKit
set_option maxRecDepth 100000
set_option linter.unusedVariables false
set_option linter.unusedSimpArgs false

theorem line_len {o : Opt} {m m1 : Mach} {c : Cmd} (hm : m.out.length ≤ 67108864) (h : lineM o m c = some m1) : m1.out.length ≤ 67108864 := by
  unfold lineM at h
  split at h
  · injection h with h
    subst h
    exact hm
  · split at h
    · obtain ⟨m2, h1, h2⟩ := Option.map_eq_some_iff.1 h
      obtain ⟨rfl, hl⟩ := put_meas h1
      subst h2
      show (m.out ++ o.nl).length ≤ _
      rw [List.length_append]
      exact hl
    · obtain ⟨m2, h1, h2⟩ := Option.bind_eq_some_iff.1 h
      obtain ⟨m3, h3, h4⟩ := Option.map_eq_some_iff.1 h2
      obtain ⟨rfl, hl⟩ := put_meas h1
      obtain ⟨rfl, hl2⟩ := ind_meas _ _ _ _ h3
      subst h4
      have e1 : (trimR m.out).length + o.nl.length ≤ 67108864 := hl
      have e2 : ((trimR m.out ++ o.nl) ++ indB o c.ind).length ≤ max (trimR m.out ++ o.nl).length 67108864 := hl2
      show ((trimR m.out ++ o.nl) ++ indB o c.ind).length ≤ _
      simp only [List.length_append] at e2 ⊢
      omega
theorem fill_out (o : Opt) (m : Mach) (i : Ind) : ∀ (ks : List Doc), (fillM o m i ks).out = m.out
  | [] => rfl
  | [_] => rfl
  | _ :: _ :: _ => rfl
theorem doM_len {o : Opt} {m m1 : Mach} {c : Cmd} (hm : m.out.length ≤ 67108864) (h : doM o m c = some m1) : m1.out.length ≤ 67108864 := by
  have same : ∀ {x : Mach}, some x = some m1 → x.out = m.out → m1.out.length ≤ 67108864 := by
    intro x e h1
    injection e with e
    subst e
    rw [h1]
    exact hm
  rw [doM_eq] at h
  by_cases k1 : c.d.kind = 1
  · rw [if_pos k1] at h
    obtain ⟨m2, h1, h2⟩ := Option.map_eq_some_iff.1 h
    subst h2
    obtain ⟨rfl, hl⟩ := put_meas h1
    show (m.out ++ _).length ≤ _
    rw [List.length_append]
    exact hl
  rw [if_neg k1] at h
  by_cases k2 : c.d.kind = 2
  · rw [if_pos k2] at h
    exact same h rfl
  rw [if_neg k2] at h
  by_cases k11 : c.d.kind = 11
  · rw [if_pos k11] at h
    exact same h rfl
  rw [if_neg k11] at h
  by_cases k13 : c.d.kind = 13
  · rw [if_pos k13] at h
    exact same h rfl
  rw [if_neg k13] at h
  by_cases k12 : c.d.kind = 12
  · rw [if_pos k12] at h
    exact same h rfl
  rw [if_neg k12] at h
  by_cases k7 : c.d.kind = 7
  · rw [if_pos k7] at h
    exact same h rfl
  rw [if_neg k7] at h
  by_cases k8 : c.d.kind = 8
  · rw [if_pos k8] at h
    refine same h ?_
    split
    · rfl
    · obtain ⟨fl, ds, e, _⟩ := cond_push o m c.ind c.d.brk c.d.kids
      rw [e]
      rfl
  rw [if_neg k8] at h
  by_cases k9 : c.d.kind = 9
  · rw [if_pos k9] at h
    refine same h ?_
    split
    · rfl
    · exact fill_out o m c.ind _
  rw [if_neg k9] at h
  by_cases k10 : c.d.kind = 10
  · rw [if_pos k10] at h
    exact same h rfl
  rw [if_neg k10] at h
  by_cases k14 : c.d.kind = 14
  · rw [if_pos k14] at h
    exact same h rfl
  rw [if_neg k14] at h
  by_cases k15 : c.d.kind = 15
  · rw [if_pos k15] at h
    split at h
    · exact line_len hm h
    · exact same h rfl
  rw [if_neg k15] at h
  by_cases k3 : c.d.kind = 3 ∨ c.d.kind = 4
  · rw [if_pos k3] at h
    split at h
    · split at h
      · obtain ⟨m2, h1, h2⟩ := Option.map_eq_some_iff.1 h
        subst h2
        obtain ⟨rfl, hl⟩ := put_meas h1
        show (m.out ++ _).length ≤ _
        rw [List.length_append]
        exact hl
      · exact same h rfl
    · exact line_len hm h
  rw [if_neg k3] at h
  by_cases k5 : c.d.kind = 5 ∨ c.d.kind = 6
  · rw [if_pos k5] at h
    exact line_len hm h
  rw [if_neg k5] at h
  exact same h rfl
theorem runM_len (o : Opt) : ∀ (f : Nat) (m : Mach) (l : Ln), m.out.length ≤ 67108864 → runM o f m = some l → l.length ≤ 67108864
  | 0, m, l, hm, h => by cases h
  | f + 1, m, l, hm, h => by
    unfold runM at h
    cases hs : m.stk with
    | nil =>
      rw [hs] at h
      simp only at h
      split at h
      · injection h with h
        subst h
        exact hm
      · exact runM_len o f (flushM m) l hm h
    | cons c cs =>
      rw [hs] at h
      obtain ⟨m1, h1, h2⟩ := Option.bind_eq_some_iff.1 h
      exact runM_len o f m1 l (doM_len (m := { m with stk := cs }) hm h1) h2
theorem lay_len (d : Doc) (o : Opt) : (layN d o).1.length ≤ 67108864 := by
  unfold layN
  split
  · exact Nat.zero_le _
  · split
    · exact Nat.zero_le _
    · split
      · exact Nat.zero_le _
      · next s hs => exact runM_len o _ _ _ (Nat.zero_le _) hs
/-! ### What stands about a line's end -/
structure LnAt (cr : Bool) (l : Ln) : Prop where
  ret : ∀ i : Nat, l[i]? = some 13 → cr = true ∧ l[i + 1]? = some 10
  feed : ∀ i : Nat, l[i]? = some 10 → cr = false → ∀ a, 1 ≤ i → l[i - 1]? = some a → blank8 a = false
  both : ∀ i : Nat, l[i]? = some 10 → cr = true → 1 ≤ i ∧ l[i - 1]? = some 13 ∧ ∀ a, 2 ≤ i → l[i - 2]? = some a → blank8 a = false
theorem LnAt.plain {cr : Bool} {z : Ln} (h : noEnd z) : LnAt cr z :=
  ⟨fun i e => absurd rfl (h 13 (List.mem_of_getElem? e)).2, fun i e => absurd rfl (h 10 (List.mem_of_getElem? e)).1, fun i e => absurd rfl (h 10 (List.mem_of_getElem? e)).1⟩
theorem trim_last {x : Ln} (h : trimR x = x) (a : UInt8) (ha : x[x.length - 1]? = some a) : blank8 a = false := by
  have h0 : x ≠ [] := by rintro rfl; cases ha
  have e : x = x.dropLast ++ [a] := by
    have h1 := List.dropLast_concat_getLast h0
    have h2 : x.getLast h0 = a := by
      rw [List.getLast_eq_getElem]
      rw [List.getElem?_eq_some_iff] at ha
      exact ha.2
    rw [h2] at h1
    exact h1.symm
  cases hb : blank8 a with
  | false => rfl
  | true =>
    exfalso
    have h1 : trimR x = trimR x.dropLast := by
      rw [e]
      unfold trimR
      rw [List.reverse_append]
      show (List.dropWhile blank8 (a :: x.dropLast.reverse)).reverse = _
      rw [List.dropWhile_cons_of_pos hb]
      simp
    have h2 := trimR_len x.dropLast
    rw [← h1, h, List.length_dropLast] at h2
    have : 0 < x.length := List.length_pos_iff.2 h0
    omega
theorem LnAt.line {cr : Bool} {x r : Ln} (h1 : noEnd x) (h2 : trimR x = x) (h : LnAt cr r) : LnAt cr (x ++ ((if cr then [13, 10] else [10]) ++ r)) := by
  have hx13 : ∀ i : Nat, i < x.length → x[i]? ≠ some 13 := fun i hi e => absurd rfl (h1 13 (List.mem_of_getElem? e)).2
  have hx10 : ∀ i : Nat, i < x.length → x[i]? ≠ some 10 := fun i hi e => absurd rfl (h1 10 (List.mem_of_getElem? e)).1
  have hb := trim_last h2
  have hL : ∀ (i : Nat) (y : Ln), i < x.length → (x ++ y)[i]? = x[i]? := fun i y hi => List.getElem?_append_left hi
  have hR : ∀ (i : Nat) (y : Ln), (x ++ y)[x.length + i]? = y[i]? := fun i y => by rw [List.getElem?_append_right (by omega)]; congr 1; omega
  cases cr with
  | false =>
    refine ⟨fun i e => ?_, fun i e _ a hi ha => ?_, fun i e hc => by cases hc⟩
    · exfalso
      by_cases hlt : i < x.length
      · rw [hL i _ hlt] at e
        exact hx13 i hlt e
      · obtain ⟨j, rfl⟩ : ∃ j, i = x.length + j := ⟨i - x.length, by omega⟩
        rw [hR] at e
        match j with
        | 0 => cases e
        | j + 1 => exact absurd (h.ret j e).1 (by decide)
    · by_cases hlt : i < x.length
      · rw [hL i _ hlt] at e
        exact absurd e (hx10 i hlt)
      · obtain ⟨j, rfl⟩ : ∃ j, i = x.length + j := ⟨i - x.length, by omega⟩
        rw [hR] at e
        match j with
        | 0 =>
          rw [hL _ _ (by omega)] at ha
          exact hb a ha
        | 1 =>
          rw [show x.length + 1 - 1 = x.length + 0 by omega, hR] at ha
          injection ha with ha
          subst ha
          decide
        | j + 2 =>
          rw [show x.length + (j + 2) - 1 = x.length + (j + 1) by omega, hR] at ha
          exact h.feed (j + 1) e rfl a (by omega) ha
  | true =>
    refine ⟨fun i e => ⟨rfl, ?_⟩, fun i e hc => by (cases hc), fun i e _ => ?_⟩
    · by_cases hlt : i < x.length
      · rw [hL i _ hlt] at e
        exact absurd e (hx13 i hlt)
      · obtain ⟨j, rfl⟩ : ∃ j, i = x.length + j := ⟨i - x.length, by omega⟩
        rw [hR] at e
        rw [show x.length + j + 1 = x.length + (j + 1) by omega, hR]
        match j with
        | 0 => rfl
        | 1 => cases e
        | j + 2 => exact (h.ret j e).2
    · by_cases hlt : i < x.length
      · rw [hL i _ hlt] at e
        exact absurd e (hx10 i hlt)
      · obtain ⟨j, rfl⟩ : ∃ j, i = x.length + j := ⟨i - x.length, by omega⟩
        rw [hR] at e
        match j with
        | 0 => cases e
        | 1 =>
          refine ⟨by omega, ?_, fun a hi ha => ?_⟩
          · rw [show x.length + 1 - 1 = x.length + 0 by omega, hR]
            rfl
          · rw [show x.length + 1 - 2 = x.length - 1 by omega, hL _ _ (by omega)] at ha
            exact hb a ha
        | j + 2 =>
          obtain ⟨g1, g2, g3⟩ := h.both j e rfl
          obtain ⟨j, rfl⟩ : ∃ y, j = y + 1 := ⟨j - 1, by omega⟩
          refine ⟨by omega, ?_, fun a hi ha => ?_⟩
          · rw [show x.length + (j + 1 + 2) - 1 = x.length + (j + 2) by omega, hR]
            exact g2
          · rw [show x.length + (j + 1 + 2) - 2 = x.length + (j + 1) by omega, hR] at ha
            match j with
            | 0 =>
              injection ha with ha
              subst ha
              decide
            | j + 1 => exact g3 a (by omega) ha
theorem lines_at {o : Opt} {l : Ln} (h : LinesOk o.nl l) : LnAt o.crlf l := by
  obtain ⟨L, z, rfl, h1, h2⟩ := h
  induction L with
  | nil => exact LnAt.plain h2
  | cons x L ih =>
    have e : ((x :: L).map (· ++ o.nl)).flatten ++ z = x ++ ((if o.crlf then [13, 10] else [10]) ++ ((L.map (· ++ o.nl)).flatten ++ z)) := by
      show ((x ++ o.nl) ++ (L.map (· ++ o.nl)).flatten) ++ z = _
      rw [List.append_assoc, List.append_assoc]
      rfl
    rw [e]
    exact LnAt.line (h1 x (by simp)).1 (h1 x (by simp)).2 (ih (fun y hy => h1 y (by simp [hy])))
theorem lay_at (d : Doc) (o : Opt) (hl : d.literal = false) : LnAt o.crlf (layN d o).1 := lines_at (lay_lines d o hl)
end Go.Proofs.YthljgiimdcbfpaaDoor
