/- Literals built of chosen parts: their units, their quotes: plain. -/
import Derived.Test.YtcjnlbelgmcpeaaDoorStrStayPlain
namespace Go.Proofs.YtcjnlbelgmcpeaaDoor
open Go
set_option linter.unusedVariables false
set_option linter.unusedSimpArgs false

/-- The text of a choice, its units (twelve choices). -/
def escLit (k : Nat) : List UInt8 :=
  if k = 0 then [97] else if k = 1 then [92, 110] else if k = 2 then [92, 120, 55, 102] else if k = 3 then [92, 117, 48, 48, 69, 57]
  else if k = 4 then [92, 117, 123, 49, 70, 54, 48, 48, 125] else if k = 5 then [240, 159, 152, 128] else if k = 6 then [92, 10] else if k = 7 then [92, 39]
  else if k = 8 then [92, 34] else if k = 9 then [92, 113] else if k = 10 then [92, 48, 122] else [226, 128, 168]
def escUnits (k : Nat) : List Int :=
  if k = 0 then [97] else if k = 1 then [10] else if k = 2 then [127] else if k = 3 then [233] else if k = 4 then [55357, 56832] else if k = 5 then [55357, 56832]
  else if k = 6 then [] else if k = 7 then [39] else if k = 8 then [34] else if k = 9 then [113] else if k = 10 then [0, 122] else [8232]
def okLit (q : UInt8) (l : List UInt8) (us : List Int) : Bool := match partsB (wrapQ q ⟨l.toArray⟩) with | .ok ps => flatU ps == us | .error _ => false
theorem okLit_of {q : UInt8} {l : List UInt8} {us : List Int} (h : okLit q l us = true) : ∃ ps, partsB (wrapQ q ⟨l.toArray⟩) = .ok ps ∧ flatU ps = us := by
  unfold okLit at h
  cases hp : partsB (wrapQ q ⟨l.toArray⟩) with
  | error e => rw [hp] at h; cases h
  | ok ps => rw [hp] at h; exact ⟨ps, rfl, by simpa using h⟩
theorem escLit_ok39 : ((List.range 12).all fun k => okLit 39 (escLit k) (escUnits k)) = true := by decide +kernel
theorem escLit_ok34 : ((List.range 12).all fun k => okLit 34 (escLit k) (escUnits k)) = true := by decide +kernel
theorem escLit_ok (q : UInt8) (hq : q = 39 ∨ q = 34) (k : Nat) (hk : k < 12) : ∃ ps, partsB (wrapQ q ⟨(escLit k).toArray⟩) = .ok ps ∧ flatU ps = escUnits k := by
  refine okLit_of ?_
  rcases hq with rfl | rfl
  · exact List.all_eq_true.1 escLit_ok39 k (List.mem_range.2 hk)
  · exact List.all_eq_true.1 escLit_ok34 k (List.mem_range.2 hk)
theorem escLit_first (k : Nat) (hk : k < 12) : ¬ (48 ≤ byt ⟨(escLit k).toArray⟩ 0 ∧ byt ⟨(escLit k).toArray⟩ 0 ≤ 57) ∧ byt ⟨(escLit k).toArray⟩ 0 ≠ 10 := by
  have h : ∀ k : Fin 12, ¬ (48 ≤ byt ⟨(escLit k).toArray⟩ 0 ∧ byt ⟨(escLit k).toArray⟩ 0 ≤ 57) ∧ byt ⟨(escLit k).toArray⟩ 0 ≠ 10 := by decide +kernel
  exact h ⟨k, hk⟩
/-- The text, the units of a list of choices. -/
def escS (l : List Nat) : ByteArray := l.foldl (fun a k => a ++ ⟨(escLit k).toArray⟩) ⟨#[]⟩
def escW (l : List Nat) : List Int := l.flatMap escUnits
theorem escS_snoc (l : List Nat) (k : Nat) : escS (l ++ [k]) = escS l ++ ⟨(escLit k).toArray⟩ := by simp [escS, List.foldl_append]
theorem escW_snoc (l : List Nat) (k : Nat) : escW (l ++ [k]) = escW l ++ escUnits k := by simp [escW]
theorem escLit_len (k : Nat) : (escLit k).length ≤ 9 := by unfold escLit; repeat' split
                                                           all_goals decide
theorem escUnits_len (k : Nat) : (escUnits k).length ≤ 2 := by unfold escUnits; repeat' split
                                                               all_goals decide
theorem escW_len (l : List Nat) : (escW l).length ≤ 2 * l.length := by
  induction l with
  | nil => simp [escW]
  | cons k l ih =>
    have := escUnits_len k
    simp only [escW, List.flatMap_cons, List.length_append, List.length_cons] at ih ⊢
    omega
theorem esc_fold (q : UInt8) (hq : q = 39 ∨ q = 34) : ∀ (l : List Nat) (a : ByteArray) (us : List Int), (∀ k ∈ l, k < 12) → (∃ ps, partsB (wrapQ q a) = .ok ps ∧ flatU ps = us) →
    (∃ ps, partsB (wrapQ q (l.foldl (fun a k => a ++ ⟨(escLit k).toArray⟩) a)) = .ok ps ∧ flatU ps = us ++ l.flatMap escUnits) ∧ (l.foldl (fun a k => a ++ ⟨(escLit k).toArray⟩) a).size ≤ a.size + 9 * l.length
  | [], a, us, _, h => by simpa using h
  | k :: l, a, us, hl, ⟨ps, h1, h2⟩ => by
    have hk := hl k (by simp)
    obtain ⟨qs, h3, h4⟩ := escLit_ok q hq k hk
    have hf := escLit_first k hk
    have hj := parts_join (q := q) (by rcases hq with rfl | rfl <;> decide) h1 h3 (fun _ => hf.1) (fun _ _ _ => hf.2)
    obtain ⟨g1, g2⟩ := esc_fold q hq l (a ++ ⟨(escLit k).toArray⟩) (us ++ escUnits k) (fun x hx => hl x (by simp [hx])) ⟨_, hj, by rw [flatU_app, flatU_move, h2, h4]⟩
    refine ⟨?_, ?_⟩
    · simpa [List.append_assoc] using g1
    · have := escLit_len k
      have e : (a ++ ⟨(escLit k).toArray⟩ : ByteArray).size = a.size + (escLit k).length := by
        rw [sapp_size, size_list ⟨(escLit k).toArray⟩]
      rw [e] at g2
      simp only [List.foldl_cons, List.length_cons]
      omega
theorem escS_parts (q : UInt8) (hq : q = 39 ∨ q = 34) (l : List Nat) (hl : ∀ k ∈ l, k < 12) : (∃ ps, partsB (wrapQ q (escS l)) = .ok ps ∧ flatU ps = escW l) ∧ (escS l).size ≤ 9 * l.length := by
  have h0 : ∃ ps, partsB (wrapQ q ⟨#[]⟩) = .ok ps ∧ flatU ps = [] := ⟨[], by rcases hq with rfl | rfl <;> kernel_rfl, rfl⟩
  have := esc_fold q hq l ⟨#[]⟩ [] hl h0
  have z : (⟨#[]⟩ : ByteArray).size = 0 := rfl
  rw [z] at this
  simpa [escS, escW] using this

/-! ### Which quotes -/
def chLit (k : Nat) : List UInt8 := if k = 0 then [92, 39] else if k = 1 then [92, 34] else [97]
def chS (l : List Nat) : ByteArray := l.foldl (fun a k => a ++ ⟨(chLit k).toArray⟩) ⟨#[]⟩
theorem chS_snoc (l : List Nat) (k : Nat) : chS (l ++ [k]) = chS l ++ ⟨(chLit k).toArray⟩ := by simp [chS, List.foldl_append]
def cntN (l : List Nat) (c : Nat) : Nat := (l.filter fun k => k == c).length
theorem cntN_snoc (l : List Nat) (k c : Nat) : cntN (l ++ [k]) c = cntN l c + if k = c then 1 else 0 := by
  unfold cntN
  rw [List.filter_append, List.length_append]
  congr 1
  by_cases h : k = c <;> simp [List.filter_cons, h]
theorem cntN_len (l : List Nat) (c : Nat) : cntN l c ≤ l.length := List.length_filter_le _ _
theorem parF_in {s : ByteArray} : ∀ (f i : Nat) (ps : List Pt), 1 ≤ i → parF s f i = .ok ps → ∀ p ∈ ps, 2 ≤ p.to ∧ p.to < s.size
  | f, i, ps, h1, h => by
    rcases parF_cases h with ⟨_, _, rfl⟩ | ⟨f', n, qs, rfl, hi, hb, hp, hn, hlast, hr, rfl⟩
    · simp
    · intro p hp
      rcases List.mem_cons.1 hp with rfl | hp
      · simp only; omega
      · exact parF_in f' (i + n) qs (by omega) hr p hp
theorem partsB_in {s : ByteArray} {ps : List Pt} (h : partsB s = .ok ps) : ∀ p ∈ ps, 2 ≤ p.to ∧ p.to < s.size := by
  unfold partsB at h
  split at h
  · cases h
  · exact parF_in _ 1 ps (Nat.le_refl _) h
theorem cntQ_move {s t : ByteArray} {d c : Nat} : ∀ (ps : List Pt), (∀ p ∈ ps, byt t (p.to + d - 1) = byt s (p.to - 1)) → cntQ t c (ps.map (Pt.move d)) = cntQ s c ps
  | [], _ => rfl
  | p :: ps, h => by
    have ih := cntQ_move (c := c) ps (fun q hq => h q (by simp [hq]))
    have h0 := h p (by simp)
    have hc : chQ t (p.move d) = chQ s p := h0
    have hq : isQ t (p.move d) = isQ s p := by
      have e1 : decide ((p.move d).to ≤ (p.move d).fr + 2) = decide (p.to ≤ p.fr + 2) := by
        rw [decide_eq_decide]; simp only [Pt.move]; omega
      have e2 : ((p.move d).to == (p.move d).fr + 1) = (p.to == p.fr + 1) := by
        rw [Bool.eq_iff_iff, beq_iff_eq, beq_iff_eq]; simp only [Pt.move]; omega
      unfold isQ
      rw [hc, e1, e2]
      rfl
    unfold cntQ at ih ⊢
    simp only [List.map_cons, List.filter_cons, hq, hc]
    split
    · simp only [List.length_cons]; omega
    · exact ih
theorem cntQ_app (s : ByteArray) (c : Nat) (ps qs : List Pt) : cntQ s c (ps ++ qs) = cntQ s c ps + cntQ s c qs := by
  unfold cntQ
  rw [List.filter_append, List.length_append]
theorem cnt_join {q : UInt8} {s t : ByteArray} {ps qs : List Pt} {c : Nat} (hs : partsB (wrapQ q s) = .ok ps) (ht : partsB (wrapQ q t) = .ok qs) :
    cntQ (wrapQ q (s ++ t)) c (ps ++ qs.map (Pt.move s.size)) = cntQ (wrapQ q s) c ps + cntQ (wrapQ q t) c qs := by
  have zs := wrap_size q s
  have zt := wrap_size q t
  have zst := sapp_size s t
  rw [cntQ_app]
  congr 1
  · have := cntQ_move (s := wrapQ q s) (t := wrapQ q (s ++ t)) (d := 0) (c := c) ps (fun p hp => by
      have hb := partsB_in hs p hp
      have h1 := wrap_in q s (p.to - 2) (by omega)
      have h2 := wrap_in q (s ++ t) (p.to - 2) (by omega)
      rw [sapp_left s t (p.to - 2) (by omega)] at h2
      rw [show p.to - 2 + 1 = p.to - 1 by omega] at h1 h2
      rw [Nat.add_zero, h1, h2])
    have hm : ps.map (Pt.move 0) = ps := by
      have : Pt.move 0 = id := by funext p; rfl
      rw [this, List.map_id]
    rw [hm] at this
    exact this
  · exact cntQ_move (s := wrapQ q t) (t := wrapQ q (s ++ t)) (d := s.size) (c := c) qs (fun p hp => by
      have hb := partsB_in ht p hp
      have h1 := wrap_in q t (p.to - 2) (by omega)
      have h2 := wrap_in q (s ++ t) (s.size + (p.to - 2)) (by omega)
      rw [sapp_right s t (p.to - 2) (s.size + (p.to - 2)) rfl] at h2
      rw [show p.to - 2 + 1 = p.to - 1 by omega] at h1
      rw [show s.size + (p.to - 2) + 1 = p.to + s.size - 1 by omega] at h2
      rw [h1, h2])
def okCh (q : UInt8) (k : Nat) : Bool := match partsB (wrapQ q ⟨(chLit k).toArray⟩) with | .ok ps => cntQ (wrapQ q ⟨(chLit k).toArray⟩) 39 ps == (if k = 0 then 1 else 0) && cntQ (wrapQ q ⟨(chLit k).toArray⟩) 34 ps == (if k = 1 then 1 else 0) | .error _ => false
theorem chLit_ok39 : ((List.range 3).all fun k => okCh 39 k) = true := by decide +kernel
theorem chLit_ok34 : ((List.range 3).all fun k => okCh 34 k) = true := by decide +kernel
theorem chLit_ok (q : UInt8) (hq : q = 39 ∨ q = 34) (k : Nat) (hk : k < 3) : ∃ ps, partsB (wrapQ q ⟨(chLit k).toArray⟩) = .ok ps ∧ cntQ (wrapQ q ⟨(chLit k).toArray⟩) 39 ps = (if k = 0 then 1 else 0) ∧ cntQ (wrapQ q ⟨(chLit k).toArray⟩) 34 ps = (if k = 1 then 1 else 0) := by
  have h : okCh q k = true := by
    rcases hq with rfl | rfl
    · exact List.all_eq_true.1 chLit_ok39 k (List.mem_range.2 hk)
    · exact List.all_eq_true.1 chLit_ok34 k (List.mem_range.2 hk)
  unfold okCh at h
  cases hp : partsB (wrapQ q ⟨(chLit k).toArray⟩) with
  | error e => rw [hp] at h; cases h
  | ok ps =>
    rw [hp] at h
    simp only [Bool.and_eq_true, beq_iff_eq] at h
    exact ⟨ps, rfl, h.1, h.2⟩
theorem chLit_first (k : Nat) (hk : k < 3) : ¬ (48 ≤ byt ⟨(chLit k).toArray⟩ 0 ∧ byt ⟨(chLit k).toArray⟩ 0 ≤ 57) ∧ byt ⟨(chLit k).toArray⟩ 0 ≠ 10 := by
  have h : ∀ k : Fin 3, ¬ (48 ≤ byt ⟨(chLit k).toArray⟩ 0 ∧ byt ⟨(chLit k).toArray⟩ 0 ≤ 57) ∧ byt ⟨(chLit k).toArray⟩ 0 ≠ 10 := by decide +kernel
  exact h ⟨k, hk⟩
theorem ch_fold (q : UInt8) (hq : q = 39 ∨ q = 34) : ∀ (l : List Nat) (a : ByteArray) (n m : Nat), (∀ k ∈ l, k < 3) → (∃ ps, partsB (wrapQ q a) = .ok ps ∧ cntQ (wrapQ q a) 39 ps = n ∧ cntQ (wrapQ q a) 34 ps = m) →
    (∃ ps, partsB (wrapQ q (l.foldl (fun a k => a ++ ⟨(chLit k).toArray⟩) a)) = .ok ps ∧ cntQ (wrapQ q (l.foldl (fun a k => a ++ ⟨(chLit k).toArray⟩) a)) 39 ps = n + cntN l 0 ∧ cntQ (wrapQ q (l.foldl (fun a k => a ++ ⟨(chLit k).toArray⟩) a)) 34 ps = m + cntN l 1) ∧
      (l.foldl (fun a k => a ++ ⟨(chLit k).toArray⟩) a).size ≤ a.size + 2 * l.length
  | [], a, n, m, _, h => by simpa [cntN] using h
  | k :: l, a, n, m, hl, ⟨ps, h1, h2, h2'⟩ => by
    have hk := hl k (by simp)
    obtain ⟨qs, h3, h4, h5⟩ := chLit_ok q hq k hk
    have hf := chLit_first k hk
    have hj := parts_join (q := q) (by rcases hq with rfl | rfl <;> decide) h1 h3 (fun _ => hf.1) (fun _ _ _ => hf.2)
    obtain ⟨⟨rs, g1, g2, g3⟩, g4⟩ := ch_fold q hq l (a ++ ⟨(chLit k).toArray⟩) (n + if k = 0 then 1 else 0) (m + if k = 1 then 1 else 0) (fun x hx => hl x (by simp [hx])) ⟨_, hj, by rw [cnt_join h1 h3, h2, h4], by rw [cnt_join h1 h3, h2', h5]⟩
    refine ⟨⟨rs, g1, ?_, ?_⟩, ?_⟩
    · rw [List.foldl_cons, g2]
      unfold cntN
      by_cases h : k = 0
      · subst h; simp; omega
      · simp [h]
    · rw [List.foldl_cons, g3]
      unfold cntN
      by_cases h : k = 1
      · subst h; simp; omega
      · simp [h]
    · have : (chLit k).length ≤ 2 := by unfold chLit; repeat' split
                                        all_goals decide
      have e : (a ++ ⟨(chLit k).toArray⟩ : ByteArray).size = a.size + (chLit k).length := by
        rw [sapp_size, size_list ⟨(chLit k).toArray⟩]
      rw [e] at g4
      simp only [List.foldl_cons, List.length_cons]
      omega
theorem chS_parts (q : UInt8) (hq : q = 39 ∨ q = 34) (l : List Nat) (hl : ∀ k ∈ l, k < 3) :
    (∃ ps, partsB (wrapQ q (chS l)) = .ok ps ∧ ∀ single, pickQ (wrapQ q (chS l)) ps single = if single then (if cntN l 1 < cntN l 0 then 34 else 39) else (if cntN l 0 < cntN l 1 then 39 else 34)) ∧ (chS l).size ≤ 2 * l.length := by
  have h0 : ∃ ps, partsB (wrapQ q ⟨#[]⟩) = .ok ps ∧ cntQ (wrapQ q ⟨#[]⟩) 39 ps = 0 ∧ cntQ (wrapQ q ⟨#[]⟩) 34 ps = 0 := ⟨[], by rcases hq with rfl | rfl <;> kernel_rfl, rfl, rfl⟩
  obtain ⟨⟨ps, g1, g2, g3⟩, g4⟩ := ch_fold q hq l ⟨#[]⟩ 0 0 hl h0
  have z : (⟨#[]⟩ : ByteArray).size = 0 := rfl
  rw [z, Nat.zero_add] at g4
  rw [Nat.zero_add] at g2 g3
  refine ⟨⟨ps, g1, fun single => ?_⟩, g4⟩
  unfold chS pickQ
  rw [g2, g3]
end Go.Proofs.YtcjnlbelgmcpeaaDoor
