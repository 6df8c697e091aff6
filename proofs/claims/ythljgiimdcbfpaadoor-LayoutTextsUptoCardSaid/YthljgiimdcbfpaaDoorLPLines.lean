/- LayoutLines in plain words: lines without blanks at their ends. -/
import Derived.Test.YthljgiimdcbfpaaDoorLPSteps
namespace Go.Proofs.YthljgiimdcbfpaaDoor
open Go.RowKit
set_option maxRecDepth 100000
set_option linter.unusedVariables false
set_option linter.unusedSimpArgs false

def noEnd (l : Ln) : Prop := ∀ c ∈ l, c ≠ 10 ∧ c ≠ 13
/-- Whole lines, each without a blank at its end, then a begun one. -/
def LinesOk (nl out : Ln) : Prop := ∃ (L : List Ln) (z : Ln), out = (L.map (· ++ nl)).flatten ++ z ∧ (∀ x ∈ L, noEnd x ∧ trimR x = x) ∧ noEnd z
theorem LinesOk.nil (nl : Ln) : LinesOk nl [] := ⟨[], [], rfl, by simp, by intro c hc; cases hc⟩
theorem noEnd_app {a b : Ln} (ha : noEnd a) (hb : noEnd b) : noEnd (a ++ b) := fun c hc => (List.mem_append.1 hc).elim (ha c) (hb c)
theorem LinesOk.put {nl out t : Ln} (h : LinesOk nl out) (ht : noEnd t) : LinesOk nl (out ++ t) := by
  obtain ⟨L, z, rfl, h1, h2⟩ := h
  exact ⟨L, z ++ t, by simp, h1, noEnd_app h2 ht⟩
theorem trimR_sub {l : Ln} {c : UInt8} (h : c ∈ trimR l) : c ∈ l := by
  unfold trimR at h
  rw [List.mem_reverse] at h
  exact List.mem_reverse.1 ((List.dropWhile_sublist _).subset h)
theorem trimR_idem (l : Ln) : trimR (trimR l) = trimR l := by
  unfold trimR
  rw [List.reverse_reverse]
  congr 1
  cases h : l.reverse.dropWhile blank8 with
  | nil => rfl
  | cons a r =>
    have ha : blank8 a = false := by
      have := List.head_dropWhile_not blank8 (l := l.reverse) (by rw [h]; simp)
      simpa [h] using this
    rw [List.dropWhile_cons_of_neg (by rw [ha]; decide)]
theorem trimR_app {a z : Ln} (ha : a = [] ∨ ∃ b c, a = b ++ [c] ∧ blank8 c = false) : trimR (a ++ z) = a ++ trimR z := by
  rcases ha with rfl | ⟨b, c, rfl, hc⟩
  · simp
  · unfold trimR
    rw [List.reverse_append, List.dropWhile_append]
    have h1 : (b ++ [c]).reverse.dropWhile blank8 = (b ++ [c]).reverse := by
      rw [List.reverse_append]
      show List.dropWhile blank8 (c :: b.reverse) = _
      rw [List.dropWhile_cons_of_neg (by rw [hc]; decide)]
      rfl
    split
    · next he =>
      rw [List.isEmpty_iff] at he
      rw [h1, List.reverse_reverse, he]
      simp
    · simp
theorem LinesOk.line {nl out : Ln} (hnl : nl = [10] ∨ nl = [13, 10]) (h : LinesOk nl out) : LinesOk nl (trimR out ++ nl) := by
  obtain ⟨L, z, rfl, h1, h2⟩ := h
  refine ⟨L ++ [trimR z], [], ?_, ?_, by intro c hc; cases hc⟩
  · rw [trimR_app]
    · simp
    · rcases List.eq_nil_or_concat L with rfl | ⟨L', x, rfl⟩
      · exact .inl rfl
      · refine .inr ?_
        rcases hnl with rfl | rfl
        · exact ⟨(L'.map (· ++ [10])).flatten ++ x, 10, by simp, by decide⟩
        · exact ⟨(L'.map (· ++ [13, 10])).flatten ++ x ++ [13], 10, by simp, by decide⟩
  · intro x hx
    rcases List.mem_append.1 hx with hx | hx
    · exact h1 x hx
    · rw [List.mem_singleton] at hx
      subst hx
      exact ⟨fun c hc => h2 c (trimR_sub hc), trimR_idem z⟩
theorem blanks_noEnd (o : Opt) (i : Ind) : noEnd (indB o i) := by
  induction i with
  | nil => intro c hc; cases hc
  | cons x r ih =>
    refine noEnd_app ih ?_
    unfold stepB
    intro c hc
    split at hc
    · rw [List.mem_singleton] at hc
      subst hc
      decide
    · have := List.eq_of_mem_replicate hc
      subst this
      decide

mutual
/-- No literal, no line's end in a text. -/
def Doc.lineOk : Doc → Bool
  | .mk k t ks _ _ _ => k != 6 && (k != 1 || t.data.toList.all (fun c => c != 10 && c != 13)) && lineOkL ks
def lineOkL : List Doc → Bool
  | [] => true
  | d :: ds => d.lineOk && lineOkL ds
end
theorem Doc.lineOk_eq (d : Doc) : d.lineOk = (d.kind != 6 && (d.kind != 1 || d.text.data.toList.all (fun c => c != 10 && c != 13)) && lineOkL d.kids) := by cases d; rfl
theorem lineOkL_all (ks : List Doc) : lineOkL ks = true ↔ ∀ x ∈ ks, x.lineOk = true := by
  induction ks with
  | nil => simp [lineOkL]
  | cons a l ih => simp only [lineOkL, Bool.and_eq_true, ih, List.mem_cons, forall_eq_or_imp]
theorem Doc.lineOk_kids {d : Doc} (h : d.lineOk = true) : ∀ x ∈ d.kids, x.lineOk = true := by
  rw [Doc.lineOk_eq, Bool.and_eq_true] at h
  exact (lineOkL_all _).1 h.2
theorem fillD_lineOk {ks : List Doc} (h : ∀ x ∈ ks, x.lineOk = true) : (fillD ks).lineOk = true := by
  rw [Doc.lineOk_eq, Bool.and_eq_true]
  exact ⟨rfl, (lineOkL_all _).2 h⟩
structure InvL (o : Opt) (m : Mach) : Prop where
  out : LinesOk o.nl m.out
  stk : ∀ c ∈ m.stk, c.d.lineOk = true
  put : ∀ c ∈ m.put, c.d.lineOk = true
theorem InvL.push {o : Opt} {m : Mach} (h : InvL o m) (i : Ind) (fl : Bool) {ds : List Doc} (hd : ∀ x ∈ ds, x.lineOk = true) : InvL o (pushM m i fl ds) := by
  refine ⟨h.out, fun c hc => ?_, h.put⟩
  rcases List.mem_append.1 hc with hc | hc
  · obtain ⟨d, h1, rfl⟩ := List.mem_map.1 hc
    exact hd d h1
  · exact h.stk c hc
theorem InvL.flush {o : Opt} {m : Mach} (h : InvL o m) : InvL o (flushM m) := by
  refine ⟨h.out, fun c hc => ?_, by intro c hc; cases hc⟩
  rcases List.mem_append.1 hc with hc | hc
  · exact h.put c hc
  · exact h.stk c hc
theorem opt_nl (o : Opt) : o.nl = [10] ∨ o.nl = [13, 10] := by
  unfold Opt.nl
  split
  · exact .inr rfl
  · exact .inl rfl
theorem InvL.line {o : Opt} {m m1 : Mach} {c : Cmd} (h : InvL o m) (hc : c.d.lineOk = true) (he : lineM o m c = some m1) : InvL o m1 := by
  unfold lineM at he
  have h6 : ¬ c.d.kind = 6 := by
    rw [Doc.lineOk_eq] at hc
    intro e
    rw [e] at hc
    cases hc
  split at he
  · injection he with he
    subst he
    refine InvL.flush ⟨h.out, fun x hx => ?_, h.put⟩
    rcases List.mem_cons.1 hx with rfl | hx
    · exact hc
    · exact h.stk x hx
  · have he' : (putM { m with out := trimR m.out } o.nl).bind (fun m1 => (indM o c.ind m1).map fun m2 => { m2 with col := c.ind.wide }) = some m1 := he
    obtain ⟨m2, h1, h3⟩ := Option.bind_eq_some_iff.1 he'
    obtain ⟨m3, h2, h4⟩ := Option.map_eq_some_iff.1 h3
    subst h4
    obtain ⟨e1, _⟩ := put_meas h1
    obtain ⟨e2, _⟩ := ind_meas o c.ind m2 m3 h2
    subst e1
    subst e2
    exact ⟨(h.out.line (opt_nl o)).put (blanks_noEnd o c.ind), h.stk, h.put⟩
theorem fill_lines {o : Opt} {m : Mach} {i : Ind} : ∀ (ks : List Doc), (∀ x ∈ ks, x.lineOk = true) → InvL o m → InvL o (fillM o m i ks)
  | [], _, hm => hm
  | [k], h, hm => hm.push i _ h
  | k0 :: k1 :: ks, h, hm => by
    show InvL o (pushM (pushM (pushM m i false [fillD ks]) i _ [k1]) i _ [k0])
    refine InvL.push (InvL.push (InvL.push hm i false ?_) i _ ?_) i _ ?_
    · intro x hx
      rw [List.mem_singleton] at hx
      subst hx
      exact fillD_lineOk (fun y hy => h y (by simp [hy]))
    · intro x hx
      rw [List.mem_singleton] at hx
      subst hx
      exact h _ (by simp)
    · intro x hx
      rw [List.mem_singleton] at hx
      subst hx
      exact h _ (by simp)
theorem doM_lines {o : Opt} {m m1 : Mach} {c : Cmd} (hm : InvL o m) (hc : c.d.lineOk = true) (h : doM o m c = some m1) : InvL o m1 := by
  have hk := Doc.lineOk_kids hc
  have s0 : ∀ x ∈ kid0 c.d.kids, x.lineOk = true := fun x hx => hk x ((kid0_sub _).subset hx)
  have s1 : ∀ x ∈ kid1 c.d.kids, x.lineOk = true := fun x hx => hk x ((kid1_sub _).subset hx)
  rw [doM_eq] at h
  by_cases k1 : c.d.kind = 1
  · rw [if_pos k1] at h
    obtain ⟨m2, h1, h2⟩ := Option.map_eq_some_iff.1 h
    subst h2
    obtain ⟨e1, _⟩ := put_meas h1
    subst e1
    refine ⟨hm.out.put ?_, hm.stk, hm.put⟩
    rw [Doc.lineOk_eq, k1, Bool.and_eq_true, Bool.and_eq_true] at hc
    have ha : c.d.text.data.toList.all (fun c => c != 10 && c != 13) = true := by
      have h0 := hc.1.2
      rw [show ((1 : Int) != 1) = false from rfl, Bool.false_or] at h0
      exact h0
    intro x hx
    have hb := List.all_eq_true.1 ha x hx
    rw [Bool.and_eq_true] at hb
    exact ⟨by have := hb.1; rwa [bne_iff_ne] at this, by have := hb.2; rwa [bne_iff_ne] at this⟩
  rw [if_neg k1] at h
  by_cases k2 : c.d.kind = 2
  · rw [if_pos k2] at h
    injection h with h
    subst h
    exact hm.push _ _ hk
  rw [if_neg k2] at h
  by_cases k11 : c.d.kind = 11
  · rw [if_pos k11] at h
    injection h with h
    subst h
    exact hm.push _ _ s0
  rw [if_neg k11] at h
  by_cases k13 : c.d.kind = 13
  · rw [if_pos k13] at h
    injection h with h
    subst h
    exact hm.push _ _ s0
  rw [if_neg k13] at h
  by_cases k12 : c.d.kind = 12
  · rw [if_pos k12] at h
    injection h with h
    subst h
    exact hm.push _ _ s0
  rw [if_neg k12] at h
  by_cases k7 : c.d.kind = 7
  · rw [if_pos k7] at h
    injection h with h
    subst h
    refine InvL.push ?_ _ _ s0
    exact ⟨hm.out, hm.stk, hm.put⟩
  rw [if_neg k7] at h
  by_cases k8 : c.d.kind = 8
  · rw [if_pos k8] at h
    injection h with h
    subst h
    split
    · exact hm.push _ _ s0
    · obtain ⟨fl, ds, e, hs⟩ := cond_push o m c.ind c.d.brk c.d.kids
      rw [e]
      exact hm.push _ _ (fun x hx => hk x (hs.subset hx))
  rw [if_neg k8] at h
  by_cases k9 : c.d.kind = 9
  · rw [if_pos k9] at h
    injection h with h
    subst h
    split
    · exact hm.push _ _ hk
    · exact fill_lines _ hk hm
  rw [if_neg k9] at h
  by_cases k10 : c.d.kind = 10
  · rw [if_pos k10] at h
    injection h with h
    subst h
    split
    · exact hm.push _ _ s1
    · exact hm.push _ _ s0
  rw [if_neg k10] at h
  by_cases k14 : c.d.kind = 14
  · rw [if_pos k14] at h
    injection h with h
    subst h
    refine ⟨hm.out, hm.stk, fun x hx => ?_⟩
    rcases List.mem_append.1 hx with hx | hx
    · exact hm.put x hx
    · obtain ⟨d, h1, rfl⟩ := List.mem_map.1 hx
      exact s0 d h1
  rw [if_neg k14] at h
  by_cases k15 : c.d.kind = 15
  · rw [if_pos k15] at h
    split at h
    · exact hm.line (c := ⟨c.ind, c.flat, hardDoc⟩) rfl h
    · injection h with h
      subst h
      exact hm
  rw [if_neg k15] at h
  by_cases k3 : c.d.kind = 3 ∨ c.d.kind = 4
  · rw [if_pos k3] at h
    split at h
    · split at h
      · obtain ⟨m2, h1, h2⟩ := Option.map_eq_some_iff.1 h
        subst h2
        obtain ⟨e1, _⟩ := put_meas h1
        subst e1
        exact ⟨hm.out.put (by intro x hx; rw [List.mem_singleton] at hx; subst hx; decide), hm.stk, hm.put⟩
      · injection h with h
        subst h
        exact hm
    · exact hm.line hc h
  rw [if_neg k3] at h
  by_cases k5 : c.d.kind = 5 ∨ c.d.kind = 6
  · rw [if_pos k5] at h
    exact hm.line hc h
  rw [if_neg k5] at h
  injection h with h
  subst h
  exact hm
theorem runM_lines (o : Opt) : ∀ (f : Nat) (m : Mach) (l : Ln), InvL o m → runM o f m = some l → LinesOk o.nl l
  | 0, m, l, hm, h => by cases h
  | f + 1, m, l, hm, h => by
    unfold runM at h
    cases hs : m.stk with
    | nil =>
      rw [hs] at h
      simp only at h
      split at h
      · injection h with h
        subst h
        exact hm.out
      · exact runM_lines o f _ l hm.flush h
    | cons c cs =>
      rw [hs] at h
      obtain ⟨m1, h1, h2⟩ := Option.bind_eq_some_iff.1 h
      exact runM_lines o f m1 l (doM_lines (m := { m with stk := cs }) ⟨hm.out, fun x hx => hm.stk x (by rw [hs]; simp [hx]), hm.put⟩ (hm.stk c (by rw [hs]; simp)) h1) h2
end Go.Proofs.YthljgiimdcbfpaaDoor
