/- LayoutTexts in plain words: of a document without choices all texts come out, in their row. -/
import Derived.Test.YthljgiimdcbfpaaDoorLPLines3
namespace Go.Proofs.YthljgiimdcbfpaaDoor
open Go.RowKit
set_option maxRecDepth 100000
set_option linter.unusedVariables false
set_option linter.unusedSimpArgs false

def bareB (c : UInt8) : Bool := c != 32 && c != 9 && c != 10 && c != 13
/-- A text without blanks, tabs and line ends. -/
def bareL (l : Ln) : Ln := l.filter bareB
theorem bareL_app (a b : Ln) : bareL (a ++ b) = bareL a ++ bareL b := List.filter_append ..
theorem bareL_none {l : Ln} (h : ∀ c ∈ l, bareB c = false) : bareL l = [] := by
  unfold bareL
  rw [List.filter_eq_nil_iff]
  intro c hc
  rw [h c hc]
  decide
theorem blank_bare {c : UInt8} (h : blank8 c = true) : bareB c = false := by
  unfold blank8 at h
  rw [Bool.or_eq_true, beq_iff_eq, beq_iff_eq] at h
  rcases h with rfl | rfl <;> decide
theorem bareL_trim (l : Ln) : bareL (trimR l) = bareL l := by
  have e : l = trimR l ++ (l.reverse.takeWhile blank8).reverse := by
    unfold trimR
    rw [← List.reverse_append, List.takeWhile_append_dropWhile, List.reverse_reverse]
  have h0 : bareL (l.reverse.takeWhile blank8).reverse = [] := bareL_none fun c hc => blank_bare (by
    rw [List.mem_reverse] at hc
    exact List.all_eq_true.1 List.all_takeWhile c hc)
  have h1 := congrArg bareL e
  rw [bareL_app, h0, List.append_nil] at h1
  exact h1.symm
theorem bareL_nl (o : Opt) : bareL o.nl = [] := by
  rcases opt_nl o with h | h <;> rw [h] <;> decide
theorem bareL_ind (o : Opt) (i : Ind) : bareL (indB o i) = [] := by
  induction i with
  | nil => rfl
  | cons x r ih =>
    show bareL (indB o r ++ stepB o x) = []
    rw [bareL_app, ih, List.nil_append]
    refine bareL_none fun c hc => ?_
    unfold stepB at hc
    split at hc
    · rw [List.mem_singleton] at hc
      subst hc
      decide
    · have := List.eq_of_mem_replicate hc
      subst this
      decide
mutual
/-- A document's texts, in their row. -/
def Doc.textsL : Doc → Ln
  | .mk k t ks _ _ _ => (if k = 1 then t.data.toList else []) ++ textsLL ks
def textsLL : List Doc → Ln
  | [] => []
  | d :: ds => d.textsL ++ textsLL ds
end
theorem Doc.textsL_eq (d : Doc) : d.textsL = (if d.kind = 1 then d.text.data.toList else []) ++ textsLL d.kids := by cases d; rfl
theorem textsLL_app (a b : List Doc) : textsLL (a ++ b) = textsLL a ++ textsLL b := by
  induction a with
  | nil => rfl
  | cons d a ih => simp only [List.cons_append, textsLL, ih, List.append_assoc]
mutual
theorem Doc.textsL_len : ∀ (d : Doc), d.textsL.length ≤ d.bulk
  | .mk k t ks b i y => by
    have h := textsLL_len ks
    have e : t.data.toList.length = t.size := by rw [Array.length_toList]; rfl
    show ((if k = 1 then t.data.toList else []) ++ textsLL ks).length ≤ bulkL ks + t.size + 1
    rw [List.length_append]
    split
    · omega
    · simp only [List.length_nil]
      omega
theorem textsLL_len : ∀ (ks : List Doc), (textsLL ks).length ≤ bulkL ks
  | [] => Nat.le_refl _
  | d :: ds => by
    have h1 := Doc.textsL_len d
    have h2 := textsLL_len ds
    simp only [textsLL, bulkL, List.length_append]
    omega
end
mutual
/-- A document without choices, of as many kids as are laid out. -/
def Doc.tx : Doc → Bool
  | .mk k _ ks _ _ _ => (k == 2 || k == 9 || (decide (ks.length = 1) && (k == 7 || k == 11 || k == 12 || k == 13)) || (decide (ks.length = 0) && (k == 1 || k == 3 || k == 4 || k == 5 || k == 6 || k == 15 || k == 16))) && txL ks
def txL : List Doc → Bool
  | [] => true
  | d :: ds => d.tx && txL ds
end
theorem Doc.tx_eq (d : Doc) : d.tx = ((d.kind == 2 || d.kind == 9 || (decide (d.kids.length = 1) && (d.kind == 7 || d.kind == 11 || d.kind == 12 || d.kind == 13)) || (decide (d.kids.length = 0) && (d.kind == 1 || d.kind == 3 || d.kind == 4 || d.kind == 5 || d.kind == 6 || d.kind == 15 || d.kind == 16))) && txL d.kids) := by cases d; rfl
theorem txL_all (ks : List Doc) : txL ks = true ↔ ∀ x ∈ ks, x.tx = true := by
  induction ks with
  | nil => simp [txL]
  | cons a l ih => simp only [txL, Bool.and_eq_true, ih, List.mem_cons, forall_eq_or_imp]
theorem Doc.tx_kids {d : Doc} (h : d.tx = true) : ∀ x ∈ d.kids, x.tx = true := by
  rw [Doc.tx_eq, Bool.and_eq_true] at h
  exact (txL_all _).1 h.2
/-- How many kids a kind has. -/
theorem Doc.tx_len {d : Doc} (h : d.tx = true) : ((d.kind = 2 ∨ d.kind = 9) ∨ (d.kids.length = 1 ∧ (d.kind = 7 ∨ d.kind = 11 ∨ d.kind = 12 ∨ d.kind = 13))) ∨ (d.kids.length = 0 ∧ (d.kind = 1 ∨ d.kind = 3 ∨ d.kind = 4 ∨ d.kind = 5 ∨ d.kind = 6 ∨ d.kind = 15 ∨ d.kind = 16)) := by
  rw [Doc.tx_eq, Bool.and_eq_true] at h
  have h1 := h.1
  simp only [Bool.or_eq_true, Bool.and_eq_true, beq_iff_eq, decide_eq_true_eq] at h1
  omega
theorem formed_kinds {k : Int} {t : ByteArray} {n : Nat} {b : Bool} {i y : Int} (h : formedF k t n b i y = true) (hc : ¬ (k = 8 ∨ k = 10 ∨ k = 14)) :
    ((k = 2 ∨ k = 9) ∨ (n = 1 ∧ (k = 7 ∨ k = 11 ∨ k = 12 ∨ k = 13))) ∨ (n = 0 ∧ (k = 1 ∨ k = 3 ∨ k = 4 ∨ k = 5 ∨ k = 6 ∨ k = 15 ∨ k = 16)) := by
  unfold formedF at h
  by_cases k1 : k = 1
  · subst k1
    rw [if_pos rfl] at h
    simp only [Bool.and_eq_true, beq_iff_eq] at h
    omega
  rw [if_neg k1] at h
  by_cases k2 : k = 2
  · omega
  rw [if_neg k2] at h
  by_cases k3 : k = 3 ∨ k = 4 ∨ k = 5 ∨ k = 6 ∨ k = 15 ∨ k = 16
  · rw [if_pos k3] at h
    simp only [Bool.and_eq_true, beq_iff_eq] at h
    omega
  rw [if_neg k3] at h
  by_cases k7 : k = 7
  · rw [if_pos k7] at h
    simp only [Bool.and_eq_true, beq_iff_eq] at h
    omega
  rw [if_neg k7] at h
  by_cases k8 : k = 8
  · omega
  rw [if_neg k8] at h
  by_cases k9 : k = 9
  · omega
  rw [if_neg k9] at h
  by_cases k10 : k = 10
  · omega
  rw [if_neg k10] at h
  by_cases k13 : k = 13
  · rw [if_pos k13] at h
    simp only [Bool.and_eq_true, beq_iff_eq] at h
    omega
  rw [if_neg k13] at h
  by_cases k11 : k = 11 ∨ k = 14
  · rw [if_pos k11] at h
    simp only [Bool.and_eq_true, beq_iff_eq] at h
    omega
  rw [if_neg k11] at h
  by_cases k12 : k = 12
  · rw [if_pos k12] at h
    simp only [Bool.and_eq_true, beq_iff_eq] at h
    omega
  rw [if_neg k12] at h
  cases h
theorem tx_of (d : Doc) : d.shape = true → d.choices = false → d.tx = true := by
  refine Doc.ind (P := fun d => d.shape = true → d.choices = false → d.tx = true) (fun d ih hs hl => ?_) d
  rw [Doc.choices_eq, Bool.or_eq_false_iff] at hl
  obtain ⟨h6, hk⟩ := hl
  rw [choicesL_any, List.any_eq_false] at hk
  rw [Doc.shape_eq, Bool.and_eq_true] at hs
  have hf : formedF d.kind d.text d.kids.length d.brk d.id d.width = true := by have := hs.1; cases d; exact this
  have hkids : txL d.kids = true := (txL_all _).2 fun x hx => ih x hx (shapeL_mem hs.2 x hx) (by simpa using hk x hx)
  have h8 : ¬ (d.kind = 8 ∨ d.kind = 10 ∨ d.kind = 14) := by
    simp only [Bool.or_eq_false_iff, beq_eq_false_iff_ne, ne_eq] at h6
    omega
  have h9 := formed_kinds hf h8
  rw [Doc.tx_eq, hkids, Bool.and_true]
  simp only [Bool.or_eq_true, Bool.and_eq_true, beq_iff_eq, decide_eq_true_eq]
  omega
/-! ### The machine -/
structure InvT (T : Ln) (m : Mach) : Prop where
  put : m.put = []
  stk : ∀ c ∈ m.stk, c.d.tx = true
  all : bareL m.out ++ bareL (textsLL (m.stk.map (·.d))) = T
theorem bareLL_cons (d : Doc) (ds : List Doc) : bareL (textsLL (d :: ds)) = bareL d.textsL ++ bareL (textsLL ds) := by
  show bareL (d.textsL ++ textsLL ds) = _
  rw [bareL_app]
/-- A command whose kids are put on the stack. -/
theorem InvT.push {T : Ln} {m : Mach} {c : Cmd} {ds : List Doc} (i : Ind) (fl : Bool) (hp : m.put = []) (hs : ∀ x ∈ m.stk, x.d.tx = true) (hd : ∀ x ∈ ds, x.tx = true)
    (ha : bareL m.out ++ (bareL (textsLL ds) ++ bareL (textsLL (m.stk.map (·.d)))) = T) : InvT T (pushM m i fl ds) := by
  refine ⟨hp, fun x hx => ?_, ?_⟩
  · rcases List.mem_append.1 hx with hx | hx
    · obtain ⟨d, h1, rfl⟩ := List.mem_map.1 hx
      exact hd d h1
    · exact hs x hx
  · rw [← ha]
    show bareL m.out ++ bareL (textsLL ((ds.map (fun d => (⟨i, fl, d⟩ : Cmd)) ++ m.stk).map (·.d))) = _
    rw [List.map_append, List.map_map, textsLL_app, bareL_app]
    congr 3
    congr 1
    exact List.map_id ds
theorem line_texts {o : Opt} {T : Ln} {m m1 : Mach} {c : Cmd} (hm : InvT T m) (h : lineM o m c = some m1) : InvT T m1 := by
  unfold lineM at h
  rw [if_neg (by rw [hm.put]; simp)] at h
  split at h
  · obtain ⟨m2, h1, h2⟩ := Option.map_eq_some_iff.1 h
    obtain ⟨rfl, _⟩ := put_meas h1
    subst h2
    refine ⟨hm.put, hm.stk, ?_⟩
    rw [← hm.all]
    show bareL (m.out ++ o.nl) ++ _ = _
    rw [bareL_app, bareL_nl, List.append_nil]
  · obtain ⟨m2, h1, h2⟩ := Option.bind_eq_some_iff.1 h
    obtain ⟨m3, h3, h4⟩ := Option.map_eq_some_iff.1 h2
    obtain ⟨rfl, _⟩ := put_meas h1
    obtain ⟨rfl, _⟩ := ind_meas _ _ _ _ h3
    subst h4
    refine ⟨hm.put, hm.stk, ?_⟩
    rw [← hm.all]
    show bareL ((trimR m.out ++ o.nl) ++ indB o c.ind) ++ _ = _
    rw [bareL_app, bareL_app, bareL_nl, bareL_ind, bareL_trim, List.append_nil, List.append_nil]
theorem kid0_one {ks : List Doc} (h : ks.length = 1) : kid0 ks = ks := List.take_of_length_le (by omega)
theorem fill_texts {o : Opt} {T : Ln} {m : Mach} {i : Ind} : ∀ (ks : List Doc), m.put = [] → (∀ x ∈ m.stk, x.d.tx = true) → (∀ x ∈ ks, x.tx = true) →
    bareL m.out ++ (bareL (textsLL ks) ++ bareL (textsLL (m.stk.map (·.d)))) = T → InvT T (fillM o m i ks)
  | [], hp, hs, _, ha => ⟨hp, hs, ha⟩
  | [k], hp, hs, hd, ha => InvT.push (c := ⟨i, false, k⟩) i _ hp hs hd ha
  | k0 :: k1 :: ks, hp, hs, hd, ha => by
    have hf : (fillD ks).tx = true := by
      rw [Doc.tx_eq, Bool.and_eq_true]
      exact ⟨rfl, (txL_all _).2 (fun x hx => hd x (List.mem_cons_of_mem _ (List.mem_cons_of_mem _ hx)))⟩
    refine ⟨hp, fun x hx => ?_, ?_⟩
    · have hx' : x ∈ (⟨i, fitsM o m true true [k0], k0⟩ : Cmd) :: ⟨i, fitsM o m true true (k0 :: k1 :: ks.take 1), k1⟩ :: ⟨i, false, fillD ks⟩ :: m.stk := hx
      rcases List.mem_cons.1 hx' with rfl | hx'
      · exact hd _ (by simp)
      rcases List.mem_cons.1 hx' with rfl | hx'
      · exact hd _ (by simp)
      rcases List.mem_cons.1 hx' with rfl | hx'
      · exact hf
      · exact hs x hx'
    · rw [← ha]
      show bareL m.out ++ bareL (textsLL (k0 :: k1 :: fillD ks :: m.stk.map (·.d))) = _
      rw [bareLL_cons, bareLL_cons, bareLL_cons, bareLL_cons, bareLL_cons]
      have e : (fillD ks).textsL = textsLL ks := by
        rw [Doc.textsL_eq]
        rfl
      rw [e]
      simp only [List.append_assoc]
theorem doM_texts {o : Opt} {T : Ln} {m m1 : Mach} {c : Cmd} {cs : List Cmd} (hm : InvT T { m with stk := c :: cs }) (h : doM o { m with stk := cs } c = some m1) : InvT T m1 := by
  have hp : m.put = [] := hm.put
  have hc : c.d.tx = true := hm.stk c (List.mem_cons_self ..)
  have hs : ∀ x ∈ cs, x.d.tx = true := fun x hx => hm.stk x (List.mem_cons_of_mem _ hx)
  have ha : bareL m.out ++ (bareL c.d.textsL ++ bareL (textsLL (cs.map (·.d)))) = T := by
    rw [← hm.all]
    show _ = bareL m.out ++ bareL (textsLL (c.d :: cs.map (·.d)))
    rw [bareLL_cons]
  have hk := Doc.tx_kids hc
  have hl := Doc.tx_len hc
  have htx := Doc.textsL_eq c.d
  -- all kids are put on the stack
  have push : ∀ (i : Ind) (fl : Bool) (ds : List Doc) (b : Int → Bool), ds = c.d.kids → c.d.kind ≠ 1 → InvT T (pushM { m with stk := cs, brk := b } i fl ds) := by
    intro i fl ds b e k1
    subst e
    rw [if_neg k1, List.nil_append] at htx
    rw [htx] at ha
    exact InvT.push (c := c) (m := { m with stk := cs, brk := b }) i fl hp hs hk ha
  -- nothing is written
  have none : c.d.kids.length = 0 → c.d.kind ≠ 1 → InvT T { m with stk := cs } := by
    intro e k1
    rw [if_neg k1, List.nil_append, List.length_eq_zero_iff.1 e] at htx
    rw [htx] at ha
    exact ⟨hp, hs, ha⟩
  rw [doM_eq] at h
  by_cases k1 : c.d.kind = 1
  · rw [if_pos k1] at h
    obtain ⟨m2, h1, h2⟩ := Option.map_eq_some_iff.1 h
    subst h2
    obtain ⟨rfl, _⟩ := put_meas h1
    refine ⟨hp, hs, ?_⟩
    rw [if_pos k1, List.length_eq_zero_iff.1 (by omega : c.d.kids.length = 0)] at htx
    rw [← ha, htx]
    show bareL (m.out ++ c.d.text.data.toList) ++ _ = _
    rw [bareL_app, bareL_app, List.append_assoc]
    show _ = bareL m.out ++ (bareL c.d.text.data.toList ++ [] ++ _)
    rw [List.append_nil]
  rw [if_neg k1] at h
  by_cases k2 : c.d.kind = 2
  · rw [if_pos k2] at h
    injection h with h
    subst h
    exact push _ _ _ m.brk rfl k1
  rw [if_neg k2] at h
  by_cases k11 : c.d.kind = 11
  · rw [if_pos k11] at h
    injection h with h
    subst h
    exact push _ _ _ m.brk (kid0_one (by omega)) k1
  rw [if_neg k11] at h
  by_cases k13 : c.d.kind = 13
  · rw [if_pos k13] at h
    injection h with h
    subst h
    exact push _ _ _ m.brk (kid0_one (by omega)) k1
  rw [if_neg k13] at h
  by_cases k12 : c.d.kind = 12
  · rw [if_pos k12] at h
    injection h with h
    subst h
    exact push _ _ _ m.brk (kid0_one (by omega)) k1
  rw [if_neg k12] at h
  by_cases k7 : c.d.kind = 7
  · rw [if_pos k7] at h
    injection h with h
    subst h
    exact push _ _ _ _ (kid0_one (by omega)) k1
  rw [if_neg k7] at h
  by_cases k8 : c.d.kind = 8
  · omega
  rw [if_neg k8] at h
  by_cases k9 : c.d.kind = 9
  · rw [if_pos k9] at h
    injection h with h
    subst h
    split
    · exact push _ _ _ m.brk rfl k1
    · rw [if_neg k1, List.nil_append] at htx
      rw [htx] at ha
      exact fill_texts _ hp hs hk ha
  rw [if_neg k9] at h
  by_cases k10 : c.d.kind = 10
  · omega
  rw [if_neg k10] at h
  by_cases k14 : c.d.kind = 14
  · omega
  rw [if_neg k14] at h
  have hn := none (by omega) k1
  by_cases k15 : c.d.kind = 15
  · rw [if_pos k15, if_neg (by show ¬ m.put ≠ []; rw [hp]; simp)] at h
    injection h with h
    subst h
    exact hn
  rw [if_neg k15] at h
  by_cases k3 : c.d.kind = 3 ∨ c.d.kind = 4
  · rw [if_pos k3] at h
    split at h
    · split at h
      · obtain ⟨m2, h1, h2⟩ := Option.map_eq_some_iff.1 h
        subst h2
        obtain ⟨rfl, _⟩ := put_meas h1
        refine ⟨hp, hs, ?_⟩
        rw [← hn.all]
        show bareL (m.out ++ [32]) ++ _ = _
        rw [bareL_app, show bareL [32] = [] from rfl, List.append_nil]
      · injection h with h
        subst h
        exact hn
    · exact line_texts hn h
  rw [if_neg k3] at h
  by_cases k5 : c.d.kind = 5 ∨ c.d.kind = 6
  · rw [if_pos k5] at h
    exact line_texts hn h
  rw [if_neg k5] at h
  injection h with h
  subst h
  exact hn
theorem runM_texts (o : Opt) (T : Ln) : ∀ (f : Nat) (m : Mach) (l : Ln), InvT T m → runM o f m = some l → bareL l = T
  | 0, m, l, hm, h => by cases h
  | f + 1, m, l, hm, h => by
    unfold runM at h
    cases hs : m.stk with
    | nil =>
      rw [hs] at h
      simp only at h
      rw [if_pos hm.put] at h
      injection h with h
      subst h
      have := hm.all
      rw [hs] at this
      rw [← this]
      exact (List.append_nil _).symm
    | cons c cs =>
      rw [hs] at h
      obtain ⟨m1, h1, h2⟩ := Option.bind_eq_some_iff.1 h
      refine runM_texts o T f m1 l (doM_texts (m := m) (c := c) (cs := cs) ?_ h1) h2
      rw [← hs]
      exact hm
/-- What Layout gives of a document without choices. -/
theorem lay_texts (d : Doc) (o : Opt) (hc : d.choices = false) (h : (layN d o).2 = 0) : bareL (layN d o).1 = bareL d.textsL := by
  unfold layN at h ⊢
  split at h
  · cases h
  · next h1 =>
    rw [if_neg h1]
    split at h
    · next h2 => exact absurd h h2
    · next h2 =>
      rw [if_neg h2]
      have hc0 : d.code = 0 := by simpa using h2
      have hd := tx_of d (code_shape hc0).1 hc
      cases hr : runM o (2 * d.nodes) (startM d) with
      | none => rw [hr] at h; cases h
      | some s =>
        refine runM_texts o _ _ _ _ ⟨rfl, fun c hcm => ?_, ?_⟩ hr
        · have : c = ⟨[], false, d⟩ := by simpa [startM] using hcm
          subst this
          exact hd
        · show bareL [] ++ bareL (d.textsL ++ []) = _
          rw [List.append_nil]
          rfl
end Go.Proofs.YthljgiimdcbfpaaDoor
