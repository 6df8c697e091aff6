/- The law LayoutSuffixes (platenlaw17) holds of the program. Conditions: the library's tables unicode/utf8.first and acceptRanges read as their initialisers lay them. -/
import Derived.Test.YthljgiimdcbfpaaDoorMLaw
import Derived.Test.YthljgiimdcbfpaaDoorMDec
import Derived.Test.YthljgiimdcbfpaaDoorLPSteps
namespace Go.Proofs.YthljgiimdcbfpaaDoor
open Go.RowKit Go.WideShapes Go.ChangeShapes Go.ChangeAt
set_option maxRecDepth 100000
set_option linter.unusedVariables false
set_option linter.unusedSimpArgs false

def decL (i : Nat) : Ln := decB (i : Int)
def sufDoc (it : Nat × Nat) : Doc := if it.2 = 0 then tD (decL it.1) else if it.2 = 1 ∨ it.2 = 2 then eDoc 14 [tD (60 :: decL it.1)] else if it.2 = 3 then eDoc 5 [] else eDoc 15 []
/-- What is done (want), what stands on the line, what is put off. -/
structure SS where
  w : Ln
  l : Ln
  o : Ln
def SS.nl (s : SS) : SS := ⟨s.w ++ s.l ++ s.o ++ [10], [], []⟩
def SS.step (s : SS) (it : Nat × Nat) : SS :=
  if it.2 = 0 then ⟨s.w, s.l ++ decL it.1, s.o⟩
  else if it.2 = 1 ∨ it.2 = 2 then ⟨s.w, s.l, s.o ++ (60 :: decL it.1)⟩
  else if it.2 = 3 then s.nl
  else if s.o ≠ [] then s.nl else s
def SS.all (s : SS) : Ln := s.w ++ s.l ++ s.o
def clean (l : Ln) : Prop := ∀ c ∈ l, blank8 c = false
theorem clean_app {a b : Ln} (ha : clean a) (hb : clean b) : clean (a ++ b) := fun c hc => (List.mem_append.1 hc).elim (ha c) (hb c)
theorem trim_clean {l : Ln} (h : clean l) : trimR l = l := by
  unfold trimR
  cases hr : l.reverse with
  | nil => rw [List.reverse_eq_nil_iff] at hr; rw [hr]; rfl
  | cons a r =>
    have ha : a ∈ l := by rw [← List.mem_reverse, hr]; simp
    rw [List.dropWhile_cons_of_neg (by rw [h a ha]; decide), ← hr, List.reverse_reverse]
theorem dec_all : (List.range 40).all (fun i => (tD (decL i)).shape && (eDoc 14 [tD (60 :: decL i)]).shape && decide ((decL i).length ≤ 3) && (decL i).all (fun c => !blank8 c) && decide ((tD (decL i)).bulk ≤ 10) && decide ((eDoc 14 [tD (60 :: decL i)]).bulk ≤ 10)) = true := by decide +kernel
theorem dec_ok {i : Nat} (h : i < 40) : (tD (decL i)).shape = true ∧ (eDoc 14 [tD (60 :: decL i)]).shape = true ∧ (decL i).length ≤ 3 ∧ clean (decL i) ∧ (tD (decL i)).bulk ≤ 10 ∧ (eDoc 14 [tD (60 :: decL i)]).bulk ≤ 10 := by
  have h1 := List.all_eq_true.1 dec_all i (List.mem_range.2 h)
  simp only [Bool.and_eq_true, decide_eq_true_eq] at h1
  obtain ⟨⟨⟨⟨⟨a1, a2⟩, a3⟩, a4⟩, a5⟩, a6⟩ := h1
  refine ⟨a1, a2, a3, fun c hc => ?_, a5, a6⟩
  have := List.all_eq_true.1 a4 c hc
  simpa using this
def putC (ts : List Ln) : List Cmd := ts.map fun t => ⟨[], false, tD t⟩
theorem put_run (o : Opt) : ∀ (ts : List Ln) (out : Ln) (col : Int) (stk : List Cmd) (brk : Int → Bool), out.length + ts.flatten.length ≤ 67108864 →
    ∃ col', Steps o ⟨out, col, putC ts ++ stk, [], brk⟩ ⟨out ++ ts.flatten, col', stk, [], brk⟩
  | [], out, col, stk, brk, _ => ⟨col, by simpa [putC] using Steps.refl _⟩
  | t :: ts, out, col, stk, brk, hb => by
    simp only [List.flatten_cons, List.length_append] at hb
    obtain ⟨c, st⟩ := put_run o ts (out ++ t) (col + (widthB (strOf t) : Int)) stk brk (by simp only [List.length_append]; omega)
    refine ⟨c, .step (c := ⟨[], false, tD t⟩) (cs := putC ts ++ stk) rfl (doM_text o ⟨out, col, putC ts ++ stk, [], brk⟩ [] false t (by show out.length + t.length ≤ _; omega)) ?_⟩
    simpa using st
theorem hard_run (o : Opt) (hnl : o.nl = [10]) (ts : List Ln) (out : Ln) (col : Int) (stk : List Cmd) (brk : Int → Bool) (d : Doc) (hd : d = eDoc 5 []) (hc : clean (out ++ ts.flatten)) (hb : out.length + ts.flatten.length ≤ 67100000) :
    ∃ col', Steps o ⟨out, col, ⟨[], false, d⟩ :: stk, putC ts, brk⟩ ⟨out ++ ts.flatten ++ [10], col', stk, [], brk⟩ := by
  subst hd
  have hline : ∀ (out : Ln) (col : Int), clean out → out.length ≤ 67100000 → Steps o ⟨out, col, ⟨[], false, eDoc 5 []⟩ :: stk, [], brk⟩ ⟨out ++ [10], 0, stk, [], brk⟩ := by
    intro out col hc hb
    refine .one (c := ⟨[], false, eDoc 5 []⟩) (cs := stk) rfl ?_
    rw [doM_eq]
    show lineM o ⟨out, col, stk, [], brk⟩ ⟨[], false, eDoc 5 []⟩ = _
    unfold lineM
    rw [if_neg (by simp), if_neg (show ¬ (eDoc 5 []).kind = 6 by decide), hnl]
    show ((putM ⟨trimR out, col, stk, [], brk⟩ [10]).bind fun m1 => (indM o [] m1).map fun m2 => { m2 with col := Ind.wide [] }) = _
    rw [trim_clean hc]
    unfold putM
    rw [if_neg (by show ¬ 67108864 < out.length + 1; omega)]
    rfl
  by_cases hts : ts = []
  · subst hts
    simp only [List.flatten_nil, List.append_nil] at hc ⊢
    exact ⟨0, hline out col hc (by simpa using hb)⟩
  · obtain ⟨c1, s1⟩ := put_run o ts out col (⟨[], false, eDoc 5 []⟩ :: stk) brk (by omega)
    refine ⟨0, .step (c := ⟨[], false, eDoc 5 []⟩) (cs := stk) (m1 := ⟨out, col, putC ts ++ ⟨[], false, eDoc 5 []⟩ :: stk, [], brk⟩) rfl ?_ (s1.trans (hline _ _ hc (by rw [List.length_append]; omega)))⟩
    rw [doM_eq]
    show lineM o ⟨out, col, stk, putC ts, brk⟩ ⟨[], false, eDoc 5 []⟩ = _
    unfold lineM
    rw [if_pos (by unfold putC; simpa using hts)]
    rfl
def ItOk (it : Nat × Nat) : Prop := it.1 < 40 ∧ it.2 < 5
theorem suf_run (o : Opt) (hnl : o.nl = [10]) : ∀ (its : List (Nat × Nat)), (∀ it ∈ its, ItOk it) → ∀ (s : SS) (ts : List Ln) (col : Int) (brk : Int → Bool), ts.flatten = s.o → (∀ t ∈ ts, t ≠ []) → clean s.all → s.all.length + 10 * its.length ≤ 67000000 →
    ∃ ts' col', Steps o ⟨s.w ++ s.l, col, its.map (fun it => ⟨[], false, sufDoc it⟩), putC ts, brk⟩ ⟨(its.foldl SS.step s).w ++ (its.foldl SS.step s).l, col', [], putC ts', brk⟩ ∧ ts'.flatten = (its.foldl SS.step s).o ∧ (its.foldl SS.step s).all.length ≤ s.all.length + 10 * its.length
  | [], _, s, ts, col, brk, h1, _, _, _ => ⟨ts, col, .refl _, h1, by simp⟩
  | it :: its, hit, s, ts, col, brk, h1, h2, h3, h4 => by
    obtain ⟨hi, hp⟩ := hit it (by simp)
    obtain ⟨d1, d2, d3, d4, d5, d6⟩ := dec_ok hi
    have hall : s.all.length = s.w.length + s.l.length + s.o.length := by unfold SS.all; simp; omega
    have hlen : s.all.length + 10 * its.length + 10 ≤ 67000000 := by simp only [List.length_cons] at h4; omega
    -- one step, then the rest
    have go : ∀ (s2 : SS) (ts2 : List Ln) (col2 : Int), s.step it = s2 → Steps o ⟨s.w ++ s.l, col, ⟨[], false, sufDoc it⟩ :: its.map (fun it => ⟨[], false, sufDoc it⟩), putC ts, brk⟩ ⟨s2.w ++ s2.l, col2, its.map (fun it => ⟨[], false, sufDoc it⟩), putC ts2, brk⟩ → ts2.flatten = s2.o → (∀ t ∈ ts2, t ≠ []) → clean s2.all → s2.all.length ≤ s.all.length + 10 →
        ∃ ts' col', Steps o ⟨s.w ++ s.l, col, (it :: its).map (fun it => ⟨[], false, sufDoc it⟩), putC ts, brk⟩ ⟨((it :: its).foldl SS.step s).w ++ ((it :: its).foldl SS.step s).l, col', [], putC ts', brk⟩ ∧ ts'.flatten = ((it :: its).foldl SS.step s).o ∧ ((it :: its).foldl SS.step s).all.length ≤ s.all.length + 10 * (it :: its).length := by
      intro s2 ts2 col2 hs st k1 k2 k3 k4
      obtain ⟨ts', col', st', e1, e2⟩ := suf_run o hnl its (fun x hx => hit x (by simp [hx])) s2 ts2 col2 brk k1 k2 k3 (by omega)
      rw [List.foldl_cons, hs]
      refine ⟨ts', col', st.trans st', e1, ?_⟩
      simp only [List.length_cons]
      omega
    have hcs : it.2 = 0 ∨ (it.2 = 1 ∨ it.2 = 2) ∨ it.2 = 3 ∨ it.2 = 4 := by omega
    rcases hcs with hk | hk | hk | hk
    · refine go ⟨s.w, s.l ++ decL it.1, s.o⟩ ts (col + (widthB (strOf (decL it.1)) : Int)) (by unfold SS.step; rw [if_pos hk]) ?_ h1 h2 ?_ ?_
      · have hd : sufDoc it = tD (decL it.1) := by unfold sufDoc; rw [if_pos hk]
        rw [hd]
        refine .one (c := ⟨[], false, tD (decL it.1)⟩) (cs := its.map (fun it => ⟨[], false, sufDoc it⟩)) rfl ?_
        rw [doM_text _ _ _ _ _ (by show (s.w ++ s.l).length + (decL it.1).length ≤ _; rw [List.length_append]; omega)]
        simp
      · unfold SS.all at h3 ⊢
        intro c hc
        simp only [List.mem_append] at hc
        rcases hc with (hc | hc | hc) | hc
        · exact h3 c (by simp [hc])
        · exact h3 c (by simp [hc])
        · exact d4 c hc
        · exact h3 c (by simp [hc])
      · unfold SS.all; simp; unfold SS.all at hall; simp at hall; omega
    · refine go ⟨s.w, s.l, s.o ++ (60 :: decL it.1)⟩ (ts ++ [60 :: decL it.1]) col (by unfold SS.step; rw [if_neg (by omega), if_pos hk]) ?_ (by simp [h1]) ?_ ?_ ?_
      · have hd : sufDoc it = eDoc 14 [tD (60 :: decL it.1)] := by unfold sufDoc; rw [if_neg (by omega), if_pos hk]
        rw [hd]
        refine .one (c := ⟨[], false, eDoc 14 [tD (60 :: decL it.1)]⟩) (cs := its.map (fun it => ⟨[], false, sufDoc it⟩)) rfl ?_
        rw [doM_eq]
        show some (⟨s.w ++ s.l, col, its.map (fun it => ⟨[], false, sufDoc it⟩), putC ts ++ [⟨[], false, tD (60 :: decL it.1)⟩], brk⟩ : Mach) = _
        simp [putC]
      · intro t ht
        rcases List.mem_append.1 ht with ht | ht
        · exact h2 t ht
        · rw [List.mem_singleton] at ht
          subst ht
          simp
      · unfold SS.all at h3 ⊢
        intro c hc
        simp only [List.mem_append, List.mem_cons] at hc
        rcases hc with (hc | hc) | hc | hc | hc
        · exact h3 c (by simp [hc])
        · exact h3 c (by simp [hc])
        · exact h3 c (by simp [hc])
        · rw [hc]; decide
        · exact d4 c hc
      · unfold SS.all; simp; unfold SS.all at hall; simp at hall; omega
    · obtain ⟨c2, st⟩ := hard_run o hnl ts (s.w ++ s.l) col (its.map (fun it => ⟨[], false, sufDoc it⟩)) brk (sufDoc it) (by unfold sufDoc; rw [if_neg (by omega), if_neg (by omega), if_pos hk]) (by rw [h1]; exact h3) (by rw [h1, List.length_append]; omega)
      refine go s.nl [] c2 (by unfold SS.step; rw [if_neg (by omega), if_neg (by omega), if_pos hk]) ?_ rfl (by simp) ?_ ?_
      · rw [h1] at st
        show Steps o _ ⟨s.w ++ s.l ++ s.o ++ [10] ++ [], _, _, [], brk⟩
        rw [List.append_nil]
        exact st
      · unfold SS.nl SS.all at *
        intro c hc
        simp only [List.append_nil, List.mem_append, List.mem_singleton] at hc
        rcases hc with hc | hc
        · exact h3 c (by simp only [List.mem_append]; exact hc)
        · rw [hc]; decide
      · unfold SS.nl SS.all; simp; unfold SS.all at hall; simp at hall; omega
    · have hd : sufDoc it = eDoc 15 [] := by unfold sufDoc; rw [if_neg (by omega), if_neg (by omega), if_neg (by omega)]
      by_cases ho : s.o = []
      · have hts : ts = [] := by
          cases ts with
          | nil => rfl
          | cons a l =>
            have := h2 a (by simp)
            rw [ho] at h1
            simp only [List.flatten_cons, List.append_eq_nil_iff] at h1
            exact absurd h1.1 this
        subst hts
        refine go s [] col (by unfold SS.step; rw [if_neg (by omega), if_neg (by omega), if_neg (by omega), if_neg (by simpa using ho)]) ?_ h1 h2 h3 (by omega)
        rw [hd]
        refine .one (c := ⟨[], false, eDoc 15 []⟩) (cs := its.map (fun it => ⟨[], false, sufDoc it⟩)) rfl ?_
        rw [doM_eq]
        rfl
      · have hts : ts ≠ [] := by
          intro e
          rw [e] at h1
          exact ho h1.symm
        have hne : putC ts ≠ [] := by unfold putC; simpa using hts
        obtain ⟨c1, s1⟩ := put_run o ts (s.w ++ s.l) col (⟨[], false, eDoc 5 []⟩ :: its.map (fun it => ⟨[], false, sufDoc it⟩)) brk (by rw [h1, List.length_append]; omega)
        obtain ⟨c2, s2⟩ := hard_run o hnl [] (s.w ++ s.l ++ ts.flatten) c1 (its.map (fun it => ⟨[], false, sufDoc it⟩)) brk (eDoc 5 []) rfl (by rw [h1]; simpa [SS.all] using h3) (by rw [h1, List.length_append, List.length_append]; simp; omega)
        refine go s.nl [] c2 (by unfold SS.step; rw [if_neg (by omega), if_neg (by omega), if_neg (by omega), if_pos (by simpa using ho)]) ?_ rfl (by simp) ?_ ?_
        · rw [hd]
          refine .step (c := ⟨[], false, eDoc 15 []⟩) (cs := its.map (fun it => ⟨[], false, sufDoc it⟩)) (m1 := ⟨s.w ++ s.l, col, putC ts ++ ⟨[], false, eDoc 5 []⟩ :: its.map (fun it => ⟨[], false, sufDoc it⟩), [], brk⟩) rfl ?_ ?_
          · rw [doM_eq]
            show (if putC ts ≠ [] then lineM o ⟨s.w ++ s.l, col, its.map (fun it => ⟨[], false, sufDoc it⟩), putC ts, brk⟩ ⟨[], false, hardDoc⟩ else some _) = _
            rw [if_pos hne]
            unfold lineM
            rw [if_pos hne]
            rfl
          · refine s1.trans ?_
            rw [h1] at s2 ⊢
            show Steps o _ ⟨s.w ++ s.l ++ s.o ++ [10] ++ [], _, _, [], brk⟩
            simpa [putC] using s2
        · unfold SS.nl SS.all at *
          intro c hc
          simp only [List.append_nil, List.mem_append, List.mem_singleton] at hc
          rcases hc with hc | hc
          · exact h3 c (by simp only [List.mem_append]; exact hc)
          · rw [hc]; decide
        · unfold SS.nl SS.all; simp; unfold SS.all at hall; simp at hall; omega
def sufD (its : List (Nat × Nat)) : Doc := eDoc 2 (its.map sufDoc)
def sufOv : OptV := ⟨⟨9, 2, false, false⟩, false, false, false, false, false⟩
def s0 : SS := ⟨[], [], []⟩
theorem suf_each {it : Nat × Nat} (h : ItOk it) : (sufDoc it).shape = true ∧ (sufDoc it).bulk ≤ 10 ∧ (sufDoc it).depth ≤ 2 := by
  obtain ⟨d1, d2, d3, d4, d5, d6⟩ := dec_ok h.1
  unfold sufDoc
  split
  · exact ⟨d1, d5, by rw [Doc.depth_eq]; exact Nat.le_succ 1⟩
  · split
    · exact ⟨d2, d6, by rw [Doc.depth_eq]; exact Nat.le_refl _⟩
    · split
      · decide +kernel
      · decide +kernel
theorem suf_bulk {its : List (Nat × Nat)} (h : ∀ it ∈ its, ItOk it) (hl : its.length ≤ 40) : (sufD its).bulk ≤ 1000 := by
  have h1 := bulkL_of (ks := its.map sufDoc) (n := 10) (fun x hx => by obtain ⟨it, hi, rfl⟩ := List.mem_map.1 hx; exact (suf_each (h it hi)).2.1)
  have h3 : (sufD its).bulk = bulkL (its.map sufDoc) + 0 + 1 := Doc.bulk_eq _
  rw [List.length_map] at h1
  omega
theorem suf_lay (its : List (Nat × Nat)) (h : ∀ it ∈ its, ItOk it) (hl : its.length ≤ 40) : laidB (sufD its) sufOv.o (its.foldl SS.step s0).all = true := by
  have hc : (sufD its).code = 0 := by
    refine word_code ?_ ?_
    · rw [Doc.shape_eq, Bool.and_eq_true]
      exact ⟨rfl, shapeL_of fun x hx => by obtain ⟨it, hi, rfl⟩ := List.mem_map.1 hx; exact (suf_each (h it hi)).1⟩
    · have h1 := depthL_of (ks := its.map sufDoc) (n := 2) (fun x hx => by obtain ⟨it, hi, rfl⟩ := List.mem_map.1 hx; exact (suf_each (h it hi)).2.2)
      have h2 : (sufD its).depth = depthL (its.map sufDoc) + 1 := Doc.depth_eq _
      omega
  obtain ⟨ts, col, st, e1, e2⟩ := suf_run sufOv.o rfl its h s0 [] 0 (fun _ => false) rfl (by simp) (by intro c hc; simp [s0, SS.all] at hc) (by simp [s0, SS.all]; omega)
  have hst : Steps sufOv.o (startM (sufD its)) ⟨(its.foldl SS.step s0).w ++ (its.foldl SS.step s0).l, col, [], putC ts, fun _ => false⟩ := by
    refine .step (c := ⟨[], false, sufD its⟩) (cs := []) (m1 := ⟨[], 0, its.map (fun it => ⟨[], false, sufDoc it⟩), [], fun _ => false⟩) rfl ?_ st
    rw [doM_eq]
    show some (pushM ⟨[], 0, [], [], fun _ => false⟩ [] false (its.map sufDoc)) = _
    simp [pushM]
  have hlen : (its.foldl SS.step s0).all.length ≤ 400 := by have h0 : s0.all.length = 0 := rfl; rw [h0] at e2; omega
  by_cases hts : ts = []
  · subst hts
    have : (its.foldl SS.step s0).all = (its.foldl SS.step s0).w ++ (its.foldl SS.step s0).l := by unfold SS.all; rw [← e1]; simp
    rw [this]
    exact laid_of (Steps.lay rfl hc hst rfl rfl)
  · obtain ⟨c2, s2⟩ := put_run sufOv.o ts ((its.foldl SS.step s0).w ++ (its.foldl SS.step s0).l) col [] (fun _ => false) (by rw [e1]; unfold SS.all at hlen; simp at hlen ⊢; omega)
    have hfl : Steps sufOv.o ⟨(its.foldl SS.step s0).w ++ (its.foldl SS.step s0).l, col, [], putC ts, fun _ => false⟩ ⟨(its.foldl SS.step s0).w ++ (its.foldl SS.step s0).l ++ ts.flatten, c2, [], [], fun _ => false⟩ :=
      .flush rfl (by unfold putC; simpa using hts) s2
    have := Steps.lay (sufOv.o |> fun _ => (rfl : optOk sufOv.o = true)) hc (hst.trans hfl) rfl rfl
    rw [e1] at this
    exact laid_of this
theorem step_len {it : Nat × Nat} (h : ItOk it) (s : SS) : (s.step it).all.length ≤ s.all.length + 10 := by
  obtain ⟨d1, d2, d3, d4, d5, d6⟩ := dec_ok h.1
  have hall : s.all.length = s.w.length + s.l.length + s.o.length := by unfold SS.all; simp; omega
  unfold SS.step
  split
  · unfold SS.all; simp; omega
  · split
    · unfold SS.all; simp; omega
    · split
      · unfold SS.nl SS.all; simp; omega
      · split
        · unfold SS.nl SS.all; simp; omega
        · omega
theorem fold_len : ∀ (its : List (Nat × Nat)), (∀ it ∈ its, ItOk it) → ∀ s : SS, (its.foldl SS.step s).all.length ≤ s.all.length + 10 * its.length
  | [], _, s => by simp
  | it :: its, h, s => by
    have h1 := step_len (h it (by simp)) s
    have h2 := fold_len its (fun x hx => h x (by simp [hx])) (s.step it)
    rw [List.foldl_cons, List.length_cons]
    omega
def sufIts (zs : List Int) : List (Nat × Nat) := (List.range (min 40 zs.length)).map fun i => (i, (IntKind.u64.wrap (zs.getD i 0)).toNat % 5)
theorem mk_its (zs : List Int) : (sufIts zs).length = min 40 zs.length ∧ (∀ it ∈ sufIts zs, ItOk it) ∧ ∀ j (hj : j < (sufIts zs).length), (sufIts zs)[j] = (j, (IntKind.u64.wrap (zs.getD j 0)).toNat % 5) := by
  refine ⟨by simp [sufIts], fun it hk => ?_, fun j hj => ?_⟩
  · unfold sufIts at hk
    obtain ⟨i, hi, rfl⟩ := List.mem_map.1 hk
    have := List.mem_range.1 hi
    exact ⟨by show i < 40; omega, by show _ % 5 < 5; omega⟩
  · simp [sufIts]
theorem suf_laid (its : List (Nat × Nat)) (h : ∀ it ∈ its, ItOk it) (hl : its.length ≤ 40) (kv : Value) (S : ByteArray) (hS : S = strOf (its.foldl SS.step s0).all) (W : World) (hi : InW W (sufD its) kv) (hT : Tabs W) :
    Calls Tryd.prog 25 #[docV (sufD its) kv, .agg sufOv.cells.toArray, .string S] W fun e w' => e = .returned (.bool true) ∧ Below W.heap.size W w' := by
  have h2 := laid_any (sufD its) kv sufOv (its.foldl SS.step s0).all W hi (by have := suf_bulk h hl; omega) hT
  rw [suf_lay its h hl, ← hS] at h2
  exact h2
structure SufJ (its : List (Nat × Nat)) (j : Nat) (l : List (Doc × Value)) (SW SL SO : ByteArray) : Prop where
  w : SW = strOf ((its.take j).foldl SS.step s0).w
  ll : SL = strOf ((its.take j).foldl SS.step s0).l
  o : SO = strOf ((its.take j).foldl SS.step s0).o
  l : l.map Prod.fst = (its.take j).map sufDoc
theorem SufJ.sizes {its : List (Nat × Nat)} {j : Nat} {l : List (Doc × Value)} {SW SL SO : ByteArray} (h : SufJ its j l SW SL SO) (hk : ∀ it ∈ its, ItOk it) (hj : j ≤ 40) : SW.size ≤ 400 ∧ SL.size ≤ 400 ∧ SO.size ≤ 400 ∧ l.length ≤ 40 := by
  have h4 : ∀ it ∈ its.take j, ItOk it := fun it hk' => hk it (List.mem_of_mem_take hk')
  have hlen : (its.take j).length ≤ j := by rw [List.length_take]; omega
  have hs := fold_len _ h4 s0
  have h0 : s0.all.length = 0 := rfl
  rw [h0] at hs
  have hall : ((its.take j).foldl SS.step s0).all.length = ((its.take j).foldl SS.step s0).w.length + ((its.take j).foldl SS.step s0).l.length + ((its.take j).foldl SS.step s0).o.length := by unfold SS.all; simp; omega
  refine ⟨?_, ?_, ?_, ?_⟩
  · rw [h.w, strOf_size]; omega
  · rw [h.ll, strOf_size]; omega
  · rw [h.o, strOf_size]; omega
  · have h1 := congrArg List.length h.l
    rw [List.length_map, List.length_map] at h1
    omega
theorem SufJ.next {its : List (Nat × Nat)} {j : Nat} {l : List (Doc × Value)} {SW SL SO : ByteArray} (h : SufJ its j l SW SL SO) (hj : j < its.length) {it : Nat × Nat} (hit : its[j] = it) {SW' SL' SO' : ByteArray} (kv : Value)
    (hs : ∀ s : SS, SW = strOf s.w → SL = strOf s.l → SO = strOf s.o → SW' = strOf (s.step it).w ∧ SL' = strOf (s.step it).l ∧ SO' = strOf (s.step it).o) : SufJ its (j + 1) (l ++ [(sufDoc it, kv)]) SW' SL' SO' := by
  have ht : its.take (j + 1) = its.take j ++ [it] := by rw [List.take_succ_eq_append_getElem hj, hit]
  obtain ⟨a, b, c⟩ := hs _ h.w h.ll h.o
  have hf : (its.take (j + 1)).foldl SS.step s0 = ((its.take j).foldl SS.step s0).step it := by rw [ht, List.foldl_append]; rfl
  exact ⟨by rw [hf]; exact a, by rw [hf]; exact b, by rw [hf]; exact c, by rw [List.map_append, h.l, ht, List.map_append]; rfl⟩
theorem strOf_inj0 {l : Ln} : (strOf l).toList = l := by rw [ByteArray.toList_eq, strOf_list]
set_option maxHeartbeats 16000000 in
theorem layoutSuffixes_call (v : Value) (zs : List Int) (w : World) (hv : IntsIn w w.heap.size v zs) (hwf : ∀ n ∈ zs, (Lit.int .i64 n).wf = true) (hm : zs.length ≤ maxLen) (hT : Tabs w) :
    Calls Tryd.prog 6 #[v] w fun e w' => e = .returned (.bool true) ∧ Below w.heap.size w w' := by
  have hm9 : zs.length ≤ 9223372036854775807 := by unfold maxLen at hm; omega
  clear hm
  obtain ⟨A, c, rfl⟩ := hv.len
  have HT := Lib.hid hT
  have HV := Lib.hid hv
  obtain ⟨its, hks⟩ : ∃ its, its = sufIts zs := ⟨_, rfl⟩
  obtain ⟨m1, m2, m3⟩ := mk_its zs
  rw [← hks] at m1 m2 m3
  have M2 := Lib.hid m2
  have M3 := Lib.hid m3
  obtain ⟨n, hn⟩ : ∃ n, n = zs.length := ⟨_, rfl⟩
  have hkl : its.length = min 40 n := by rw [hn]; exact m1
  have HN := Lib.hid hn
  rw [← hn]
  rw [← hn] at hm9
  clear hT hv hwf hks m1 m2 m3 hn
  go_enter Tryd.func6, Tryd.ntmps6
  go_wp2_with fail
  refine (awake17_any w HT.out).mono ?_
  rintro e w1 ⟨rfl, hb1⟩
  have HB := Lib.hid hb1
  clear hb1
  go_wp2_with fail
  go_loopw [3, 4, 5, 6, 7] (fun ds sl so sw i wr => ∃ (j : Nat) (l : List (Doc × Value)) (SW SL SO : ByteArray), j ≤ its.length ∧ i = .int .i64 (j : Int) ∧ sl = .string SL ∧ so = .string SO ∧ sw = .string SW ∧ RowKit.Hid (SufJ its j l SW SL SO) ∧ Row wr w.heap.size l ds ∧ Below w.heap.size w wr) (fun _ _ _ _ i _ => 40 - (intOf i).toNat)
  case atStart => exact ⟨0, [], ⟨#[]⟩, ⟨#[]⟩, ⟨#[]⟩, Nat.zero_le _, rfl, rfl, rfl, rfl, Lib.hid ⟨rfl, rfl, rfl, rfl⟩, RowD.nil _ _, HB.out⟩
  case round =>
    obtain ⟨j, l, SW, SL, SO, hj, rfl, rfl, rfl, rfl, HJ, hrow, hbw⟩ := hrel
    have HROW := Lib.hid hrow
    have HBW := Lib.hid hbw
    obtain ⟨A1, c1, rfl⟩ := hrow.slice
    obtain ⟨z1, z2, z3, z4⟩ := HJ.out.sizes M2.out (by omega)
    clear hrow hbw
    by_cases hlt : j < its.length
    · have hjn : j < n := by omega
      have hj8 : j < 40 := by omega
      rcases HV.out.below HBW.out (Nat.le_refl _) with ⟨A', c', e, hz⟩ | ⟨b, off, c', e, hltb, hpos, hc⟩
      · have := HN.out
        rw [hz] at this
        simp at this
        omega
      injection e with e1 e2 e3
      subst e1
      subst e3
      have c0 := hc j (by rw [← HN.out]; exact hjn)
      have hzq := M3.out j hlt
      generalize hz0e : zs.getD j 0 = z at c0 hzq
      obtain ⟨u, hu⟩ := u64_natF z
      rw [hu] at hzq
      obtain ⟨q, hq, hq30⟩ : ∃ q : Nat, (u : Int) % 5 = (q : Int) ∧ q < 5 := ⟨u % 5, by omega, by omega⟩
      have hkj : its[j] = (j, q) := by rw [hzq]; congr 1; omega
      have HKJ := Lib.hid hkj
      have hdl := (dec_ok hj8).2.2.1
      have HDC := Lib.hid (fun (W : World) => decimal_any (j : Int) (by omega) (by omega) W)
      obtain ⟨DV, hDV⟩ : ∃ DV : ByteArray, DV = ⟨(decB (j : Int)).toArray⟩ := ⟨_, rfl⟩
      rw [← hDV] at HDC
      have hdv : DV.size ≤ 3 := by rw [hDV]; exact (strOf_size (decL j)) ▸ hdl
      have HDV : Hid (DV = strOf (decL j)) := Lib.hid hDV
      clear hc hz0e hzq hkj e2 hpos hltb hDV hdl
      have hk1 : (j : Int) < (n : Int) := by omega
      have hk2 : (j : Int) < 40 := by omega
      go_upto_region 9 with (go_at_call 22; refine (HDC.out _).mono ?_; rintro e w2 ⟨rfl, hb2⟩; have HB2 := Lib.hid hb2; clear hb2)
      have c0' : w2.cell? ⟨b, off + j, none⟩ = some (.int .i64 z) := (HB2.out.cell (World.block_lt_of_cell? _ _ c0)).trans c0
      have HRW := Lib.hid (HROW.out.next HB2.out)
      have HBW2 := Lib.hid (HBW.out.call HB2.out)
      clear c0
      go_upto_region 14 with fail
      have hq5 : q = 0 ∨ (q = 1 ∨ q = 2) ∨ q = 3 ∨ q = 4 := by omega
      have hBz := HBW2.out.size
      rw [hq]
      clear hq hu hq30 c0'
      rcases hq5 with rfl | hq12 | rfl | rfl
      · have HNX := Lib.hid (HJ.out.next hlt HKJ.out (SW' := SW) (SL' := SL ++ DV) (SO' := SO) (.slice none 0 0) (fun s a b c => ⟨a, by rw [b, HDV.out, strOf_append]; rfl, c⟩))
        rw [show sufDoc (j, 0) = dtext (strOf (decL j)) from rfl, ← HDV.out] at HNX
        go_wp2_with (first | (go_at_call 21; refine (text17_any _ _).mono ?_; rintro e w4 ⟨rfl, hb4⟩; have HB4 := Lib.hid hb4; clear hb4; unfold docV; simp only [dtext, Doc.kind, Doc.text, Doc.brk, Doc.id, Doc.width]) | (at_builtin; refine wpList_append_kid (w := w) (K := dtext DV) (kv := .slice none 0 0) rfl (.tmp 43) (.tmp 46) rfl (HRW.out.next HB4.out) (Nat.le_trans hBz HB4.out.size) (HBW2.out.call HB4.out) (KidOk.leaf (Nat.le_trans hBz HB4.out.size) rfl) rfl rfl (by omega) rfl ?_; intro gg cap W' hrow' hbw' hkd' hbl' hsz'; have HR2 := Lib.hid hrow'; have HB3 := Lib.hid hbw'; clear hrow' hbw' hkd' hbl' hsz'))
        go_roundw
        case rel => exact ⟨j + 1, _, SW, SL ++ DV, SO, by omega, by go_num, rfl, rfl, rfl, HNX, by have := HR2.out; simpa using this, HB3.out⟩
        case measure => simp only [intOf]; omega
      · have HQ : Hid (sufDoc (j, q) = eDoc 14 [dtext ((⟨#[60]⟩ : ByteArray) ++ DV)]) := Lib.hid (by
          have e : (⟨#[60]⟩ : ByteArray) ++ DV = strOf (60 :: decL j) := by rw [HDV.out, show (⟨#[60]⟩ : ByteArray) = strOf [60] from rfl, strOf_append]; rfl
          rw [e]
          unfold sufDoc
          rw [if_neg (show ¬ q = 0 by omega), if_pos hq12]
          rfl)
        have HSX := Lib.hid (fun kv => HJ.out.next hlt HKJ.out (SW' := SW) (SL' := SL) (SO' := SO ++ ⟨#[60]⟩ ++ DV) kv (fun s a b c => by
          have e : s.step (j, q) = ⟨s.w, s.l, s.o ++ (60 :: decL j)⟩ := by unfold SS.step; rw [if_neg (show ¬ q = 0 by omega), if_pos hq12]
          rw [e]
          exact ⟨a, b, by rw [c, HDV.out, show (⟨#[60]⟩ : ByteArray) = strOf [60] from rfl, strOf_append, strOf_append]; simp⟩))
        rw [HQ.out] at HSX
        rcases hq12 with rfl | rfl
        all_goals
          go_upto_region 20 with (first | (go_at_call 21; refine (text17_any _ _).mono ?_; rintro e w3 ⟨rfl, hb3⟩; have HB3' := Lib.hid hb3; clear hb3; have HOF := Lib.hid (of_any 14 (dtext ((⟨#[60]⟩ : ByteArray) ++ DV)) (.slice none 0 0) w3 ⟨none, 0, rfl⟩); unfold docV at HOF ⊢; simp only [dtext, Doc.kind, Doc.text, Doc.brk, Doc.id, Doc.width] at HOF ⊢) | (go_at_call 23; refine HOF.out.mono ?_; rintro e w4 ⟨g4, rfl, hb4, hge4, hbk4⟩; have HB4 := Lib.hid hb4; have HGE := Lib.hid hge4; have HBK := Lib.hid hbk4; clear hb4 hge4 hbk4 HOF; try simp only [eDoc, Doc.kind, Doc.text, Doc.brk, Doc.id, Doc.width]) | (at_builtin; refine wpList_append_kid (w := w) (K := eDoc 14 [dtext ((⟨#[60]⟩ : ByteArray) ++ DV)]) (kv := .slice (some ⟨g4, 0, none⟩) 1 1) rfl (.tmp 54) (.tmp 59) rfl ((HRW.out.next HB3'.out).next HB4.out) (Nat.le_trans hBz (Nat.le_trans HB3'.out.size HB4.out.size)) ((HBW2.out.call HB3'.out).call HB4.out) (KidOk.fresh HRW.out hBz (lo := w2.heap.size) (hi := w4.heap.size) (Nat.le_refl _) (Nat.le_refl _) (kg_made (cap := 1) [(dtext ((⟨#[60]⟩ : ByteArray) ++ DV), .slice none 0 0)] HBK.out (by intro p hp; rw [List.mem_singleton] at hp; subst hp; exact kg_nil rfl) (Nat.le_trans HB3'.out.size HGE.out) HBK.out.lt rfl (by simp))) rfl rfl (by omega) rfl ?_; intro gg cap W' hrow' hbw' hkd' hbl' hsz'; have HR2 := Lib.hid hrow'; have HB3 := Lib.hid hbw'; clear hrow' hbw' hkd' hbl' hsz'))
          have HNX := Lib.hid (HSX.out (.slice (some ⟨g4, 0, none⟩) 1 1))
          go_wp2_with fail
          go_roundw
          case rel => exact ⟨j + 1, _, SW, SL, SO ++ ⟨#[60]⟩ ++ DV, by omega, by go_num, rfl, rfl, rfl, HNX, by have := HR2.out; simpa using this, HB3.out⟩
          case measure => simp only [intOf]; omega
      · have HNX := Lib.hid (HJ.out.next hlt HKJ.out (SW' := SW ++ SL ++ SO ++ ⟨#[10]⟩) (SL' := ⟨#[]⟩) (SO' := ⟨#[]⟩) (.slice none 0 0) (fun s a b c => ⟨by rw [a, b, c, show (⟨#[10]⟩ : ByteArray) = strOf [10] from rfl, strOf_append, strOf_append, strOf_append]; rfl, rfl, rfl⟩))
        rw [show sufDoc (j, 3) = eDoc 5 [] from rfl] at HNX
        go_wp2_with (first | (go_at_call 24; refine (leaf_any _ _).mono ?_; rintro e w4 ⟨rfl, hb4⟩; have HB4 := Lib.hid hb4; clear hb4; unfold docV; simp only [eDoc, Doc.kind, Doc.text, Doc.brk, Doc.id, Doc.width]) | (at_builtin; refine wpList_append_kid (w := w) (K := eDoc 5 []) (kv := .slice none 0 0) rfl (.tmp 67) (.tmp 69) rfl (HRW.out.next HB4.out) (Nat.le_trans hBz HB4.out.size) (HBW2.out.call HB4.out) (KidOk.leaf (Nat.le_trans hBz HB4.out.size) rfl) rfl rfl (by omega) rfl ?_; intro gg cap W' hrow' hbw' hkd' hbl' hsz'; have HR2 := Lib.hid hrow'; have HB3 := Lib.hid hbw'; clear hrow' hbw' hkd' hbl' hsz'))
        go_roundw
        case rel => exact ⟨j + 1, _, _, _, _, by omega, by go_num, rfl, rfl, rfl, HNX, by have := HR2.out; simpa using this, HB3.out⟩
        case measure => simp only [intOf]; omega
      · have HE : Hid (SO.toList.isEmpty = true ∧ SufJ its (j + 1) (l ++ [(eDoc 15 [], .slice none 0 0)]) SW SL SO ∨ SO.toList.isEmpty = false ∧ SufJ its (j + 1) (l ++ [(eDoc 15 [], .slice none 0 0)]) (SW ++ SL ++ SO ++ ⟨#[10]⟩) ⟨#[]⟩ ⟨#[]⟩) := Lib.hid (by
          have ho := HJ.out.o
          by_cases h0 : ((its.take j).foldl SS.step s0).o = []
          · refine .inl ⟨by rw [ho, strOf_inj0, h0]; rfl, HJ.out.next hlt HKJ.out (.slice none 0 0) (fun s a b c => ?_)⟩
            have hso : s.o = [] := by
              have h2 : (strOf s.o).toList = (strOf ((its.take j).foldl SS.step s0).o).toList := by rw [← c, ← ho]
              rw [strOf_inj0, strOf_inj0, h0] at h2
              exact h2
            have e : s.step (j, 4) = s := by
              unfold SS.step
              rw [if_neg (show ¬ (4 : Nat) = 0 by decide), if_neg (show ¬ ((4 : Nat) = 1 ∨ (4 : Nat) = 2) by decide), if_neg (show ¬ (4 : Nat) = 3 by decide), if_neg (by simpa using hso)]
            rw [e]
            exact ⟨a, b, c⟩
          · refine .inr ⟨by
              rw [ho, strOf_inj0]
              cases hq : ((its.take j).foldl SS.step s0).o with
              | nil => exact absurd hq h0
              | cons a l => rfl, HJ.out.next hlt HKJ.out (.slice none 0 0) (fun s a b c => ?_)⟩
            have hso : s.o ≠ [] := by
              intro h3
              have h2 : (strOf s.o).toList = (strOf ((its.take j).foldl SS.step s0).o).toList := by rw [← c, ← ho]
              rw [strOf_inj0, strOf_inj0, h3] at h2
              exact h0 h2.symm
            have e : s.step (j, 4) = s.nl := by
              unfold SS.step
              rw [if_neg (show ¬ (4 : Nat) = 0 by decide), if_neg (show ¬ ((4 : Nat) = 1 ∨ (4 : Nat) = 2) by decide), if_neg (show ¬ (4 : Nat) = 3 by decide), if_pos hso]
            rw [e]
            exact ⟨by rw [a, b, c, show (⟨#[10]⟩ : ByteArray) = strOf [10] from rfl, strOf_append, strOf_append, strOf_append]; rfl, rfl, rfl⟩)
        go_upto_region 11 with (first | (go_at_call 24; refine (leaf_any _ _).mono ?_; rintro e w4 ⟨rfl, hb4⟩; have HB4 := Lib.hid hb4; clear hb4; unfold docV; simp only [eDoc, Doc.kind, Doc.text, Doc.brk, Doc.id, Doc.width]) | (at_builtin; refine wpList_append_kid (w := w) (K := eDoc 15 []) (kv := .slice none 0 0) rfl (.tmp 29) (.tmp 31) rfl (HRW.out.next HB4.out) (Nat.le_trans hBz HB4.out.size) (HBW2.out.call HB4.out) (KidOk.leaf (Nat.le_trans hBz HB4.out.size) rfl) rfl rfl (by omega) rfl ?_; intro gg cap W' hrow' hbw' hkd' hbl' hsz'; have HR2 := Lib.hid hrow'; have HB3 := Lib.hid hbw'; clear hrow' hbw' hkd' hbl' hsz'))
        rcases HE.out with ⟨hse, hnx⟩ | ⟨hse, hnx⟩
        all_goals
          have HNX := Lib.hid hnx
          clear hnx
          go_wp2_with fail
          go_roundw
          case rel => exact ⟨j + 1, _, _, _, _, by omega, by go_num, rfl, rfl, rfl, HNX, by have := HR2.out; simpa using this, HB3.out⟩
          case measure => simp only [intOf]; omega
    · have hjk : j = its.length := by omega
      have HG1 : Hid (SufJ its its.length l SW SL SO) := Lib.hid (by rw [← hjk]; exact HJ.out)
      have hex : ¬ (j : Int) < (n : Int) ∨ ((j : Int) < (n : Int) ∧ ¬ (j : Int) < 40) := by omega
      have HL8 : Hid (its.length ≤ 40) := Lib.hid (by omega)
      have HIN : Hid (InW wr (sufD its) (.slice A1 l.length c1)) := Lib.hid (HROW.out.inW (by rw [HG1.out.l, List.take_length]; rfl))
      have HWT : Hid (SW ++ SL ++ SO = strOf (its.foldl SS.step s0).all) := Lib.hid (by rw [HG1.out.w, HG1.out.ll, HG1.out.o, List.take_length, strOf_append, strOf_append]; rfl)
      have HLD := Lib.hid (fun (W : World) (hi : InW W (sufD its) (.slice A1 l.length c1)) (hT : Tabs W) => suf_laid its M2.out HL8.out (.slice A1 l.length c1) (SW ++ SL ++ SO) HWT.out W hi hT)
      clear hkl hjk hlt hj
      rcases hex with h1 | ⟨h1, h2⟩
      all_goals
        go_wp2_with fail
        refine (cat_any (its.map sufDoc) _ _ _ _).mono ?_
        rintro e w3 ⟨rfl, hb3⟩
        have HIN3 := Lib.hid (HIN.out.next hb3)
        have HB3 := Lib.hid (HBW.out.call hb3)
        clear hb3
        unfold docV
        simp only [eDoc, Doc.kind, Doc.text, Doc.brk, Doc.id, Doc.width]
        go_wp2_with fail
        refine (HLD.out _ HIN3.out (HT.out.below HB3.out)).mono ?_
        rintro e w9 ⟨rfl, hb9⟩
        have HB9 := Lib.hid (HB3.out.call hb9)
        clear hb9
        go_wp2_with fail
        go_ret
        exact ⟨rfl, HB9.out⟩

/-- What the walk gives, for every argument. -/
theorem layoutSuffixes_contract (H : Type) (enc : TypeId × Value → H) (W : World) (base : Nat) (args : Array Value) (ds gs : List (DataW H)) (before : List MemPlace)
    (hval : ∀ (j : Nat) t v, Tryd.f6.params[j]? = some t → args[j]? = some v → Value.okWide Tryd.prog W .any base t v)
    (hW : DataW.Whole enc Tryd.prog Tryd.f6.params.toList Rows.layoutSuffixesSpec.vars false W args.toList ds gs before)
    (hsz : (DataW.weightsEach Tryd.prog (Tryd.f6.params.toList ++ Rows.layoutSuffixesSpec.plain.varTypes Tryd.prog) (ds ++ gs)).all (· ≤ reachBytes) = true) (hT : Tabs W) :
    Calls Tryd.prog 6 args W fun e W' => ∃ v, e = .returned v ∧ Rows.layoutSuffixesSpec.post enc Tryd.prog Tryd.f6 false true false false W args v W' := by
  have hW' := hW
  obtain ⟨p, q, hA0, hV, rfl, hfz, hnd⟩ := hW
  have hA : DataW.TrodAll enc Tryd.prog W 0 (fun _ => true) true Tryd.f6.params.toList args.toList ds p := hA0
  rw [Tryd.params6] at hA hval hsz
  obtain ⟨v0, vs0, d0, ds0, p0, q0, hargs, rfl, rfl, h0, r0⟩ := trodAll_cons hA
  obtain ⟨rfl, rfl, rfl⟩ := trodAll_nil r0
  obtain rfl : args = #[v0] := by cases args; simp_all
  obtain ⟨rfl, rfl⟩ := trodVars_none hV
  have hlt := fun x hx => hW'.lt x hx
  obtain ⟨z0, i0, w0, m0⟩ := ints_open Tryd.underlying37 Tryd.underlying3 (by kernel_rfl) (hval 0 37 v0 rfl rfl) h0
  clear hA0 hval
  refine (layoutSuffixes_call v0 z0 W i0 w0 m0 hT).mono fun e W' ⟨he, hb⟩ => ?_
  subst he
  exact ⟨_, rfl, law_post_any (pv := []) Tryd.underlying4 (by kernel_rfl) hW' rfl (trodAll_cons_mk (Below.trod laidOut (by kernel_rfl) (of_decide_eq_true (by kernel_rfl)) h0 hb (fun x hx => hlt x (by simp [hx]))) trodAll_mk0) rfl hb⟩

theorem layoutSuffixes_reads (os : Os) {H : Type} (enc : TypeId × Value → H) : ∃ places, DataW.whole enc Tryd.prog ((laidWorld os).forCall (fun _ _ => 0) ⟨#[], #[.slice none 0 0], []⟩).memory Tryd.f6.params.toList Rows.layoutSuffixesSpec.vars false (#[.slice none 0 0] : Array Value).toList 8 = some ([.nil], [], places) :=
  ⟨[], by kernel_rfl⟩
theorem layoutSuffixes_lifted (os : Os) (started : os.Started) (H : Type) (enc : TypeId × Value → H) (F : Stop.Interp) :
    ReturnsInHanded {} Tryd.checked os 6 .any ((OpenSpec.ofChange Rows.layoutSuffixesSpec).preRow enc Tryd.prog Tryd.f6 Rows.layoutSuffixesRow.domain false Rows.layoutSuffixesRow.laid) (((OpenSpec.ofChange Rows.layoutSuffixesSpec).at F).post enc Tryd.prog Tryd.f6 false true false false) := by
  obtain ⟨places, hx⟩ := layoutSuffixes_reads os enc
  refine returnsInHanded_of_row (C := Tryd.checked) (s := (OpenSpec.ofChange Rows.layoutSuffixesSpec)) ownKnob_none started (by kernel_rfl) Tryd.func6
    (witness_row_at (enc := enc) (C := Tryd.checked) false (laidWorld os) #[.slice none 0 0] rfl (by kernel_rfl) (by kernel_rfl) (by kernel_rfl)
      (OpenSpec.preRow_of_cond 8 hx (by kernel_rfl) (fun k hk => by cases hk) (by kernel_rfl) (laid_met os _))) ?_
  intro W base args ds gs before hval hW _ _ hsz hL _ _
  exact layoutSuffixes_contract H enc W base args ds gs before hval hW hsz (tabs_of_laid hL)
theorem layoutSuffixes_said : Rows.LayoutSuffixesSaid :=
  OpenClaim.holds_of_cond 6 Tryd.f6 rfl rfl rfl rfl rfl rfl rfl ⟨rfl, rfl, rfl, rfl, rfl⟩ rfl rfl rfl rfl rfl (by kernel_rfl) Tryd.func6 (by kernel_rfl)
    (of_decide_eq_true (by kernel_rfl)) (by unfold Func.isWrapper; first | (rw [if_pos (by decide +kernel)]; kernel_rfl) | (rw [if_neg (by decide +kernel)]; exact ⟨rfl, rfl⟩))
    (fun os started H enc _ F => by rw [OpenClaim.pre_eq_preRow]; exact layoutSuffixes_lifted os started H enc F)
theorem layoutSuffixes_plain (f : FuncId) (fn : Func) (hf : Tryd.pinned.checked.prog.funcNamed Rows.layoutSuffixesRow.func = some f) (hfn : Tryd.pinned.checked.prog.funcs[f]? = some fn) :
    true = Tryd.pinned.checked.prog.looks [] ∧ ∀ (j : Nat) t, fn.params[j]? = some t → Tryd.pinned.checked.prog.wantsStandIn t = false := by
  obtain rfl : f = 6 := Option.some.inj ((show Tryd.prog.funcNamed Rows.layoutSuffixesRow.func = some 6 by kernel_rfl).symm.trans hf) |>.symm
  obtain rfl : fn = Tryd.f6 := (Option.some.inj (Tryd.func6.symm.trans hfn)).symm
  refine ⟨by kernel_rfl, fun j t ht => ?_⟩
  rw [Tryd.params6] at ht
  have hm := Array.mem_of_getElem? ht
  have hall : ∀ t ∈ (#[37] : Array TypeId), Tryd.prog.wantsStandIn t = false := by
    intro t ht
    simp only [List.mem_toArray, List.mem_cons, List.mem_nil_iff, or_false] at ht
    rcases ht with rfl
    all_goals kernel_rfl
  exact hall t hm

/-- THE CARD. -/
theorem layoutSuffixes_card : Rows.LayoutSuffixesCardSaid :=
  Claim7.holds_tied_plain_at .later [] _ _ _ _ layoutSuffixes_said (fun _ h => by cases h) (by kernel_rfl) (fun _ h => by cases h) layoutSuffixes_row_tie rfl ⟨rfl, rfl⟩ (by kernel_rfl) rfl layoutSuffixes_plain (by kernel_rfl)
#print axioms layoutSuffixes_card
end Go.Proofs.YthljgiimdcbfpaaDoor
