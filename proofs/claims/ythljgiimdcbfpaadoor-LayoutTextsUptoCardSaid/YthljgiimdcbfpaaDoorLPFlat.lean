/- Chapter 17 in plain words: what is quiet and flat comes out as its flat text; it fits just where its width does. -/
import Derived.Test.YthljgiimdcbfpaaDoorLPSteps
namespace Go.Proofs.YthljgiimdcbfpaaDoor
open Go.RowKit
set_option maxRecDepth 100000
set_option linter.unusedVariables false
set_option linter.unusedSimpArgs false

mutual
/-- No suffix, no boundary, nothing that asks an ID. -/
def Doc.quiet : Doc → Bool
  | .mk k _ ks _ i _ => !(k == 14 || k == 15 || k == 12 || (k == 10 && decide (0 < i))) && quietL ks
def quietL : List Doc → Bool
  | [] => true
  | d :: ds => d.quiet && quietL ds
end
theorem Doc.quiet_eq (d : Doc) : d.quiet = (!(d.kind == 14 || d.kind == 15 || d.kind == 12 || (d.kind == 10 && decide (0 < d.id))) && quietL d.kids) := by cases d; rfl
theorem quietL_mem {ks : List Doc} (h : quietL ks = true) : ∀ x ∈ ks, x.quiet = true := by
  induction ks with
  | nil => intro x hx; cases hx
  | cons a l ih =>
    simp only [quietL, Bool.and_eq_true] at h
    intro x hx
    rcases List.mem_cons.1 hx with rfl | hx
    · exact h.1
    · exact ih h.2 x hx
theorem quietL_of {ks : List Doc} (h : ∀ x ∈ ks, x.quiet = true) : quietL ks = true := by
  induction ks with
  | nil => rfl
  | cons a l ih =>
    simp only [quietL, Bool.and_eq_true]
    exact ⟨h a (by simp), ih fun x hx => h x (by simp [hx])⟩
mutual
/-- The width of the flat way. -/
def Doc.flatW : Doc → Nat
  | .mk k t ks _ _ _ =>
    if k = 1 then widthB t
    else if k = 3 then 1
    else if k = 4 then 0
    else if k = 7 ∨ k = 8 then flatWH ks
    else if k = 10 then flatWT ks
    else flatWL ks
def flatWL : List Doc → Nat
  | [] => 0
  | d :: ds => d.flatW + flatWL ds
def flatWH : List Doc → Nat
  | [] => 0
  | d :: _ => d.flatW
def flatWT : List Doc → Nat
  | [] => 0
  | _ :: ds => flatWL ds
end
theorem Doc.flatW_eq (d : Doc) : d.flatW = if d.kind = 1 then widthB d.text
    else if d.kind = 3 then 1
    else if d.kind = 4 then 0
    else if d.kind = 7 ∨ d.kind = 8 then flatWH d.kids
    else if d.kind = 10 then flatWT d.kids
    else flatWL d.kids := by cases d; rfl
theorem Doc.scan_eq (d : Doc) (alone : Bool) (brk : Int → Bool) (flat : Bool) (left : Int) (put : Bool) : d.scan alone brk flat left put =
    if d.kind = 1 then (if left - (widthB d.text : Int) < 0 then .done false else .go (left - (widthB d.text : Int)) put)
    else if d.kind = 2 ∨ d.kind = 9 ∨ d.kind = 11 ∨ d.kind = 12 ∨ d.kind = 13 then scanL alone brk d.kids flat left put
    else if d.kind = 7 then (if d.brk && alone then .done false else scanH alone brk d.kids (flat && !d.brk) left put)
    else if d.kind = 8 then (if d.brk && alone then .done false else if d.brk then scanZ alone brk d.kids false left put else scanH alone brk d.kids flat left put)
    else if d.kind = 10 then (if modeB brk d.id flat then scanT alone brk d.kids flat left put else scanH alone brk d.kids flat left put)
    else if d.kind = 3 then (if flat then (if left - 1 < 0 then .done false else .go (left - 1) put) else .done true)
    else if d.kind = 4 then (if flat then .go left put else .done true)
    else if d.kind = 5 ∨ d.kind = 6 then .done true
    else if d.kind = 14 then .go left true
    else if d.kind = 15 then (if put then .done true else .go left put)
    else .go left put := by cases d; rfl
/-- What a flat document's kids are: which of them count. -/
theorem flat_parts {d : Doc} {l : Ln} (hs : d.shape = true) (hq : d.quiet = true) (hf : d.flat = some l) :
    (d.kind = 1 ∧ l = d.text.data.toList ∧ d.flatW = widthB d.text) ∨ (d.kind = 3 ∧ l = [32] ∧ d.flatW = 1) ∨ (d.kind = 4 ∧ l = [] ∧ d.flatW = 0) ∨
    ((d.kind = 2 ∨ d.kind = 9 ∨ d.kind = 11 ∨ d.kind = 13) ∧ flatL d.kids = some l ∧ d.flatW = flatWL d.kids) ∨
    ((d.kind = 7 ∨ d.kind = 8) ∧ d.brk = false ∧ ∃ k ks, d.kids = k :: ks ∧ k.flat = some l ∧ d.flatW = k.flatW) ∨
    (d.kind = 10 ∧ d.id ≤ 0 ∧ ∃ k k1, d.kids = [k, k1] ∧ k1.flat = some l ∧ d.flatW = k1.flatW) := by
  obtain ⟨b1, b2⟩ := kind_bound hs
  rw [Doc.flat_eq] at hf
  rw [Doc.quiet_eq, Bool.and_eq_true] at hq
  have hq1 := hq.1
  simp only [Bool.not_eq_true', Bool.or_eq_false_iff, beq_eq_false_iff_ne, ne_eq, Bool.and_eq_false_iff, decide_eq_false_iff_not] at hq1
  obtain ⟨⟨⟨n14, n15⟩, n12⟩, n10⟩ := hq1
  rw [Doc.flatW_eq]
  by_cases k1 : d.kind = 1
  · rw [if_pos k1] at hf; injection hf with hf
    exact .inl ⟨k1, hf.symm, by rw [if_pos k1]⟩
  rw [if_neg k1] at hf
  by_cases k3 : d.kind = 3
  · rw [if_pos k3] at hf; injection hf with hf
    exact .inr (.inl ⟨k3, hf.symm, by rw [if_neg k1, if_pos k3]⟩)
  rw [if_neg k3] at hf
  by_cases k5 : d.kind = 5 ∨ d.kind = 6 ∨ d.kind = 16
  · rw [if_pos k5] at hf; cases hf
  rw [if_neg k5] at hf
  by_cases k4 : d.kind = 14 ∨ d.kind = 4 ∨ d.kind = 15
  · rw [if_pos k4] at hf; injection hf with hf
    have : d.kind = 4 := by omega
    exact .inr (.inr (.inl ⟨this, hf.symm, by rw [if_neg k1, if_neg k3, if_pos this]⟩))
  rw [if_neg k4] at hf
  have k4' : ¬ d.kind = 4 := by omega
  rw [if_neg k1, if_neg k3, if_neg k4']
  by_cases k7 : d.kind = 7 ∨ d.kind = 8
  · rw [if_pos k7] at hf ⊢
    by_cases hb : d.brk = true
    · rw [if_pos hb] at hf; cases hf
    rw [if_neg hb] at hf
    refine .inr (.inr (.inr (.inr (.inl ⟨k7, by simpa using hb, ?_⟩))))
    have hl : 1 ≤ d.kids.length := by
      rcases k7 with k7 | k7
      · have := kids_7 hs k7; omega
      · exact kids_8 hs k7
    cases hk : d.kids with
    | nil => rw [hk] at hl; simp at hl
    | cons k ks =>
      rw [hk] at hf
      exact ⟨k, ks, rfl, hf, rfl⟩
  rw [if_neg k7] at hf ⊢
  by_cases k10 : d.kind = 10
  · rw [if_pos k10] at hf ⊢
    have hl := kids_10 hs k10
    match hk : d.kids, hl with
    | [k, k1], _ =>
      rw [hk] at hf
      have hf' : flatL [k1] = some l := hf
      rw [flatL_one] at hf'
      refine .inr (.inr (.inr (.inr (.inr ⟨k10, ?_, k, k1, rfl, hf', ?_⟩))))
      · rcases n10 with n | n
        · exact absurd k10 n
        · omega
      · show k1.flatW + 0 = _
        omega
  rw [if_neg k10] at hf ⊢
  exact .inr (.inr (.inr (.inl ⟨by omega, hf, rfl⟩)))
def ScanOk (d : Doc) : Prop := d.shape = true → d.quiet = true → ∀ l, d.flat = some l → ∀ (al : Bool) (brk : Int → Bool) (left : Int) (put : Bool), 0 ≤ left →
  d.scan al brk true left put = if left - (d.flatW : Int) < 0 then .done false else .go (left - (d.flatW : Int)) put
theorem scanL_flat : ∀ (ks : List Doc), (∀ x ∈ ks, ScanOk x) → shapeL ks = true → quietL ks = true → ∀ l, flatL ks = some l → ∀ (al : Bool) (brk : Int → Bool) (left : Int) (put : Bool), 0 ≤ left →
    scanL al brk ks true left put = if left - (flatWL ks : Int) < 0 then .done false else .go (left - (flatWL ks : Int)) put
  | [], _, _, _, l, _, al, brk, left, put, h0 => by
    show Scan.go left put = _
    have e : ((flatWL [] : Nat) : Int) = 0 := rfl
    rw [e, if_neg (by omega), Int.sub_zero]
  | d :: ds, hi, hs, hq, l, hf, al, brk, left, put, h0 => by
    simp only [shapeL, Bool.and_eq_true] at hs
    simp only [quietL, Bool.and_eq_true] at hq
    simp only [flatL] at hf
    cases h1 : d.flat with
    | none => rw [h1] at hf; cases hf
    | some a =>
      rw [h1] at hf
      cases h2 : flatL ds with
      | none => rw [h2] at hf; cases hf
      | some b =>
        have e1 := hi d (by simp) hs.1 hq.1 a h1 al brk left put h0
        have e : ((flatWL (d :: ds) : Nat) : Int) = (d.flatW : Int) + (flatWL ds : Int) := by show ((d.flatW + flatWL ds : Nat) : Int) = _; omega
        show (match d.scan al brk true left put with
          | .done b => Scan.done b
          | .go l p => scanL al brk ds true l p) = _
        rw [e1, e]
        by_cases hn : left - (d.flatW : Int) < 0
        · rw [if_pos hn, if_pos (by omega)]
        · rw [if_neg hn]
          show scanL al brk ds true (left - (d.flatW : Int)) put = _
          rw [scanL_flat ds (fun x hx => hi x (by simp [hx])) hs.2 hq.2 b h2 al brk _ put (by omega)]
          by_cases hn2 : left - (d.flatW : Int) - (flatWL ds : Int) < 0
          · rw [if_pos hn2, if_pos (by omega)]
          · rw [if_neg hn2, if_neg (by omega)]
            congr 1
            omega
theorem scan_flat (d : Doc) : ScanOk d := by
  refine Doc.ind (P := ScanOk) (fun d ih => ?_) d
  intro hs hq l hf al brk left put h0
  have hsk : shapeL d.kids = true := by rw [Doc.shape_eq, Bool.and_eq_true] at hs; exact hs.2
  have hqk : quietL d.kids = true := by rw [Doc.quiet_eq, Bool.and_eq_true] at hq; exact hq.2
  rw [Doc.scan_eq]
  rcases flat_parts hs hq hf with ⟨hk, _, hw⟩ | ⟨hk, _, hw⟩ | ⟨hk, _, hw⟩ | ⟨hk, hl, hw⟩ | ⟨hk, hb, k, ks, hks, hkf, hw⟩ | ⟨hk, hid, k, k1, hks, hkf, hw⟩
  · rw [if_pos hk, hw]
  · rw [hk, hw]
    simp
  · rw [hk, hw]
    simp
    exact h0
  · rw [if_neg (by omega), if_pos (by omega), hw]
    exact scanL_flat d.kids ih hsk hqk l hl al brk left put h0
  · have h1 := ih k (by rw [hks]; simp) (by rw [hks] at hsk; simp only [shapeL, Bool.and_eq_true] at hsk; exact hsk.1) (by rw [hks] at hqk; simp only [quietL, Bool.and_eq_true] at hqk; exact hqk.1) l hkf al brk left put h0
    have h2 : scanH al brk d.kids true left put = k.scan al brk true left put := by rw [hks]; rfl
    rcases hk with hk | hk
    · rw [hk, hb]
      simp
      rw [h2, h1, hw]
    · rw [hk, hb]
      simp
      rw [h2, h1, hw]
  · have h1 := ih k1 (by rw [hks]; simp) (by rw [hks] at hsk; simp only [shapeL, Bool.and_eq_true] at hsk; exact hsk.2.1) (by rw [hks] at hqk; simp only [quietL, Bool.and_eq_true] at hqk; exact hqk.2.1) l hkf al brk left put h0
    have h2 : scanT al brk d.kids true left put = k1.scan al brk true left put := by rw [hks]; rfl
    have hid0 : d.id = 0 := by
      rw [Doc.shape_eq, Bool.and_eq_true] at hs
      have := hs.1
      unfold Doc.formed at this
      rw [hk] at this
      simp [formedF] at this
      omega
    have hm : modeB brk d.id true = true := by rw [hid0]; rfl
    rw [hk, hm]
    simp
    rw [h2, h1, hw]
/-- Does it fit, with nothing behind that reads on? -/
theorem fits_flat (o : Opt) (m : Mach) (d : Doc) (l : Ln) (hs : d.shape = true) (hq : d.quiet = true) (hf : d.flat = some l) (hst : m.stk = []) (hc : m.col = 0) (hw : 0 ≤ o.width) : fitsM o m true false [d] = decide ((d.flatW : Int) ≤ o.width) := by
  unfold fitsM
  rw [hc, if_neg (by omega)]
  have hb : behind m false = [] := by unfold behind; rw [hst]; rfl
  rw [hb]
  show (match d.scan false m.brk true (o.width - 0) false with
    | .done b => Scan.done b
    | .go lf p => scanS false m.brk [] lf p).fits = _
  rw [scan_flat d hs hq l hf false m.brk (o.width - 0) false (by omega)]
  by_cases h : (d.flatW : Int) ≤ o.width
  · rw [if_neg (by omega)]
    show true = _
    simp [h]
  · rw [if_pos (by omega)]
    show false = _
    simp [h]

/-! ### The run of what is flat -/
def RunOk (d : Doc) : Prop := d.shape = true → d.quiet = true → ∀ l, d.flat = some l → ∀ (o : Opt) (i : Ind) (out : Ln) (col : Int) (stk put : List Cmd) (brk : Int → Bool), out.length + l.length ≤ 67108864 →
  ∃ brk', Steps o ⟨out, col, ⟨i, true, d⟩ :: stk, put, brk⟩ ⟨out ++ l, col + (d.flatW : Int), stk, put, brk'⟩
theorem runL_flat : ∀ (ks : List Doc), (∀ x ∈ ks, RunOk x) → shapeL ks = true → quietL ks = true → ∀ l, flatL ks = some l → ∀ (o : Opt) (i : Ind) (out : Ln) (col : Int) (stk put : List Cmd) (brk : Int → Bool), out.length + l.length ≤ 67108864 →
    ∃ brk', Steps o ⟨out, col, ks.map (fun d => ⟨i, true, d⟩) ++ stk, put, brk⟩ ⟨out ++ l, col + (flatWL ks : Int), stk, put, brk'⟩
  | [], _, _, _, l, hf, o, i, out, col, stk, put, brk, hb => by
    injection hf with hf
    subst hf
    refine ⟨brk, ?_⟩
    have e : ((flatWL [] : Nat) : Int) = 0 := rfl
    rw [e, Int.add_zero, List.append_nil]
    exact .refl _
  | d :: ds, hi, hs, hq, l, hf, o, i, out, col, stk, put, brk, hb => by
    simp only [shapeL, Bool.and_eq_true] at hs
    simp only [quietL, Bool.and_eq_true] at hq
    simp only [flatL] at hf
    cases h1 : d.flat with
    | none => rw [h1] at hf; cases hf
    | some a =>
      rw [h1] at hf
      cases h2 : flatL ds with
      | none => rw [h2] at hf; cases hf
      | some b =>
        rw [h2] at hf
        injection hf with hf
        subst hf
        rw [List.length_append] at hb
        obtain ⟨br1, s1⟩ := hi d (by simp) hs.1 hq.1 a h1 o i out col (ds.map (fun d => ⟨i, true, d⟩) ++ stk) put brk (by omega)
        obtain ⟨br2, s2⟩ := runL_flat ds (fun x hx => hi x (by simp [hx])) hs.2 hq.2 b h2 o i (out ++ a) (col + (d.flatW : Int)) stk put br1 (by rw [List.length_append]; omega)
        refine ⟨br2, ?_⟩
        have e : ((flatWL (d :: ds) : Nat) : Int) = (d.flatW : Int) + (flatWL ds : Int) := by show ((d.flatW + flatWL ds : Nat) : Int) = _; omega
        rw [e, ← Int.add_assoc, ← List.append_assoc]
        exact s1.trans s2
theorem run_flat (d : Doc) : RunOk d := by
  refine Doc.ind (P := RunOk) (fun d ih => ?_) d
  intro hs hq l hf o i out col stk put brk hb
  have hsk : shapeL d.kids = true := by rw [Doc.shape_eq, Bool.and_eq_true] at hs; exact hs.2
  have hqk : quietL d.kids = true := by rw [Doc.quiet_eq, Bool.and_eq_true] at hq; exact hq.2
  rcases flat_parts hs hq hf with ⟨hk, hl, hw⟩ | ⟨hk, hl, hw⟩ | ⟨hk, hl, hw⟩ | ⟨hk, hl, hw⟩ | ⟨hk, hbk, k, ks, hks, hkf, hw⟩ | ⟨hk, hid, k, k1, hks, hkf, hw⟩
  · refine ⟨brk, .one (c := ⟨i, true, d⟩) (cs := stk) rfl ?_⟩
    rw [doM_eq, if_pos hk]
    show (putM ⟨out, col, stk, put, brk⟩ d.text.data.toList).map _ = _
    unfold putM
    rw [← hl, if_neg (by show ¬ 67108864 < out.length + l.length; omega), hw]
    rfl
  · refine ⟨brk, .one (c := ⟨i, true, d⟩) (cs := stk) rfl ?_⟩
    rw [doM_eq, hw, hl]
    have hb1 : ¬ 67108864 < out.length + ([32] : Ln).length := by rw [hl] at hb; omega
    show (if d.kind = 1 then _ else _) = _
    rw [hk]
    show (putM ⟨out, col, stk, put, brk⟩ [32]).map _ = _
    unfold putM
    rw [if_neg hb1]
    rfl
  · refine ⟨brk, .one (c := ⟨i, true, d⟩) (cs := stk) rfl ?_⟩
    rw [doM_eq, hw, hl]
    show (if d.kind = 1 then _ else _) = _
    rw [hk]
    simp
  · rcases hk with hk | hk | hk | hk
    · obtain ⟨br, st⟩ := runL_flat d.kids ih hsk hqk l hl o i out col stk put brk hb
      refine ⟨br, .step (c := ⟨i, true, d⟩) (cs := stk) rfl (m1 := ⟨out, col, d.kids.map (fun d => ⟨i, true, d⟩) ++ stk, put, brk⟩) ?_ (by rw [hw]; exact st)⟩
      rw [doM_eq]
      show (if d.kind = 1 then _ else _) = _
      rw [hk]
      rfl
    · obtain ⟨br, st⟩ := runL_flat d.kids ih hsk hqk l hl o i out col stk put brk hb
      refine ⟨br, .step (c := ⟨i, true, d⟩) (cs := stk) rfl (m1 := ⟨out, col, d.kids.map (fun d => ⟨i, true, d⟩) ++ stk, put, brk⟩) ?_ (by rw [hw]; exact st)⟩
      rw [doM_eq]
      show (if d.kind = 1 then _ else _) = _
      rw [hk]
      rfl
    · have h1 := kids_11 hs hk
      obtain ⟨br, st⟩ := runL_flat d.kids ih hsk hqk l hl o ((true, o.tab) :: i) out col stk put brk hb
      refine ⟨br, .step (c := ⟨i, true, d⟩) (cs := stk) rfl (m1 := ⟨out, col, d.kids.map (fun d => ⟨(true, o.tab) :: i, true, d⟩) ++ stk, put, brk⟩) ?_ (by rw [hw]; exact st)⟩
      rw [doM_eq]
      show (if d.kind = 1 then _ else _) = _
      rw [hk]
      have hk0 : kid0 d.kids = d.kids := List.take_of_length_le (by omega)
      simp
      rw [hk0]
      rfl
    · have h1 := kids_13 hs hk
      obtain ⟨br, st⟩ := runL_flat d.kids ih hsk hqk l hl o ((false, d.width) :: i) out col stk put brk hb
      refine ⟨br, .step (c := ⟨i, true, d⟩) (cs := stk) rfl (m1 := ⟨out, col, d.kids.map (fun x => ⟨(false, d.width) :: i, true, x⟩) ++ stk, put, brk⟩) ?_ (by rw [hw]; exact st)⟩
      rw [doM_eq]
      show (if d.kind = 1 then _ else _) = _
      rw [hk]
      have hk0 : kid0 d.kids = d.kids := List.take_of_length_le (by omega)
      simp
      rw [hk0]
      rfl
  · have hrk := ih k (by rw [hks]; simp) (by rw [hks] at hsk; simp only [shapeL, Bool.and_eq_true] at hsk; exact hsk.1) (by rw [hks] at hqk; simp only [quietL, Bool.and_eq_true] at hqk; exact hqk.1) l hkf o i out col stk put
    have hk0 : kid0 d.kids = [k] := by rw [hks]; rfl
    rcases hk with hk | hk
    · obtain ⟨br, st⟩ := hrk (if 0 < d.id then (fun j => if j = d.id then false else brk j) else brk) hb
      refine ⟨br, .step (c := ⟨i, true, d⟩) (cs := stk) rfl (m1 := ⟨out, col, ⟨i, true, k⟩ :: stk, put, if 0 < d.id then (fun j => if j = d.id then false else brk j) else brk⟩) ?_ (by rw [hw]; exact st)⟩
      rw [doM_eq]
      show (if d.kind = 1 then _ else _) = _
      rw [hk, hk0]
      rfl
    · obtain ⟨br, st⟩ := hrk brk hb
      refine ⟨br, .step (c := ⟨i, true, d⟩) (cs := stk) rfl (m1 := ⟨out, col, ⟨i, true, k⟩ :: stk, put, brk⟩) ?_ (by rw [hw]; exact st)⟩
      rw [doM_eq]
      show (if d.kind = 1 then _ else _) = _
      rw [hk, hk0]
      rfl
  · have hrk := ih k1 (by rw [hks]; simp) (by rw [hks] at hsk; simp only [shapeL, Bool.and_eq_true] at hsk; exact hsk.2.1) (by rw [hks] at hqk; simp only [quietL, Bool.and_eq_true] at hqk; exact hqk.2.1) l hkf o i out col stk put brk hb
    obtain ⟨br, st⟩ := hrk
    have hid0 : d.id = 0 := by
      rw [Doc.shape_eq, Bool.and_eq_true] at hs
      have := hs.1
      unfold Doc.formed at this
      rw [hk] at this
      simp [formedF] at this
      omega
    refine ⟨br, .step (c := ⟨i, true, d⟩) (cs := stk) rfl (m1 := ⟨out, col, ⟨i, true, k1⟩ :: stk, put, brk⟩) ?_ (by rw [hw]; exact st)⟩
    have hk1 : kid1 d.kids = [k1] := by rw [hks]; rfl
    rw [doM_eq]
    show (if d.kind = 1 then _ else _) = _
    have hm : modeB brk d.id true = true := by rw [hid0]; rfl
    rw [hk, hk1]
    show some (pushM ⟨out, col, stk, put, brk⟩ i true (if modeB brk d.id true then [k1] else kid0 d.kids)) = _
    rw [hm]
    rfl
end Go.Proofs.YthljgiimdcbfpaaDoor
