/- LayoutFlats in plain words: a flat text is as wide as its document; plain documents come out as their flat text. -/
import Derived.Test.YthljgiimdcbfpaaDoorLPQuiet
import Derived.Test.YthljgiimdcbfpaaDoorMDoD
namespace Go.Proofs.YthljgiimdcbfpaaDoor
open Go.RowKit
set_option maxRecDepth 100000
set_option linter.unusedVariables false
set_option linter.unusedSimpArgs false

def okT (l : List UInt8) : Prop := validCode ⟨l.toArray⟩ = 0 ∧ ∀ c ∈ l, c ≠ 10 ∧ c ≠ 13
theorem okT_nil : okT [] := ⟨by kernel_rfl, by simp⟩
theorem okT_app {a b : List UInt8} (ha : okT a) (hb : okT b) : okT (a ++ b) := by
  refine ⟨?_, fun c hc => ?_⟩
  · have e : (⟨(a ++ b).toArray⟩ : ByteArray) = ⟨a.toArray⟩ ++ ⟨b.toArray⟩ := by apply ByteArray.ext; simp
    have h0 : ∀ l : List UInt8, validCode ⟨l.toArray⟩ = 0 → badRest ⟨l.toArray⟩ 0 = Option.none := by
      intro l h
      cases h1 : badRest ⟨l.toArray⟩ 0 with
      | none => rfl
      | some p => rw [(valid_some h1).2] at h; cases h
    have h1 := app_bad ⟨a.toArray⟩ ⟨b.toArray⟩ (h0 a ha.1)
    rw [h0 b hb.1] at h1
    rw [e]
    exact (valid_none h1).2
  · rcases List.mem_append.1 hc with h | h
    · exact ha.2 c h
    · exact hb.2 c h
theorem flatL_ok : ∀ (ks : List Doc), (∀ d ∈ ks, ∀ l, d.flat = some l → okT l) → ∀ l, flatL ks = some l → okT l
  | [], _, l, h => by cases h; exact okT_nil
  | d :: ds, hd, l, h => by
    simp only [flatL] at h
    cases h1 : d.flat with
    | none => rw [h1] at h; cases h
    | some a =>
      rw [h1] at h
      cases h2 : flatL ds with
      | none => rw [h2] at h; cases h
      | some b =>
        rw [h2] at h
        cases h
        exact okT_app (hd d (by simp) a h1) (flatL_ok ds (fun x hx => hd x (by simp [hx])) b h2)
theorem text_ok {t : ByteArray} (h : textB t = true) : okT t.data.toList := by
  unfold textB at h
  simp only [Bool.and_eq_true, beq_iff_eq, Bool.not_eq_true'] at h
  refine ⟨?_, fun c hc => ?_⟩
  · have e : (⟨t.data.toList.toArray⟩ : ByteArray) = t := by apply ByteArray.ext; simp
    rw [e]
    exact h.1
  · have h2 := h.2
    unfold endFrom at h2
    rw [List.drop_zero, List.any_eq_false] at h2
    have h3 := h2 c hc
    simp only [Bool.or_eq_true, beq_iff_eq, not_or] at h3
    exact h3
theorem Doc.flat_ok (d : Doc) : d.shape = true → ∀ l, d.flat = some l → okT l := by
  refine Doc.ind (P := fun d => d.shape = true → ∀ l, d.flat = some l → okT l) (fun d ih hs l h => ?_) d
  rw [Doc.shape_eq] at hs
  simp only [Bool.and_eq_true] at hs
  have hk : ∀ x ∈ d.kids, ∀ l, x.flat = some l → okT l := fun x hx l hl => ih x hx (shapeL_mem hs.2 x hx) l hl
  rw [Doc.flat_eq] at h
  split at h
  · next hk1 =>
    cases h
    have hf : formedF d.kind d.text d.kids.length d.brk d.id d.width = true := by have := hs.1; cases d; exact this
    rw [hk1] at hf
    unfold formedF at hf
    rw [if_pos rfl] at hf
    simp only [Bool.and_eq_true] at hf
    exact text_ok hf.1.1.1.1
  · split at h
    · cases h
      exact ⟨by kernel_rfl, by simp⟩
    · split at h
      · cases h
      · split at h
        · cases h
          exact okT_nil
        · split at h
          · split at h
            · cases h
            · rw [flatH_take] at h
              exact flatL_ok _ (fun x hx => hk x (List.mem_of_mem_take hx)) l h
          · split at h
            · rw [flatT_drop] at h
              exact flatL_ok _ (fun x hx => hk x (List.mem_of_mem_drop hx)) l h
            · exact flatL_ok _ hk l h
theorem flatS_ok {d : Doc} (h : d.flatOk = true) : ∃ l, d.code = 0 ∧ d.flat = some l ∧ d.flatS = ⟨l.toArray⟩ ∧ okT l := by
  unfold Doc.flatOk at h
  cases hv : d.flatV with
  | none => rw [hv] at h; cases h
  | some l =>
    have hs : d.flatS = ⟨l.toArray⟩ := by unfold Doc.flatS; rw [hv]
    unfold Doc.flatV at hv
    split at hv
    · next hc => exact ⟨l, hc, hv, hs, d.flat_ok (code_shape hc).1 l hv⟩
    · cases hv
theorem flatS_bad {d : Doc} (h : d.flatOk = false) : d.flatS = ⟨#[]⟩ := by
  unfold Doc.flatOk at h
  cases hv : d.flatV with
  | none => unfold Doc.flatS; rw [hv]
  | some l => rw [hv] at h; cases h

theorem okT_bad {l : List UInt8} (h : okT l) : badRest (strOf l) 0 = Option.none := by
  cases h1 : badRest (strOf l) 0 with
  | none => rfl
  | some p =>
    have h2 := (valid_some h1).2
    have h3 : validCode (strOf l) = 0 := h.1
    rw [h3] at h2
    cases h2
def WidOk (d : Doc) : Prop := d.shape = true → d.quiet = true → ∀ l, d.flat = some l → d.flatW = widthB (strOf l)
theorem widL : ∀ (ks : List Doc), (∀ x ∈ ks, WidOk x) → shapeL ks = true → quietL ks = true → ∀ l, flatL ks = some l → flatWL ks = widthB (strOf l)
  | [], _, _, _, l, hf => by
    injection hf with hf
    subst hf
    kernel_rfl
  | d :: ds, hi, hs, hq, l, hf => by
    simp only [shapeL, Bool.and_eq_true] at hs
    simp only [quietL, Bool.and_eq_true] at hq
    simp only [flatL] at hf
    cases h1 : d.flat with
    | none => rw [h1] at hf; cases hf
    | some a =>
      rw [h1] at hf
      cases h2 : flatL ds with
      | none => rw [h2] at hf; cases hf
      | some b =>
        rw [h2] at hf
        injection hf with hf
        subst hf
        have e1 := hi d (by simp) hs.1 hq.1 a h1
        have e2 := widL ds (fun x hx => hi x (by simp [hx])) hs.2 hq.2 b h2
        show d.flatW + flatWL ds = _
        rw [e1, e2, ← strOf_append, app_width _ _ (okT_bad (d.flat_ok hs.1 a h1))]
theorem wid_flat (d : Doc) : WidOk d := by
  refine Doc.ind (P := WidOk) (fun d ih => ?_) d
  intro hs hq l hf
  have hsk : shapeL d.kids = true := by rw [Doc.shape_eq, Bool.and_eq_true] at hs; exact hs.2
  have hqk : quietL d.kids = true := by rw [Doc.quiet_eq, Bool.and_eq_true] at hq; exact hq.2
  rcases flat_parts hs hq hf with ⟨hk, hl, hw⟩ | ⟨hk, hl, hw⟩ | ⟨hk, hl, hw⟩ | ⟨hk, hl, hw⟩ | ⟨hk, hbk, k, ks, hks, hkf, hw⟩ | ⟨hk, hid, k, k1, hks, hkf, hw⟩
  · rw [hw, hl]
    congr 1
  · rw [hw, hl]
    exact (by kernel_rfl : (1 : Nat) = widthB (strOf [32]))
  · rw [hw, hl]
    exact (by kernel_rfl : (0 : Nat) = widthB (strOf []))
  · rw [hw]
    exact widL d.kids ih hsk hqk l hl
  · rw [hw]
    exact ih k (by rw [hks]; simp) (by rw [hks] at hsk; simp only [shapeL, Bool.and_eq_true] at hsk; exact hsk.1) (by rw [hks] at hqk; simp only [quietL, Bool.and_eq_true] at hqk; exact hqk.1) l hkf
  · rw [hw]
    exact ih k1 (by rw [hks]; simp) (by rw [hks] at hsk; simp only [shapeL, Bool.and_eq_true] at hsk; exact hsk.2.1) (by rw [hks] at hqk; simp only [quietL, Bool.and_eq_true] at hqk; exact hqk.2.1) l hkf

/-! ### A plain document's run -/
def PlnOk (d : Doc) : Prop := d.shape = true → d.plain = true → ∀ l, d.flat = some l → ∀ (o : Opt) (i : Ind) (out : Ln) (col : Int) (stk put : List Cmd) (brk : Int → Bool), out.length + l.length ≤ 67108864 →
  ∃ col', Steps o ⟨out, col, ⟨i, false, d⟩ :: stk, put, brk⟩ ⟨out ++ l, col', stk, put, brk⟩
theorem plnL : ∀ (ks : List Doc), (∀ x ∈ ks, PlnOk x) → shapeL ks = true → plainL ks = true → ∀ l, flatL ks = some l → ∀ (o : Opt) (i : Ind) (out : Ln) (col : Int) (stk put : List Cmd) (brk : Int → Bool), out.length + l.length ≤ 67108864 →
    ∃ col', Steps o ⟨out, col, ks.map (fun d => ⟨i, false, d⟩) ++ stk, put, brk⟩ ⟨out ++ l, col', stk, put, brk⟩
  | [], _, _, _, l, hf, o, i, out, col, stk, put, brk, hb => by
    injection hf with hf
    subst hf
    refine ⟨col, ?_⟩
    rw [List.append_nil]
    exact .refl _
  | d :: ds, hi, hs, hq, l, hf, o, i, out, col, stk, put, brk, hb => by
    simp only [shapeL, Bool.and_eq_true] at hs
    simp only [plainL, Bool.and_eq_true] at hq
    simp only [flatL] at hf
    cases h1 : d.flat with
    | none => rw [h1] at hf; cases hf
    | some a =>
      rw [h1] at hf
      cases h2 : flatL ds with
      | none => rw [h2] at hf; cases hf
      | some b =>
        rw [h2] at hf
        injection hf with hf
        subst hf
        rw [List.length_append] at hb
        obtain ⟨c1, s1⟩ := hi d (by simp) hs.1 hq.1 a h1 o i out col (ds.map (fun d => ⟨i, false, d⟩) ++ stk) put brk (by omega)
        obtain ⟨c2, s2⟩ := plnL ds (fun x hx => hi x (by simp [hx])) hs.2 hq.2 b h2 o i (out ++ a) c1 stk put brk (by rw [List.length_append]; omega)
        refine ⟨c2, ?_⟩
        rw [← List.append_assoc]
        exact s1.trans s2
theorem pln_run (d : Doc) : PlnOk d := by
  refine Doc.ind (P := PlnOk) (fun d ih => ?_) d
  intro hs hq l hf o i out col stk put brk hb
  have hsk : shapeL d.kids = true := by rw [Doc.shape_eq, Bool.and_eq_true] at hs; exact hs.2
  rw [Doc.plain_eq, Bool.and_eq_true] at hq
  have hk : d.kind = 1 ∨ d.kind = 2 ∨ d.kind = 11 ∨ d.kind = 13 := by have := hq.1; simp at this; omega
  rw [Doc.flat_eq] at hf
  rcases hk with hk | hk | hk | hk
  · rw [if_pos hk] at hf
    injection hf with hl
    refine ⟨col + (widthB d.text : Int), .one (c := ⟨i, false, d⟩) (cs := stk) rfl ?_⟩
    rw [doM_eq, if_pos hk]
    show (putM ⟨out, col, stk, put, brk⟩ d.text.data.toList).map _ = _
    unfold putM
    rw [hl, if_neg (by show ¬ 67108864 < out.length + l.length; omega)]
    rfl
  · have hl : flatL d.kids = some l := by rw [hk] at hf; simpa using hf
    obtain ⟨c, st⟩ := plnL d.kids ih hsk hq.2 l hl o i out col stk put brk hb
    refine ⟨c, .step (c := ⟨i, false, d⟩) (cs := stk) rfl (m1 := ⟨out, col, d.kids.map (fun d => ⟨i, false, d⟩) ++ stk, put, brk⟩) ?_ st⟩
    rw [doM_eq]
    show (if d.kind = 1 then _ else _) = _
    rw [hk]
    rfl
  · have hl : flatL d.kids = some l := by rw [hk] at hf; simpa using hf
    have h1 := kids_11 hs hk
    obtain ⟨c, st⟩ := plnL d.kids ih hsk hq.2 l hl o ((true, o.tab) :: i) out col stk put brk hb
    refine ⟨c, .step (c := ⟨i, false, d⟩) (cs := stk) rfl (m1 := ⟨out, col, d.kids.map (fun d => ⟨(true, o.tab) :: i, false, d⟩) ++ stk, put, brk⟩) ?_ st⟩
    rw [doM_eq]
    show (if d.kind = 1 then _ else _) = _
    rw [hk]
    have hk0 : kid0 d.kids = d.kids := List.take_of_length_le (by omega)
    simp
    rw [hk0]
    rfl
  · have hl : flatL d.kids = some l := by rw [hk] at hf; simpa using hf
    have h1 := kids_13 hs hk
    obtain ⟨c, st⟩ := plnL d.kids ih hsk hq.2 l hl o ((false, d.width) :: i) out col stk put brk hb
    refine ⟨c, .step (c := ⟨i, false, d⟩) (cs := stk) rfl (m1 := ⟨out, col, d.kids.map (fun x => ⟨(false, d.width) :: i, false, x⟩) ++ stk, put, brk⟩) ?_ st⟩
    rw [doM_eq]
    show (if d.kind = 1 then _ else _) = _
    rw [hk]
    have hk0 : kid0 d.kids = d.kids := List.take_of_length_le (by omega)
    simp
    rw [hk0]
    rfl
theorem strOf_list' (l : Ln) : (strOf l).size = l.length := strOf_size l
/-- A plain document comes out as it is flat. -/
theorem plain_lay {d : Doc} (h : d.flatOk = true) (hp : d.plain = true) (hb : d.flatS.size ≤ 67108864) (o : Opt) (ho : optOk o = true) : strOf (layN d o).1 = d.flatS ∧ (layN d o).2 = 0 := by
  obtain ⟨l, hc, hl, hS, _⟩ := flatS_ok h
  rw [hS] at hb ⊢
  have hz : l.length ≤ 67108864 := by have := strOf_size l; unfold strOf at this; omega
  obtain ⟨c, st⟩ := pln_run d (code_shape hc).1 hp l hl o [] [] 0 [] [] (fun _ => false) (by simpa using hz)
  have := Steps.lay ho hc st rfl rfl
  rw [this]
  exact ⟨by simp [strOf], rfl⟩
/-- A group round what is quiet and flat and fits comes out flat. -/
theorem group_lay {d g : Doc} (hg : g = eDoc 7 [d]) (h : d.flatOk = true) (hq : d.quiet = true) (hb : d.flatS.size ≤ 67108864) (o : Opt) (ho : optOk o = true) (hw : (widthB d.flatS : Int) ≤ o.width) (hc : g.code = 0) : strOf (layN g o).1 = d.flatS ∧ (layN g o).2 = 0 := by
  obtain ⟨l, hcd, hl, hS, _⟩ := flatS_ok h
  have hs := (code_shape hcd).1
  have hW := wid_flat d hs hq l hl
  rw [hS] at hb hw ⊢
  have hz : l.length ≤ 67108864 := by have := strOf_size l; unfold strOf at this; omega
  have hwo : 0 ≤ o.width := by omega
  have hfit : fitsM o ⟨[], 0, [], [], fun _ => false⟩ true false [d] = true := by
    rw [fits_flat o _ d l hs hq hl rfl rfl hwo]
    have : (d.flatW : Int) ≤ o.width := by rw [hW]; exact hw
    simp [this]
  obtain ⟨br, st⟩ := run_flat d hs hq l hl o [] [] 0 [] [] (fun _ => false) (by simpa using hz)
  have st2 : Steps o (startM g) ⟨[] ++ l, 0 + (d.flatW : Int), [], [], br⟩ := by
    refine .step (c := ⟨[], false, g⟩) (cs := []) (m1 := ⟨[], 0, [⟨[], true, d⟩], [], fun _ => false⟩) rfl ?_ st
    subst hg
    rw [doM_eq]
    show some (pushM (⟨[], 0, [], [], fun _ => false⟩ : Mach) [] (false || (!false && fitsM o ⟨[], 0, [], [], fun _ => false⟩ true false [d])) [d]) = _
    rw [hfit]
    rfl
  have := Steps.lay ho hc st2 rfl rfl
  rw [this]
  exact ⟨by simp [strOf], rfl⟩
end Go.Proofs.YthljgiimdcbfpaaDoor
