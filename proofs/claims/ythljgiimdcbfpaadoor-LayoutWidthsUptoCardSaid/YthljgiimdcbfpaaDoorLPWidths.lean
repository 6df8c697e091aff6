/- LayoutWidths in plain words: spread leaves a document's kinds; a group that is flat and fits comes out flat. -/
import Derived.Test.YthljgiimdcbfpaaDoorLPFlats
import Derived.Test.YthljgiimdcbfpaaDoorMSpr
namespace Go.Proofs.YthljgiimdcbfpaaDoor
open Go.RowKit
set_option maxRecDepth 100000
set_option linter.unusedVariables false
set_option linter.unusedSimpArgs false

theorem spr_quiet (t : Bool) (d : Doc) : (d.sprD t).quiet = d.quiet := by
  refine Doc.ind (P := fun d => (d.sprD t).quiet = d.quiet) (fun d ih => ?_) d
  rw [Doc.quiet_eq d, Doc.sprD_eq]
  show (!(d.kind == 14 || d.kind == 15 || d.kind == 12 || (d.kind == 10 && decide (0 < d.id))) && quietL (d.kids.map (Doc.sprD t))) = _
  have : ∀ ks : List Doc, (∀ x ∈ ks, x ∈ d.kids) → quietL (ks.map (Doc.sprD t)) = quietL ks := by
    intro ks
    induction ks with
    | nil => intro _; rfl
    | cons x xs ih2 =>
      intro hm
      simp only [List.map_cons, quietL]
      rw [ih x (hm x (by simp)), ih2 (fun y hy => hm y (by simp [hy]))]
  rw [this d.kids (fun x hx => hx)]
theorem spr_bulk (t : Bool) (d : Doc) : (d.sprD t).bulk = d.bulk := by
  refine Doc.ind (P := fun d => (d.sprD t).bulk = d.bulk) (fun d ih => ?_) d
  rw [Doc.sprD_eq, Doc.bulk_eq, Doc.bulk_eq d]
  show bulkL (d.kids.map (Doc.sprD t)) + d.text.size + 1 = _
  have : ∀ ks : List Doc, (∀ x ∈ ks, x ∈ d.kids) → bulkL (ks.map (Doc.sprD t)) = bulkL ks := by
    intro ks
    induction ks with
    | nil => intro _; rfl
    | cons x xs ih2 =>
      intro hm
      simp only [List.map_cons, bulkL]
      rw [ih x (hm x (by simp)), ih2 (fun y hy => hm y (by simp [hy]))]
  rw [this d.kids (fun x hx => hx)]
/-- A flat quiet group that fits. -/
theorem group2_lay {g : Doc} (hk : g.kind = 7) (h : g.flatOk = true) (hq : g.quiet = true) (hb : g.flatS.size ≤ 67108864) (o : Opt) (ho : optOk o = true) (hw : (widthB g.flatS : Int) ≤ o.width) : strOf (layN g o).1 = g.flatS ∧ (layN g o).2 = 0 := by
  obtain ⟨l, hcd, hl, hS, _⟩ := flatS_ok h
  have hs := (code_shape hcd).1
  have hW := wid_flat g hs hq l hl
  rw [hS] at hb hw ⊢
  have hz : l.length ≤ 67108864 := by have := strOf_size l; unfold strOf at this; omega
  have hwo : 0 ≤ o.width := by omega
  rcases flat_parts hs hq hl with ⟨hk', _⟩ | ⟨hk', _⟩ | ⟨hk', _⟩ | ⟨hk', _⟩ | ⟨_, hbk, k, ks, hks, hkf, hw2⟩ | ⟨hk', _⟩
  · omega
  · omega
  · omega
  · omega
  · have hks1 : shapeL g.kids = true := by rw [Doc.shape_eq, Bool.and_eq_true] at hs; exact hs.2
    have hkq : quietL g.kids = true := by rw [Doc.quiet_eq, Bool.and_eq_true] at hq; exact hq.2
    have hsk : k.shape = true := by rw [hks] at hks1; simp only [shapeL, Bool.and_eq_true] at hks1; exact hks1.1
    have hqk : k.quiet = true := by rw [hks] at hkq; simp only [quietL, Bool.and_eq_true] at hkq; exact hkq.1
    have hk0 : kid0 g.kids = [k] := by rw [hks]; rfl
    have hfit : fitsM o ⟨[], 0, [], [], fun _ => false⟩ true false [k] = true := by
      rw [fits_flat o _ k l hsk hqk hkf rfl rfl hwo]
      have : (k.flatW : Int) ≤ o.width := by rw [← hw2, hW]; exact hw
      simp [this]
    obtain ⟨br, st⟩ := run_flat k hsk hqk l hkf o [] [] 0 [] [] (if 0 < g.id then (fun j => if j = g.id then false else false) else fun _ => false) (by simpa using hz)
    have st2 : Steps o (startM g) ⟨[] ++ l, 0 + (k.flatW : Int), [], [], br⟩ := by
      refine .step (c := ⟨[], false, g⟩) (cs := []) (m1 := ⟨[], 0, [⟨[], true, k⟩], [], if 0 < g.id then (fun j => if j = g.id then false else false) else fun _ => false⟩) rfl ?_ st
      rw [doM_eq]
      show (if g.kind = 1 then _ else _) = _
      rw [hk, hk0, hbk]
      show some (pushM (⟨[], 0, [], [], if 0 < g.id then (fun j => if j = g.id then !(false || (!false && fitsM o ⟨[], 0, [], [], fun _ => false⟩ true false [k])) else false) else fun _ => false⟩ : Mach) [] (false || (!false && fitsM o ⟨[], 0, [], [], fun _ => false⟩ true false [k])) [k]) = _
      rw [hfit]
      rfl
    have := Steps.lay ho hcd st2 rfl rfl
    rw [this]
    exact ⟨by simp [strOf], rfl⟩
  · omega
end Go.Proofs.YthljgiimdcbfpaaDoor
