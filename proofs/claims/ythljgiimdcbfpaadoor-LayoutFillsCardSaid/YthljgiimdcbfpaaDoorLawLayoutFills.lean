/- The law LayoutFills (platenlaw17) holds of the program. Conditions: the library's tables unicode/utf8.first and acceptRanges read as their initialisers lay them. -/
import Derived.Test.YthljgiimdcbfpaaDoorMLaw
import Derived.Test.YthljgiimdcbfpaaDoorLPFlat
namespace Go.Proofs.YthljgiimdcbfpaaDoor
open Go.RowKit Go.WideShapes Go.ChangeShapes Go.ChangeAt
set_option maxRecDepth 100000
set_option linter.unusedVariables false
set_option linter.unusedSimpArgs false

def widthOv (w : Nat) : OptV := ⟨⟨(w : Int), 2, false, false⟩, false, false, false, false, false⟩
def lineDoc : Doc := eDoc 3 []
def filDs : List Nat → List Doc
  | [] => []
  | k :: l => wordD k :: l.flatMap fun q => [lineDoc, wordD q]
theorem filDs_snoc (l : List Nat) (k : Nat) : filDs (l ++ [k]) = if l = [] then [wordD k] else filDs l ++ [lineDoc] ++ [wordD k] := by
  cases l with
  | nil => rfl
  | cons a l => simp [filDs]
def filD (ks : List Nat) : Doc := eDoc 9 (filDs ks)
/-- What comes behind a word that ended in column c. -/
def filT (w : Nat) : Nat → List Nat → Ln
  | _, [] => []
  | c, q :: l => if c + 1 + q ≤ w then 32 :: (wordL q ++ filT w (c + 1 + q) l) else 10 :: (wordL q ++ filT w q l)
def filStep (w : Nat) (p : Ln × Nat) (k : Nat) : Ln × Nat := if p.2 + 1 + k ≤ w then (p.1 ++ [32] ++ wordL k, p.2 + 1 + k) else (p.1 ++ [10] ++ wordL k, k)
def filS (w : Nat) : List Nat → Ln × Nat
  | [] => ([], 0)
  | k :: l => l.foldl (filStep w) (wordL k, k)
theorem filS_snoc (w : Nat) (l : List Nat) (k : Nat) : filS w (l ++ [k]) = if l = [] then (wordL k, k) else filStep w (filS w l) k := by
  cases l with
  | nil => rfl
  | cons a l => simp [filS, List.foldl_append]
theorem fil_fold (w : Nat) : ∀ (l : List Nat) (S : Ln) (c : Nat), (l.foldl (filStep w) (S, c)).1 = S ++ filT w c l
  | [], S, c => by simp [filT]
  | q :: l, S, c => by
    rw [List.foldl_cons]
    unfold filT
    by_cases h : c + 1 + q ≤ w
    · rw [show filStep w (S, c) q = (S ++ [32] ++ wordL q, c + 1 + q) from by simp [filStep, h], fil_fold w l, if_pos h]
      simp
    · rw [show filStep w (S, c) q = (S ++ [10] ++ wordL q, q) from by simp [filStep, h], fil_fold w l, if_neg h]
      simp
theorem filS_len (w : Nat) : ∀ (l : List Nat), (∀ k ∈ l, k < 10) → (filS w l).1.length ≤ 10 * l.length ∧ (filS w l).2 ≤ 10 * l.length := by
  have fold : ∀ (l : List Nat), (∀ k ∈ l, k < 10) → ∀ (p : Ln × Nat), (l.foldl (filStep w) p).1.length ≤ p.1.length + 10 * l.length ∧ (l.foldl (filStep w) p).2 ≤ p.2 + 10 * l.length + 10 := by
    intro l
    induction l with
    | nil => intro _ p; simp
    | cons q l ih =>
      intro h p
      have hq := h q (by simp)
      have i1 := ih (fun x hx => h x (by simp [hx])) (filStep w p q)
      rw [List.foldl_cons]
      have s1 : (filStep w p q).1.length ≤ p.1.length + 10 := by unfold filStep; split <;> simp [wordL] <;> omega
      have s2 : (filStep w p q).2 ≤ p.2 + 10 := by unfold filStep; split <;> simp <;> omega
      simp only [List.length_cons]
      omega
  have f2 : ∀ (l : List Nat), (∀ k ∈ l, k < 10) → ∀ (p : Ln × Nat), (l.foldl (filStep w) p).2 ≤ max p.2 9 + 10 * l.length := by
    intro l
    induction l with
    | nil => intro _ p; simp; omega
    | cons q l ih =>
      intro h p
      have hq := h q (by simp)
      have i1 := ih (fun x hx => h x (by simp [hx])) (filStep w p q)
      rw [List.foldl_cons]
      have s2 : (filStep w p q).2 ≤ max p.2 9 + 10 := by unfold filStep; split <;> simp <;> omega
      have s3 : max (filStep w p q).2 9 ≤ max p.2 9 + 10 := by omega
      simp only [List.length_cons]
      omega
  intro l h
  cases l with
  | nil => simp [filS]
  | cons a l =>
    have ha := h a (by simp)
    have i1 := (fold l (fun x hx => h x (by simp [hx])) (wordL a, a)).1
    have i2 := f2 l (fun x hx => h x (by simp [hx])) (wordL a, a)
    have hl : (wordL a).length = a := by simp [wordL]
    simp only [filS, List.length_cons]
    simp only [hl] at i1
    simp only [] at i2
    omega
theorem fil_mem {ks : List Nat} {x : Doc} (h : x ∈ filDs ks) : x = lineDoc ∨ ∃ k ∈ ks, x = wordD k := by
  cases ks with
  | nil => cases h
  | cons a l =>
    simp only [filDs, List.mem_cons, List.mem_flatMap, List.not_mem_nil, or_false] at h
    rcases h with h | ⟨q, hq, h | h⟩
    · exact .inr ⟨a, by simp, h⟩
    · exact .inl h
    · exact .inr ⟨q, by simp [hq], h⟩
theorem fil_each {ks : List Nat} (h : ∀ k ∈ ks, k < 10) {x : Doc} (hx : x ∈ filDs ks) : x.shape = true ∧ x.bulk ≤ 50 ∧ x.depth ≤ 1 := by
  rcases fil_mem hx with rfl | ⟨k, hk, rfl⟩
  · decide +kernel
  · have := word_shape (k := k) (by have := h k hk; omega)
    exact ⟨this.1, this.2, Nat.le_refl _⟩
theorem fil_len (ks : List Nat) : (filDs ks).length = 2 * ks.length - 1 := by
  cases ks with
  | nil => rfl
  | cons a l =>
    simp only [filDs, List.length_cons, List.length_flatMap, List.length_nil]
    have : (l.map fun _ => 0 + 1 + 1).sum = 2 * l.length := by
      induction l with
      | nil => rfl
      | cons b l ih => simp only [List.map_cons, List.sum_cons, List.length_cons]; omega
    omega
theorem fil_code {ks : List Nat} (h : ∀ k ∈ ks, k < 10) : (filD ks).code = 0 := by
  refine word_code ?_ ?_
  · rw [Doc.shape_eq, Bool.and_eq_true]
    refine ⟨?_, shapeL_of fun x hx => (fil_each h hx).1⟩
    show formedF 9 ⟨#[]⟩ (filDs ks).length false 0 0 = true
    have hl := fil_len ks
    have h9 : ((filDs ks).length == 0 || (filDs ks).length % 2 == 1) = true := by
      rw [hl]
      cases ks with
      | nil => rfl
      | cons a l => simp; omega
    unfold formedF
    rw [h9]
    rfl
  · have h1 := depthL_of (ks := filDs ks) (n := 1) (fun x hx => (fil_each h hx).2.2)
    have h2 : (filD ks).depth = depthL (filDs ks) + 1 := Doc.depth_eq _
    omega
theorem fil_bulk {ks : List Nat} (h : ∀ k ∈ ks, k < 10) (hl : ks.length ≤ 200) : (filD ks).bulk ≤ 30000 := by
  have h1 := bulkL_of (ks := filDs ks) (n := 50) (fun x hx => (fil_each h hx).2.1)
  have h2 := fil_len ks
  have h3 : (filD ks).bulk = bulkL (filDs ks) + 0 + 1 := Doc.bulk_eq _
  have h5 : 50 * (filDs ks).length ≤ 50 * (2 * ks.length) := Nat.mul_le_mul_left 50 (by omega)
  omega
theorem trim_w (out : Ln) (k : Nat) (hk : 1 ≤ k) : trimR (out ++ wordL k) = out ++ wordL k := by
  obtain ⟨n, rfl⟩ : ∃ n, k = n + 1 := ⟨k - 1, by omega⟩
  unfold trimR wordL
  rw [List.replicate_succ', ← List.append_assoc, List.reverse_append]
  show (List.dropWhile blank8 (119 :: (out ++ List.replicate n 119).reverse)).reverse = _
  rw [List.dropWhile_cons_of_neg (by decide)]
  simp
theorem fil_fits (w c k q : Nat) (out : Ln) (stk : List Cmd) (brk : Int → Bool) : fitsM (widthOv w).o ⟨out, (c : Int), stk, [], brk⟩ true true [wordD k, lineDoc, wordD q] = decide (c + k + 1 + q ≤ w) := by
  have hwo : (widthOv w).o.width = (w : Int) := rfl
  have e1 : ∀ (j : Nat) (left : Int), (wordD j).scan true brk true left false = if left - (j : Int) < 0 then .done false else .go (left - (j : Int)) false := fun j left => by
    rw [Doc.scan_eq, if_pos (show (wordD j).kind = 1 from rfl)]
    show (if left - (widthB (strOf (wordL j)) : Int) < 0 then Scan.done false else Scan.go (left - (widthB (strOf (wordL j)) : Int)) false) = _
    rw [word_width]
  have e2 : ∀ left : Int, lineDoc.scan true brk true left false = if left - 1 < 0 then .done false else .go (left - 1) false := fun left => by
    rw [Doc.scan_eq]
    rfl
  unfold fitsM
  rw [hwo]
  show (if (w : Int) - (c : Int) < 0 then false else (scanS true brk [(true, wordD k), (true, lineDoc), (true, wordD q)] ((w : Int) - (c : Int)) false).fits) = _
  by_cases h0 : (w : Int) - (c : Int) < 0
  · rw [if_pos h0]
    have : ¬ c + k + 1 + q ≤ w := by omega
    simp [this]
  rw [if_neg h0]
  show (match (wordD k).scan true brk true ((w : Int) - (c : Int)) false with
    | .done b => Scan.done b
    | .go l p => scanS true brk [(true, lineDoc), (true, wordD q)] l p).fits = _
  rw [e1]
  by_cases h1 : (w : Int) - (c : Int) - (k : Int) < 0
  · rw [if_pos h1]
    have : ¬ c + k + 1 + q ≤ w := by omega
    simp [this, Scan.fits]
  rw [if_neg h1]
  show (match lineDoc.scan true brk true ((w : Int) - (c : Int) - (k : Int)) false with
    | .done b => Scan.done b
    | .go l p => scanS true brk [(true, wordD q)] l p).fits = _
  rw [e2]
  by_cases h2 : (w : Int) - (c : Int) - (k : Int) - 1 < 0
  · rw [if_pos h2]
    have : ¬ c + k + 1 + q ≤ w := by omega
    simp [this, Scan.fits]
  rw [if_neg h2]
  show (match (wordD q).scan true brk true ((w : Int) - (c : Int) - (k : Int) - 1) false with
    | .done b => Scan.done b
    | .go l p => scanS true brk [] l p).fits = _
  rw [e1]
  by_cases h3 : (w : Int) - (c : Int) - (k : Int) - 1 - (q : Int) < 0
  · rw [if_pos h3]
    have : ¬ c + k + 1 + q ≤ w := by omega
    simp [this, Scan.fits]
  · rw [if_neg h3]
    have : c + k + 1 + q ≤ w := by omega
    simp [this, Scan.fits, scanS]
theorem fil_run (w : Nat) : ∀ (l : List Nat) (k : Nat), 1 ≤ k → k < 10 → (∀ q ∈ l, 1 ≤ q ∧ q < 10) → ∀ (out : Ln) (c : Nat) (brk : Int → Bool), out.length + 10 * l.length ≤ 67100000 →
    ∃ col', Steps (widthOv w).o ⟨out, (c : Int), [⟨[], false, fillD (wordD k :: l.flatMap fun q => [lineDoc, wordD q])⟩], [], brk⟩ ⟨out ++ wordL k ++ filT w (c + k) l, col', [], [], brk⟩
  | [], k, h1, hk, _, out, c, brk, hb => by
    refine ⟨(c : Int) + ((k : Nat) : Int), .step (c := ⟨[], false, fillD [wordD k]⟩) (cs := []) (m1 := ⟨out, (c : Int), [⟨[], fitsM (widthOv w).o ⟨out, (c : Int), [], [], brk⟩ true true [wordD k], wordD k⟩], [], brk⟩) rfl rfl (.one (c := ⟨[], fitsM (widthOv w).o ⟨out, (c : Int), [], [], brk⟩ true true [wordD k], wordD k⟩) (cs := []) rfl ?_)⟩
    unfold wordD
    rw [doM_text _ _ _ _ _ (by simp [wordL]; simp at hb; omega), word_width]
    simp [filT]
  | q :: l, k, h1, hk, h, out, c, brk, hb => by
    have hq := h q (by simp)
    have hlen : out.length + 10 * l.length + 10 ≤ 67100000 := by simp only [List.length_cons] at hb; omega
    have hR : (wordD k :: (q :: l).flatMap fun q => [lineDoc, wordD q]) = wordD k :: lineDoc :: (wordD q :: l.flatMap fun q => [lineDoc, wordD q]) := by simp
    rw [hR]
    obtain ⟨R, hRe⟩ : ∃ R, R = wordD q :: l.flatMap fun q => [lineDoc, wordD q] := ⟨_, rfl⟩
    have hft := fil_fits w c k q out [] brk
    have hst : Steps (widthOv w).o ⟨out, (c : Int), [⟨[], false, fillD (wordD k :: lineDoc :: R)⟩], [], brk⟩ ⟨out ++ wordL k, (c : Int) + (k : Int), [⟨[], decide (c + k + 1 + q ≤ w), lineDoc⟩, ⟨[], false, fillD R⟩], [], brk⟩ := by
      refine .step (c := ⟨[], false, fillD (wordD k :: lineDoc :: R)⟩) (cs := []) (m1 := ⟨out, (c : Int), [⟨[], fitsM (widthOv w).o ⟨out, (c : Int), [], [], brk⟩ true true [wordD k], wordD k⟩, ⟨[], decide (c + k + 1 + q ≤ w), lineDoc⟩, ⟨[], false, fillD R⟩], [], brk⟩) rfl ?_ (.one (c := ⟨[], fitsM (widthOv w).o ⟨out, (c : Int), [], [], brk⟩ true true [wordD k], wordD k⟩) (cs := [⟨[], decide (c + k + 1 + q ≤ w), lineDoc⟩, ⟨[], false, fillD R⟩]) rfl ?_)
      · rw [doM_eq]
        show some (fillM (widthOv w).o ⟨out, (c : Int), [], [], brk⟩ [] (wordD k :: lineDoc :: R)) = _
        have ht : (wordD k :: lineDoc :: R.take 1) = [wordD k, lineDoc, wordD q] := by rw [hRe]; rfl
        show some (pushM (pushM (pushM ⟨out, (c : Int), [], [], brk⟩ [] false [fillD R]) [] (fitsM (widthOv w).o ⟨out, (c : Int), [], [], brk⟩ true true (wordD k :: lineDoc :: R.take 1)) [lineDoc]) [] (fitsM (widthOv w).o ⟨out, (c : Int), [], [], brk⟩ true true [wordD k]) [wordD k]) = _
        rw [ht, hft]
        rfl
      · unfold wordD
        rw [doM_text _ _ _ _ _ (by simp [wordL]; omega), word_width]
    rw [← hRe]
    by_cases hfit : c + k + 1 + q ≤ w
    · obtain ⟨col', ih⟩ := fil_run w l q hq.1 hq.2 (fun x hx => h x (by simp [hx])) (out ++ wordL k ++ [32]) (c + k + 1) brk (by simp [wordL]; omega)
      rw [← hRe] at ih
      refine ⟨col', hst.trans (.step (c := ⟨[], decide (c + k + 1 + q ≤ w), lineDoc⟩) (cs := [⟨[], false, fillD R⟩]) (m1 := ⟨out ++ wordL k ++ [32], ((c + k + 1 : Nat) : Int), [⟨[], false, fillD R⟩], [], brk⟩) rfl ?_ ?_)⟩
      · rw [doM_eq]
        have hd : decide (c + k + 1 + q ≤ w) = true := by simpa using hfit
        show (if decide (c + k + 1 + q ≤ w) = true then (putM ⟨out ++ wordL k, (c : Int) + (k : Int), [⟨[], false, fillD R⟩], [], brk⟩ [32]).map (fun m1 => { m1 with col := m1.col + 1 }) else _) = _
        rw [if_pos hd]
        unfold putM
        rw [if_neg (by simp [wordL]; omega)]
        simp
      · have e : filT w (c + k) (q :: l) = 32 :: (wordL q ++ filT w (c + k + 1 + q) l) := by rw [filT, if_pos hfit]
        rw [e]
        simpa using ih
    · obtain ⟨col', ih⟩ := fil_run w l q hq.1 hq.2 (fun x hx => h x (by simp [hx])) (out ++ wordL k ++ [10]) 0 brk (by simp [wordL]; omega)
      rw [← hRe] at ih
      refine ⟨col', hst.trans (.step (c := ⟨[], decide (c + k + 1 + q ≤ w), lineDoc⟩) (cs := [⟨[], false, fillD R⟩]) (m1 := ⟨out ++ wordL k ++ [10], ((0 : Nat) : Int), [⟨[], false, fillD R⟩], [], brk⟩) rfl ?_ ?_)⟩
      · rw [doM_eq]
        have hd : decide (c + k + 1 + q ≤ w) = false := by simpa using hfit
        show (if decide (c + k + 1 + q ≤ w) = true then _ else lineM (widthOv w).o ⟨out ++ wordL k, (c : Int) + (k : Int), [⟨[], false, fillD R⟩], [], brk⟩ ⟨[], decide (c + k + 1 + q ≤ w), lineDoc⟩) = _
        rw [if_neg (by simp [hd])]
        unfold lineM
        rw [if_neg (by simp), if_neg (show ¬ lineDoc.kind = 6 by decide)]
        show ((putM ⟨trimR (out ++ wordL k), _, _, [], brk⟩ [10]).bind fun m1 => (indM (widthOv w).o [] m1).map fun m2 => { m2 with col := Ind.wide [] }) = _
        rw [trim_w out k h1]
        unfold putM
        rw [if_neg (by simp [wordL]; omega)]
        rfl
      · have e : filT w (c + k) (q :: l) = 10 :: (wordL q ++ filT w q l) := by rw [filT, if_neg hfit]
        rw [e]
        simpa using ih
theorem fil_lay (w : Nat) (hw : 1 ≤ w ∧ w ≤ 10000) (ks : List Nat) (h : ∀ k ∈ ks, 1 ≤ k ∧ k < 10) (hl : ks.length ≤ 200) : layN (filD ks) (widthOv w).o = ((filS w ks).1, 0) := by
  have ho : optOk (widthOv w).o = true := by unfold optOk widthOv; simp; omega
  have hc := fil_code (ks := ks) (fun k hk => (h k hk).2)
  cases ks with
  | nil => exact Steps.lay ho hc (.one (m1 := ⟨[], 0, [], [], fun _ => false⟩) (c := ⟨[], false, filD []⟩) (cs := []) rfl rfl) rfl rfl
  | cons a l =>
    have ha := h a (by simp)
    obtain ⟨col', st⟩ := fil_run w l a ha.1 ha.2 (fun x hx => h x (by simp [hx])) [] 0 (fun _ => false) (by simp only [List.length_cons] at hl; simp; omega)
    have e : (filS w (a :: l)).1 = wordL a ++ filT w a l := fil_fold w l (wordL a) a
    rw [e]
    have := Steps.lay ho hc st rfl rfl
    simpa using this
def filKs (zs : List Int) : List Nat := (zs.take 200).map fun z => 1 + (IntKind.u64.wrap z).toNat % 9
theorem mk_ks (zs : List Int) : (filKs zs).length = min 200 zs.length ∧ (∀ k ∈ filKs zs, 1 ≤ k ∧ k < 10) ∧ ∀ j (hj : j < (filKs zs).length), (filKs zs)[j] = 1 + (IntKind.u64.wrap (zs.getD j 0)).toNat % 9 := by
  refine ⟨by simp [filKs], fun k hk => ?_, fun j hj => ?_⟩
  · unfold filKs at hk
    obtain ⟨z, _, rfl⟩ := List.mem_map.1 hk
    omega
  · have hj' : j < min 200 zs.length := by simpa [filKs] using hj
    have : zs.getD j 0 = zs[j]'(by omega) := by simp [List.getD, show j < zs.length by omega]
    rw [this]
    simp only [filKs, List.getElem_map, List.getElem_take]
theorem fil_layout (w : Nat) (hw : 1 ≤ w ∧ w ≤ 10000) (ks : List Nat) (h : ∀ k ∈ ks, 1 ≤ k ∧ k < 10) (hl : ks.length ≤ 200) (kv : Value) (S : ByteArray) (hS : S = strOf (filS w ks).1) (W : World) (hi : InW W (filD ks) kv) (hT : Tabs W) :
    Calls Tryd.prog 16 #[docV (filD ks) kv, .agg (widthOv w).cells.toArray] W fun e w' => e = .returned (.tuple #[.string S, .int .i64 0]) ∧ Below W.heap.size W w' := by
  have h2 := layout_any (filD ks) kv (widthOv w) W hi (by have := fil_bulk (fun k hk => (h k hk).2) hl; omega) hT
  rw [fil_lay w hw ks h hl, ← hS] at h2
  exact h2
structure FilJ (w : Nat) (ks : List Nat) (j : Nat) (l : List (Doc × Value)) (SF : ByteArray) (c : Nat) : Prop where
  f : SF = strOf (filS w (ks.take j)).1
  c : c = (filS w (ks.take j)).2
  l : l.map Prod.fst = filDs (ks.take j)
theorem FilJ.sizes {w : Nat} {ks : List Nat} {j c : Nat} {l : List (Doc × Value)} {SF : ByteArray} (h : FilJ w ks j l SF c) (hk : ∀ k ∈ ks, 1 ≤ k ∧ k < 10) (hj : j ≤ 200) : SF.size ≤ 2000 ∧ c ≤ 2000 ∧ l.length ≤ 400 := by
  have h4 : ∀ k ∈ ks.take j, k < 10 := fun k hk' => (hk k (List.mem_of_mem_take hk')).2
  have hlen : (ks.take j).length ≤ j := by rw [List.length_take]; omega
  have hs := filS_len w _ h4
  refine ⟨?_, ?_, ?_⟩
  · rw [h.f, strOf_size]; omega
  · rw [h.c]; omega
  · have h1 := congrArg List.length h.l
    rw [List.length_map] at h1
    have := fil_len (ks.take j)
    omega
theorem FilJ.first {w : Nat} {ks : List Nat} {k c : Nat} {l : List (Doc × Value)} {SF : ByteArray} (h : FilJ w ks 0 l SF c) (hj : 0 < ks.length) (hk : ks[0] = k) : FilJ w ks 1 (l ++ [(wordD k, .slice none 0 0)]) (strOf (wordL k)) k := by
  have ht : ks.take 1 = [k] := by rw [List.take_succ_eq_append_getElem hj, hk]; rfl
  exact ⟨by rw [ht]; rfl, by rw [ht]; rfl, by rw [List.map_append, h.l, ht]; rfl⟩
theorem FilJ.more {w : Nat} {ks : List Nat} {j k c : Nat} {l : List (Doc × Value)} {SF : ByteArray} (h : FilJ w ks j l SF c) (h0 : 0 < j) (hj : j < ks.length) (hk : ks[j] = k) :
    (c + 1 + k ≤ w → FilJ w ks (j + 1) (l ++ [(lineDoc, .slice none 0 0)] ++ [(wordD k, .slice none 0 0)]) (SF ++ ⟨#[32]⟩ ++ strOf (wordL k)) (c + 1 + k)) ∧ (¬ c + 1 + k ≤ w → FilJ w ks (j + 1) (l ++ [(lineDoc, .slice none 0 0)] ++ [(wordD k, .slice none 0 0)]) (SF ++ ⟨#[10]⟩ ++ strOf (wordL k)) k) := by
  have ht : ks.take (j + 1) = ks.take j ++ [k] := by rw [List.take_succ_eq_append_getElem hj, hk]
  have hne : ks.take j ≠ [] := by
    intro e
    have := congrArg List.length e
    rw [List.length_take, List.length_nil] at this
    omega
  have hl : (l ++ [(lineDoc, Value.slice none 0 0)] ++ [(wordD k, Value.slice none 0 0)]).map Prod.fst = filDs (ks.take (j + 1)) := by rw [List.map_append, List.map_append, h.l, ht, filDs_snoc, if_neg hne]; rfl
  have e1 : (⟨#[32]⟩ : ByteArray) = strOf [32] := rfl
  have e2 : (⟨#[10]⟩ : ByteArray) = strOf [10] := rfl
  have hs : filS w (ks.take (j + 1)) = filStep w (filS w (ks.take j)) k := by rw [ht, filS_snoc, if_neg hne]
  constructor
  · intro hf
    have hst : filStep w (filS w (ks.take j)) k = ((filS w (ks.take j)).1 ++ [32] ++ wordL k, (filS w (ks.take j)).2 + 1 + k) := by unfold filStep; rw [if_pos (by rw [← h.c]; exact hf)]
    exact ⟨by rw [hs, hst, h.f, e1, strOf_append, strOf_append], by rw [hs, hst, h.c], hl⟩
  · intro hf
    have hst : filStep w (filS w (ks.take j)) k = ((filS w (ks.take j)).1 ++ [10] ++ wordL k, k) := by unfold filStep; rw [if_neg (by rw [← h.c]; exact hf)]
    exact ⟨by rw [hs, hst, h.f, e2, strOf_append, strOf_append], by rw [hs, hst], hl⟩
set_option maxHeartbeats 16000000 in
theorem layoutFills_call (v : Value) (zs : List Int) (x : Int) (w : World) (hv : IntsIn w w.heap.size v zs) (hwf : ∀ n ∈ zs, (Lit.int .i64 n).wf = true) (hm : zs.length ≤ maxLen) (hx : (Lit.int .i64 x).wf = true) (hT : Tabs w) :
    Calls Tryd.prog 5 #[v, .int .i64 x] w fun e w' => e = .returned (.bool true) ∧ Below w.heap.size w w' := by
  have hm9 : zs.length ≤ 9223372036854775807 := by unfold maxLen at hm; omega
  clear hm hx
  obtain ⟨A, c, rfl⟩ := hv.len
  have HT := Lib.hid hT
  have HV := Lib.hid hv
  obtain ⟨ux, hux⟩ := u64_natF x
  obtain ⟨r, hr, hr30⟩ : ∃ r : Nat, (ux : Int) % 40 = (r : Int) ∧ r < 40 := ⟨ux % 40, by omega, by omega⟩
  obtain ⟨ks, hks⟩ : ∃ ks, ks = filKs zs := ⟨_, rfl⟩
  obtain ⟨m1, m2, m3⟩ := mk_ks zs
  rw [← hks] at m1 m2 m3
  have M2 := Lib.hid m2
  have M3 := Lib.hid m3
  obtain ⟨n, hn⟩ : ∃ n, n = zs.length := ⟨_, rfl⟩
  have hkl : ks.length = min 200 n := by rw [hn]; exact m1
  have HN := Lib.hid hn
  rw [← hn]
  rw [← hn] at hm9
  clear hT hv hwf hks m1 m2 m3 hn
  go_enter Tryd.func5, Tryd.ntmps5
  go_wp2_with fail
  refine (awake17_any w HT.out).mono ?_
  rintro e w1 ⟨rfl, hb1⟩
  have HB := Lib.hid hb1
  clear hb1
  go_upto_region 4 with fail
  obtain ⟨wn, hwn⟩ : ∃ wn : Nat, 1 + (r : Int) = (wn : Int) := ⟨1 + r, by omega⟩
  rw [hwn]
  have HWN : Hid (1 ≤ wn ∧ wn ≤ 10000) := Lib.hid (by omega)
  clear hwn hr hux hr30
  go_wp2_with fail
  go_loopw [6, 7, 8, 9] (fun ds s cl i wr => ∃ (j : Nat) (l : List (Doc × Value)) (SF : ByteArray) (cc : Nat), j ≤ ks.length ∧ i = .int .i64 (j : Int) ∧ s = .string SF ∧ cl = .int .i64 (cc : Int) ∧ RowKit.Hid (FilJ wn ks j l SF cc) ∧ Row wr w.heap.size l ds ∧ Below w.heap.size w wr) (fun _ _ _ i _ => 200 - (intOf i).toNat)
  case atStart => exact ⟨0, [], ⟨#[]⟩, 0, Nat.zero_le _, rfl, rfl, rfl, Lib.hid ⟨rfl, rfl, rfl⟩, RowD.nil _ _, HB.out⟩
  case round =>
    obtain ⟨j, l, SF, cc, hj, rfl, rfl, rfl, HJ, hrow, hbw⟩ := hrel
    have HROW := Lib.hid hrow
    have HBW := Lib.hid hbw
    obtain ⟨A1, c1, rfl⟩ := hrow.slice
    obtain ⟨z1, z2, z3⟩ := HJ.out.sizes M2.out (by omega)
    have HWI := Lib.hid HWN.out
    have hwn2 := HWN.out.2
    clear hrow hbw
    by_cases hlt : j < ks.length
    · have hjn : j < n := by omega
      have hj8 : j < 200 := by omega
      rcases HV.out.below HBW.out (Nat.le_refl _) with ⟨A', c', e, hz⟩ | ⟨b, off, c', e, hltb, hpos, hc⟩
      · have := HN.out
        rw [hz] at this
        simp at this
        omega
      injection e with e1 e2 e3
      subst e1
      subst e3
      have c0 := hc j (by rw [← HN.out]; exact hjn)
      have hzq := M3.out j hlt
      generalize hz0e : zs.getD j 0 = z at c0 hzq
      obtain ⟨u, hu⟩ := u64_natF z
      rw [hu] at hzq
      obtain ⟨q, hq, hq30⟩ : ∃ q : Nat, (u : Int) % 9 = (q : Int) ∧ q < 9 := ⟨u % 9, by omega, by omega⟩
      have hkj : ks[j] = 1 + q := by rw [hzq]; omega
      have HKJ := Lib.hid hkj
      clear hc hz0e hzq hkj e2 hpos hltb
      have hk1 : (j : Int) < (n : Int) := by omega
      have hk2 : (j : Int) < 200 := by omega
      go_upto_region 11 with fail
      obtain ⟨k, hk⟩ : ∃ k : Nat, 1 + (q : Int) = (k : Int) := ⟨1 + q, by omega⟩
      rw [hk]
      have hkk : k = 1 + q := by omega
      have HKK : Hid (ks[j] = k) := Lib.hid (by rw [HKJ.out, hkk])
      have hk30 : 1 ≤ k ∧ k ≤ 9 := by omega
      have hsl := fun W => run_slice_word ⟨#[119, 119, 119, 119, 119, 119, 119, 119, 119, 119]⟩ k 10 rfl (by omega) W
      clear hk hkk hq hu c0 hq30
      go_upto_region 12 with fail
      clear hsl
      have hws : (strOf (wordL k)).size = k := by rw [strOf_size]; simp [wordL]
      by_cases h0 : j = 0
      · subst h0
        go_upto_region 17 with (first | (go_at_call 21; refine (text17_any _ _).mono ?_; rintro e w4 ⟨rfl, hb4⟩; have HB4 := Lib.hid hb4; clear hb4; unfold docV; simp only [dtext, Doc.kind, Doc.text, Doc.brk, Doc.id, Doc.width]) | (at_builtin; refine wpList_append_kid (w := w) (K := wordD k) (kv := .slice none 0 0) rfl (.tmp 47) (.tmp 50) rfl (HROW.out.next HB4.out) (Nat.le_trans HBW.out.size HB4.out.size) (HBW.out.call HB4.out) (KidOk.leaf (Nat.le_trans HBW.out.size HB4.out.size) rfl) rfl rfl (by omega) rfl ?_; intro gg cap W' hrow' hbw' hkd' hbl' hsz'; have HR2 := Lib.hid hrow'; have HB2 := Lib.hid hbw'; clear hrow' hbw' hkd' hbl' hsz'))
        have HNX := Lib.hid (HJ.out.first hlt HKK.out)
        go_wp2_with fail
        go_roundw
        case rel => exact ⟨1, _, _, k, by omega, by go_num, rfl, rfl, HNX, by have := HR2.out; simpa using this, HB2.out⟩
        case measure => simp only [intOf]; omega
      · have h0' : (0 : Int) < (j : Int) := by omega
        have h0n : ¬ (j : Int) = 0 := by omega
        have h0b : ((j : Int) == 0) = false := by simpa using h0n
        go_upto_region 14 with (at_builtin; refine wpList_append_kid (w := w) (K := lineDoc) (kv := .slice none 0 0) rfl (.tmp 43) (.tmp 45) rfl HROW.out HBW.out.size HBW.out (KidOk.leaf HBW.out.size rfl) rfl rfl (by omega) rfl ?_; intro g4 cap4 W4 hrow4 hbw4 hkd4 hbl4 hsz4; have HR4 := Lib.hid hrow4; have HB5 := Lib.hid hbw4; clear hrow4 hbw4 hkd4 hbl4 hsz4)
        go_upto_region 17 with (first | (go_at_call 21; refine (text17_any _ _).mono ?_; rintro e w4 ⟨rfl, hb4⟩; have HB4 := Lib.hid hb4; clear hb4; unfold docV; simp only [dtext, Doc.kind, Doc.text, Doc.brk, Doc.id, Doc.width]) | (at_builtin; refine wpList_append_kid (w := w) (K := wordD k) (kv := .slice none 0 0) rfl (.tmp 47) (.tmp 50) rfl (HR4.out.next HB4.out) (Nat.le_trans HB5.out.size HB4.out.size) (HB5.out.call HB4.out) (KidOk.leaf (Nat.le_trans HB5.out.size HB4.out.size) rfl) rfl rfl (by rw [List.length_append]; simp; omega) rfl ?_; intro gg cap W' hrow' hbw' hkd' hbl' hsz'; have HR2 := Lib.hid hrow'; have HB2 := Lib.hid hbw'; clear hrow' hbw' hkd' hbl' hsz'))
        have HNX := Lib.hid (HJ.out.more (by omega) hlt HKK.out)
        by_cases hf : cc + 1 + k ≤ wn
        · have hf' : (cc : Int) + 1 + (k : Int) ≤ (wn : Int) := by omega
          have HN2 := Lib.hid (HNX.out.1 hf)
          clear HNX hf
          go_wp2_with fail
          go_roundw
          case rel => exact ⟨j + 1, _, _, cc + 1 + k, by omega, by go_num, rfl, by go_num, HN2, by have := HR2.out; simpa using this, HB2.out⟩
          case measure => simp only [intOf]; omega
        · have hf' : ¬ (cc : Int) + 1 + (k : Int) ≤ (wn : Int) := by omega
          have HN2 := Lib.hid (HNX.out.2 hf)
          clear HNX hf
          go_wp2_with fail
          go_roundw
          case rel => exact ⟨j + 1, _, _, k, by omega, by go_num, rfl, rfl, HN2, by have := HR2.out; simpa using this, HB2.out⟩
          case measure => simp only [intOf]; omega
    · have hjk : j = ks.length := by omega
      have HG1 : Hid (FilJ wn ks ks.length l SF cc) := Lib.hid (by rw [← hjk]; exact HJ.out)
      have hex : ¬ (j : Int) < (n : Int) ∨ ((j : Int) < (n : Int) ∧ ¬ (j : Int) < 200) := by omega
      have HL8 : Hid (ks.length ≤ 200) := Lib.hid (by omega)
      have HIN : Hid (InW wr (filD ks) (.slice A1 l.length c1)) := Lib.hid (HROW.out.inW (by rw [HG1.out.l, List.take_length]; rfl))
      have HLD := Lib.hid (fil_layout wn HWN.out ks M2.out HL8.out (.slice A1 l.length c1) SF (by rw [HG1.out.f, List.take_length]) wr HIN.out (HT.out.below HBW.out))
      clear hkl hjk hlt hj
      rcases hex with h1 | ⟨h1, h2⟩
      all_goals
        go_wp2_with fail
        refine HLD.out.mono ?_
        rintro e w9 ⟨rfl, hb9⟩
        have HB9 := Lib.hid (HBW.out.call hb9)
        clear hb9
        go_wp2_with (go_at_call 17; refine (num_any _ _).mono ?_; rintro e wn ⟨rfl, rfl⟩)
        go_ret
        exact ⟨rfl, HB9.out⟩

/-- What the walk gives, for every argument. -/
theorem layoutFills_contract (H : Type) (enc : TypeId × Value → H) (W : World) (base : Nat) (args : Array Value) (ds gs : List (DataW H)) (before : List MemPlace)
    (hval : ∀ (j : Nat) t v, Tryd.f5.params[j]? = some t → args[j]? = some v → Value.okWide Tryd.prog W .any base t v)
    (hW : DataW.Whole enc Tryd.prog Tryd.f5.params.toList Rows.layoutFillsSpec.vars false W args.toList ds gs before)
    (hsz : (DataW.weightsEach Tryd.prog (Tryd.f5.params.toList ++ Rows.layoutFillsSpec.plain.varTypes Tryd.prog) (ds ++ gs)).all (· ≤ reachBytes) = true) (hT : Tabs W) :
    Calls Tryd.prog 5 args W fun e W' => ∃ v, e = .returned v ∧ Rows.layoutFillsSpec.post enc Tryd.prog Tryd.f5 false true false false W args v W' := by
  have hW' := hW
  obtain ⟨p, q, hA0, hV, rfl, hfz, hnd⟩ := hW
  have hA : DataW.TrodAll enc Tryd.prog W 0 (fun _ => true) true Tryd.f5.params.toList args.toList ds p := hA0
  rw [Tryd.params5] at hA hval hsz
  obtain ⟨v0, vs0, d0, ds0, p0, q0, hargs, rfl, rfl, h0, r0⟩ := trodAll_cons hA
  obtain ⟨v1, vs1, d1, ds1, p1, q1, rfl, rfl, rfl, h1, r1⟩ := trodAll_cons r0
  obtain ⟨rfl, rfl, rfl⟩ := trodAll_nil r1
  obtain rfl : args = #[v0, v1] := by cases args; simp_all
  obtain ⟨rfl, rfl⟩ := trodVars_none hV
  have hlt := fun x hx => hW'.lt x hx
  obtain ⟨z0, i0, w0, m0⟩ := ints_open Tryd.underlying37 Tryd.underlying3 (by kernel_rfl) (hval 0 37 v0 rfl rfl) h0
  obtain ⟨a1, rfl, rfl, rfl, w1⟩ := open_int Tryd.underlying3 (hval 1 3 v1 rfl rfl) h1
  clear hA0 hval
  refine (layoutFills_call v0 z0 a1 W i0 w0 m0 w1 hT).mono fun e W' ⟨he, hb⟩ => ?_
  subst he
  exact ⟨_, rfl, law_post_any (pv := []) Tryd.underlying4 (by kernel_rfl) hW' rfl (trodAll_cons_mk (Below.trod laidOut (by kernel_rfl) (of_decide_eq_true (by kernel_rfl)) h0 hb (fun x hx => hlt x (by simp [hx]))) (trodAll_cons_mk (shut_int Tryd.underlying3 w1) trodAll_mk0)) rfl hb⟩

theorem layoutFills_reads (os : Os) {H : Type} (enc : TypeId × Value → H) : ∃ places, DataW.whole enc Tryd.prog ((laidWorld os).forCall (fun _ _ => 0) ⟨#[], #[.slice none 0 0, .int .i64 0], []⟩).memory Tryd.f5.params.toList Rows.layoutFillsSpec.vars false (#[.slice none 0 0, .int .i64 0] : Array Value).toList 8 = some ([.nil, .lit (.int .i64 0)], [], places) :=
  ⟨[], by kernel_rfl⟩
theorem layoutFills_lifted (os : Os) (started : os.Started) (H : Type) (enc : TypeId × Value → H) (F : Stop.Interp) :
    ReturnsInHanded {} Tryd.checked os 5 .any ((OpenSpec.ofChange Rows.layoutFillsSpec).preRow enc Tryd.prog Tryd.f5 Rows.layoutFillsRow.domain false Rows.layoutFillsRow.laid) (((OpenSpec.ofChange Rows.layoutFillsSpec).at F).post enc Tryd.prog Tryd.f5 false true false false) := by
  obtain ⟨places, hx⟩ := layoutFills_reads os enc
  refine returnsInHanded_of_row (C := Tryd.checked) (s := (OpenSpec.ofChange Rows.layoutFillsSpec)) ownKnob_none started (by kernel_rfl) Tryd.func5
    (witness_row_at (enc := enc) (C := Tryd.checked) false (laidWorld os) #[.slice none 0 0, .int .i64 0] rfl (by kernel_rfl) (by kernel_rfl) (by kernel_rfl)
      (OpenSpec.preRow_of_cond 8 hx (by kernel_rfl) (fun k hk => by cases hk) (by kernel_rfl) (laid_met os _))) ?_
  intro W base args ds gs before hval hW _ _ hsz hL _ _
  exact layoutFills_contract H enc W base args ds gs before hval hW hsz (tabs_of_laid hL)
theorem layoutFills_said : Rows.LayoutFillsSaid :=
  OpenClaim.holds_of_cond 5 Tryd.f5 rfl rfl rfl rfl rfl rfl rfl ⟨rfl, rfl, rfl, rfl, rfl⟩ rfl rfl rfl rfl rfl (by kernel_rfl) Tryd.func5 (by kernel_rfl)
    (of_decide_eq_true (by kernel_rfl)) (by unfold Func.isWrapper; first | (rw [if_pos (by decide +kernel)]; kernel_rfl) | (rw [if_neg (by decide +kernel)]; exact ⟨rfl, rfl⟩))
    (fun os started H enc _ F => by rw [OpenClaim.pre_eq_preRow]; exact layoutFills_lifted os started H enc F)
theorem layoutFills_plain (f : FuncId) (fn : Func) (hf : Tryd.pinned.checked.prog.funcNamed Rows.layoutFillsRow.func = some f) (hfn : Tryd.pinned.checked.prog.funcs[f]? = some fn) :
    true = Tryd.pinned.checked.prog.looks [] ∧ ∀ (j : Nat) t, fn.params[j]? = some t → Tryd.pinned.checked.prog.wantsStandIn t = false := by
  obtain rfl : f = 5 := Option.some.inj ((show Tryd.prog.funcNamed Rows.layoutFillsRow.func = some 5 by kernel_rfl).symm.trans hf) |>.symm
  obtain rfl : fn = Tryd.f5 := (Option.some.inj (Tryd.func5.symm.trans hfn)).symm
  refine ⟨by kernel_rfl, fun j t ht => ?_⟩
  rw [Tryd.params5] at ht
  have hm := Array.mem_of_getElem? ht
  have hall : ∀ t ∈ (#[37, 3] : Array TypeId), Tryd.prog.wantsStandIn t = false := by
    intro t ht
    simp only [List.mem_toArray, List.mem_cons, List.mem_nil_iff, or_false] at ht
    rcases ht with rfl | rfl
    all_goals kernel_rfl
  exact hall t hm

/-- THE CARD. -/
theorem layoutFills_card : Rows.LayoutFillsCardSaid :=
  Claim7.holds_tied_plain_at .later [] _ _ _ _ layoutFills_said (fun _ h => by cases h) (by kernel_rfl) (fun _ h => by cases h) layoutFills_row_tie rfl ⟨rfl, rfl⟩ (by kernel_rfl) rfl layoutFills_plain (by kernel_rfl)
#print axioms layoutFills_card
end Go.Proofs.YthljgiimdcbfpaaDoor
