/- The law LayoutGroups (platenlaw17) holds of the program. Conditions: the library's tables unicode/utf8.first and acceptRanges read as their initialisers lay them. -/
import Derived.Test.YthljgiimdcbfpaaDoorMLaw
import Derived.Test.YthljgiimdcbfpaaDoorLPFlat
namespace Go.Proofs.YthljgiimdcbfpaaDoor
open Go.RowKit Go.WideShapes Go.ChangeShapes Go.ChangeAt
set_option maxRecDepth 100000
set_option linter.unusedVariables false
set_option linter.unusedSimpArgs false

def widthOv (w : Nat) : OptV := ⟨⟨(w : Int), 2, false, false⟩, false, false, false, false, false⟩
def innC (k : Nat) : Doc := eDoc 2 [wordD k, eDoc 3 [], tD [120]]
def inn (k : Nat) : Doc := eDoc 7 [innC k]
def innL (k : Nat) : Ln := wordL k ++ [32, 120]
def lineDoc : Doc := eDoc 3 []
def grpDs : List Nat → List Doc
  | [] => []
  | k :: l => inn k :: l.flatMap fun q => [lineDoc, inn q]
def grpL (sep : UInt8) : List Nat → Ln
  | [] => []
  | k :: l => innL k ++ l.flatMap fun q => sep :: innL q
theorem grpDs_snoc (l : List Nat) (k : Nat) : grpDs (l ++ [k]) = if l = [] then [inn k] else grpDs l ++ [lineDoc] ++ [inn k] := by
  cases l with
  | nil => rfl
  | cons a l => simp [grpDs]
theorem grpL_snoc (s : UInt8) (l : List Nat) (k : Nat) : grpL s (l ++ [k]) = if l = [] then innL k else grpL s l ++ [s] ++ innL k := by
  cases l with
  | nil => simp [grpL]
  | cons a l => simp [grpL]
def grpD (ks : List Nat) : Doc := eDoc 7 [eDoc 2 (grpDs ks)]
theorem inn_all : (List.range 4).all (fun k => (inn k).shape && (inn k).quiet && decide ((inn k).bulk ≤ 20) && decide ((inn k).depth ≤ 3) && ((inn k).flat == some (innL k)) && ((inn k).flatW == k + 2) && (innC k).shape && (innC k).quiet && ((innC k).flat == some (innL k)) && ((innC k).flatW == k + 2)) = true := by decide +kernel
structure InnOk (k : Nat) : Prop where
  shape : (inn k).shape = true
  quiet : (inn k).quiet = true
  bulk : (inn k).bulk ≤ 20
  depth : (inn k).depth ≤ 3
  flat : (inn k).flat = some (innL k)
  fw : (inn k).flatW = k + 2
  cshape : (innC k).shape = true
  cquiet : (innC k).quiet = true
  cflat : (innC k).flat = some (innL k)
  cfw : (innC k).flatW = k + 2
theorem inn_ok {k : Nat} (h : k < 4) : InnOk k := by
  have h1 := List.all_eq_true.1 inn_all k (List.mem_range.2 h)
  simp only [Bool.and_eq_true, decide_eq_true_eq, beq_iff_eq] at h1
  obtain ⟨⟨⟨⟨⟨⟨⟨⟨⟨a1, a2⟩, a3⟩, a4⟩, a5⟩, a6⟩, a7⟩, a8⟩, a9⟩, a10⟩ := h1
  exact ⟨a1, a2, a3, a4, a5, a6, a7, a8, a9, a10⟩
theorem grp_mem {ks : List Nat} {x : Doc} (h : x ∈ grpDs ks) : x = lineDoc ∨ ∃ k ∈ ks, x = inn k := by
  cases ks with
  | nil => cases h
  | cons a l =>
    simp only [grpDs, List.mem_cons, List.mem_flatMap, List.not_mem_nil, or_false] at h
    rcases h with h | ⟨q, hq, h | h⟩
    · exact .inr ⟨a, by simp, h⟩
    · exact .inl h
    · exact .inr ⟨q, by simp [hq], h⟩
theorem line_facts : lineDoc.shape = true ∧ lineDoc.quiet = true ∧ lineDoc.bulk ≤ 20 ∧ lineDoc.depth ≤ 3 := by decide +kernel
theorem grp_each {ks : List Nat} (h : ∀ k ∈ ks, k < 4) {x : Doc} (hx : x ∈ grpDs ks) : x.shape = true ∧ x.quiet = true ∧ x.bulk ≤ 20 ∧ x.depth ≤ 3 := by
  rcases grp_mem hx with rfl | ⟨k, hk, rfl⟩
  · exact line_facts
  · have := inn_ok (h k hk)
    exact ⟨this.shape, this.quiet, this.bulk, this.depth⟩
theorem grp_len (ks : List Nat) : (grpDs ks).length ≤ 2 * ks.length := by
  cases ks with
  | nil => simp [grpDs]
  | cons a l =>
    simp only [grpDs, List.length_cons, List.length_flatMap, List.length_nil]
    have : (l.map fun _ => 0 + 1 + 1).sum = 2 * l.length := by
      induction l with
      | nil => rfl
      | cons b l ih => simp only [List.map_cons, List.sum_cons, List.length_cons]; omega
    omega
theorem flatL_tail : ∀ (l : List Nat), (∀ k ∈ l, k < 4) → flatL (l.flatMap fun q => [lineDoc, inn q]) = some (l.flatMap fun q => 32 :: innL q) ∧ flatWL (l.flatMap fun q => [lineDoc, inn q]) = (l.flatMap fun q => (32 : UInt8) :: innL q).length
  | [], _ => ⟨rfl, rfl⟩
  | k :: l, h => by
    obtain ⟨i1, i2⟩ := flatL_tail l (fun x hx => h x (by simp [hx]))
    have hk := inn_ok (h k (by simp))
    have e1 : lineDoc.flat = some [32] := rfl
    have e2 : lineDoc.flatW = 1 := rfl
    constructor
    · simp only [List.flatMap_cons, List.cons_append, List.nil_append, flatL, e1, hk.flat, i1]
      simp
    · simp only [List.flatMap_cons, List.cons_append, List.nil_append, flatWL, e2, hk.fw, i2]
      simp [innL, wordL]
      omega
theorem grp_flat {ks : List Nat} (h : ∀ k ∈ ks, k < 4) : flatL (grpDs ks) = some (grpL 32 ks) ∧ flatWL (grpDs ks) = (grpL 32 ks).length := by
  cases ks with
  | nil => exact ⟨rfl, rfl⟩
  | cons a l =>
    obtain ⟨i1, i2⟩ := flatL_tail l (fun x hx => h x (by simp [hx]))
    have ha := inn_ok (h a (by simp))
    constructor
    · simp only [grpDs, flatL, ha.flat, i1, grpL]
      simp
    · simp only [grpDs, flatWL, ha.fw, i2, grpL]
      simp [innL, wordL]
      omega
theorem grpL_len (s : UInt8) (ks : List Nat) (h : ∀ k ∈ ks, k < 4) : (grpL s ks).length ≤ 6 * ks.length := by
  have tl : ∀ l : List Nat, (∀ k ∈ l, k < 4) → (l.flatMap fun q => s :: innL q).length ≤ 6 * l.length := by
    intro l hl
    induction l with
    | nil => simp
    | cons b l ih =>
      have := hl b (by simp)
      have := ih (fun x hx => hl x (by simp [hx]))
      simp only [List.flatMap_cons, List.length_append, List.length_cons]
      simp [innL, wordL] at *
      omega
  cases ks with
  | nil => simp [grpL]
  | cons a l =>
    have := h a (by simp)
    have := tl l (fun x hx => h x (by simp [hx]))
    simp only [grpL, List.length_append, List.length_cons]
    simp [innL, wordL] at *
    omega
/-- One inner group, at a line's beginning, with nothing or a line behind. -/
theorem inn_step (w : Nat) (hw : 6 ≤ w) (k : Nat) (hk : k < 4) (out : Ln) (rest : List Cmd) (brk : Int → Bool) (hr : rest = [] ∨ ∃ c cs, rest = c :: cs ∧ c.flat = false ∧ c.d = lineDoc) (hb : out.length ≤ 67108000) :
    ∃ brk', Steps (widthOv w).o ⟨out, 0, ⟨[], false, inn k⟩ :: rest, [], brk⟩ ⟨out ++ innL k, ((k + 2 : Nat) : Int), rest, [], brk'⟩ := by
  have hi := inn_ok hk
  have hll : (innL k).length = k + 2 := by simp [innL, wordL]
  have hfit : fitsM (widthOv w).o ⟨out, 0, rest, [], brk⟩ true false [innC k] = true := by
    unfold fitsM
    have hwo : (widthOv w).o.width = (w : Int) := rfl
    rw [hwo, if_neg (by show ¬ (w : Int) - 0 < 0; omega)]
    show (match (innC k).scan false brk true ((w : Int) - 0) false with
      | .done b => Scan.done b
      | .go lf p => scanS false brk (rest.map fun c : Cmd => (c.flat, c.d)) lf p).fits = true
    rw [scan_flat (innC k) hi.cshape hi.cquiet _ hi.cflat false brk _ false (by omega), if_neg (by rw [hi.cfw]; omega)]
    show (scanS false brk (rest.map fun c : Cmd => (c.flat, c.d)) _ false).fits = true
    rcases hr with rfl | ⟨c, cs, rfl, h1, h2⟩
    · rfl
    · show (match c.d.scan false brk c.flat _ false with
        | .done b => Scan.done b
        | .go lf p => scanS false brk (cs.map fun c : Cmd => (c.flat, c.d)) lf p).fits = true
      rw [h1, h2]
      rfl
  obtain ⟨br, st⟩ := run_flat (innC k) hi.cshape hi.cquiet _ hi.cflat (widthOv w).o [] out 0 rest [] brk (by omega)
  refine ⟨br, .step (c := ⟨[], false, inn k⟩) (cs := rest) rfl (m1 := ⟨out, 0, ⟨[], true, innC k⟩ :: rest, [], brk⟩) ?_ ?_⟩
  · rw [doM_eq]
    show some (pushM ⟨out, 0, rest, [], brk⟩ [] (false || (!false && fitsM (widthOv w).o ⟨out, 0, rest, [], brk⟩ true false [innC k])) [innC k]) = _
    rw [hfit]
    rfl
  · rw [hi.cfw] at st
    simpa using st
theorem trim_x (out : Ln) (k : Nat) : trimR (out ++ innL k) = out ++ innL k := by
  unfold trimR innL
  have e : out ++ (wordL k ++ [32, 120]) = (out ++ wordL k ++ [32]) ++ [120] := by simp
  rw [e, List.reverse_append]
  show (List.dropWhile blank8 (120 :: (out ++ wordL k ++ [32]).reverse)).reverse = _
  rw [List.dropWhile_cons_of_neg (by decide)]
  simp
theorem grp_tail (w : Nat) (hw : 6 ≤ w) : ∀ (l : List Nat) (a : Nat), a < 4 → (∀ k ∈ l, k < 4) → ∀ (out : Ln) (brk : Int → Bool), out.length + 6 * l.length ≤ 67100000 →
    ∃ brk' col', Steps (widthOv w).o ⟨out, 0, ⟨[], false, inn a⟩ :: (l.flatMap fun q => [lineDoc, inn q]).map (fun d => ⟨[], false, d⟩), [], brk⟩ ⟨out ++ innL a ++ (l.flatMap fun q => 10 :: innL q), col', [], [], brk'⟩
  | [], a, ha, _, out, brk, hb => by
    obtain ⟨br, st⟩ := inn_step w hw a ha out [] brk (.inl rfl) (by simp at hb; omega)
    exact ⟨br, _, by simpa using st⟩
  | q :: l, a, ha, h, out, brk, hb => by
    have hq : q < 4 := h q (by simp)
    have hll : (innL a).length = a + 2 := by simp [innL, wordL]
    obtain ⟨br, st⟩ := inn_step w hw a ha out (((q :: l).flatMap fun q => [lineDoc, inn q]).map (fun d => ⟨[], false, d⟩)) brk (.inr ⟨⟨[], false, lineDoc⟩, _, rfl, rfl, rfl⟩) (by simp at hb; omega)
    obtain ⟨br2, col2, st2⟩ := grp_tail w hw l q hq (fun x hx => h x (by simp [hx])) (out ++ innL a ++ [10]) br (by simp only [List.length_append, List.length_cons, List.length_nil] at hb ⊢; omega)
    refine ⟨br2, col2, st.trans (.step (c := ⟨[], false, lineDoc⟩) (cs := ⟨[], false, inn q⟩ :: (l.flatMap fun q => [lineDoc, inn q]).map (fun d => ⟨[], false, d⟩)) (m1 := ⟨out ++ innL a ++ [10], 0, ⟨[], false, inn q⟩ :: (l.flatMap fun q => [lineDoc, inn q]).map (fun d => ⟨[], false, d⟩), [], br⟩) (by simp) ?_ ?_)⟩
    · rw [doM_eq]
      show lineM (widthOv w).o ⟨out ++ innL a, _, _, [], br⟩ ⟨[], false, lineDoc⟩ = _
      unfold lineM
      rw [if_neg (by simp), if_neg (by decide)]
      show ((putM ⟨trimR (out ++ innL a), _, _, [], br⟩ [10]).bind fun m1 => (indM (widthOv w).o [] m1).map fun m2 => { m2 with col := Ind.wide [] }) = _
      rw [trim_x]
      unfold putM
      rw [if_neg (by simp only [List.length_append, List.length_cons, List.length_nil] at hb ⊢; omega)]
      rfl
    · simpa using st2
theorem grp_broken (w : Nat) (hw : 6 ≤ w) (ks : List Nat) (h : ∀ k ∈ ks, k < 4) (hl : ks.length ≤ 8) (brk : Int → Bool) : ∃ brk' col', Steps (widthOv w).o ⟨[], 0, (grpDs ks).map (fun d => ⟨[], false, d⟩), [], brk⟩ ⟨grpL 10 ks, col', [], [], brk'⟩ := by
  cases ks with
  | nil => exact ⟨brk, 0, .refl _⟩
  | cons a l =>
    obtain ⟨br, c, st⟩ := grp_tail w hw l a (h a (by simp)) (fun x hx => h x (by simp [hx])) [] brk (by simp only [List.length_cons] at hl; simp; omega)
    exact ⟨br, c, by simpa [grpDs, grpL] using st⟩
def grpWant (w : Nat) (ks : List Nat) : Ln := if (grpL 32 ks).length ≤ w then grpL 32 ks else grpL 10 ks
theorem catD_ok {ks : List Nat} (h : ∀ k ∈ ks, k < 4) : (eDoc 2 (grpDs ks)).shape = true ∧ (eDoc 2 (grpDs ks)).quiet = true ∧ (eDoc 2 (grpDs ks)).flat = some (grpL 32 ks) ∧ (eDoc 2 (grpDs ks)).flatW = (grpL 32 ks).length := by
  refine ⟨?_, ?_, ?_, ?_⟩
  · rw [Doc.shape_eq, Bool.and_eq_true]
    exact ⟨rfl, shapeL_of fun x hx => (grp_each h hx).1⟩
  · rw [Doc.quiet_eq, Bool.and_eq_true]
    exact ⟨rfl, quietL_of fun x hx => (grp_each h hx).2.1⟩
  · rw [Doc.flat_eq]
    exact (grp_flat h).1
  · rw [Doc.flatW_eq]
    exact (grp_flat h).2
theorem grp_bulk {ks : List Nat} (h : ∀ k ∈ ks, k < 4) (hl : ks.length ≤ 8) : (grpD ks).bulk ≤ 1000 := by
  have h1 := bulkL_of (ks := grpDs ks) (n := 20) (fun x hx => (grp_each h hx).2.2.1)
  have h2 := grp_len ks
  have h3 : (eDoc 2 (grpDs ks)).bulk = bulkL (grpDs ks) + 0 + 1 := Doc.bulk_eq _
  have h4 : (grpD ks).bulk = (eDoc 2 (grpDs ks)).bulk + 0 + 0 + 1 := Doc.bulk_eq _
  have h5 : 20 * (grpDs ks).length ≤ 20 * (2 * ks.length) := Nat.mul_le_mul_left 20 h2
  omega
theorem grp_code {ks : List Nat} (h : ∀ k ∈ ks, k < 4) : (grpD ks).code = 0 := by
  refine word_code ?_ ?_
  · rw [Doc.shape_eq, Bool.and_eq_true]
    refine ⟨rfl, ?_⟩
    show ((eDoc 2 (grpDs ks)).shape && true) = true
    rw [(catD_ok h).1]
    rfl
  · have h1 := depthL_of (ks := grpDs ks) (n := 3) (fun x hx => (grp_each h hx).2.2.2)
    have h2 : (eDoc 2 (grpDs ks)).depth = depthL (grpDs ks) + 1 := Doc.depth_eq _
    have h3 : (grpD ks).depth = max (eDoc 2 (grpDs ks)).depth 0 + 1 := Doc.depth_eq _
    omega
theorem grp_lay (w : Nat) (hw : 6 ≤ w ∧ w ≤ 10000) (ks : List Nat) (h : ∀ k ∈ ks, k < 4) (hl : ks.length ≤ 8) : laidB (grpD ks) (widthOv w).o (grpWant w ks) = true := by
  obtain ⟨c1, c2, c3, c4⟩ := catD_ok h
  have hf := fits_flat (widthOv w).o ⟨[], 0, [], [], fun _ => false⟩ (eDoc 2 (grpDs ks)) _ c1 c2 c3 rfl rfl (by show (0 : Int) ≤ (w : Int); omega)
  rw [c4] at hf
  have ho : optOk (widthOv w).o = true := by unfold optOk widthOv; simp; omega
  have hd : doM (widthOv w).o ⟨[], 0, [], [], fun _ => false⟩ ⟨[], false, grpD ks⟩ = some ⟨[], 0, [⟨[], fitsM (widthOv w).o ⟨[], 0, [], [], fun _ => false⟩ true false [eDoc 2 (grpDs ks)], eDoc 2 (grpDs ks)⟩], [], fun _ => false⟩ := by
    rw [doM_eq]
    show some (pushM ⟨[], 0, [], [], fun _ => false⟩ [] (false || (!false && fitsM (widthOv w).o ⟨[], 0, [], [], fun _ => false⟩ true false [eDoc 2 (grpDs ks)])) [eDoc 2 (grpDs ks)]) = _
    simp [pushM]
  have hlen := grpL_len 32 ks h
  unfold grpWant
  by_cases hfit : (grpL 32 ks).length ≤ w
  · rw [if_pos hfit]
    rw [hf, show decide (((grpL 32 ks).length : Int) ≤ (widthOv w).o.width) = true from by simp [widthOv]; omega] at hd
    obtain ⟨br, st⟩ := run_flat (eDoc 2 (grpDs ks)) c1 c2 _ c3 (widthOv w).o [] [] 0 [] [] (fun _ => false) (by simp; omega)
    exact laid_of (Steps.lay ho (grp_code h) (.step (c := ⟨[], false, grpD ks⟩) (cs := []) rfl hd (by simpa using st)) rfl rfl)
  · rw [if_neg hfit]
    rw [hf, show decide (((grpL 32 ks).length : Int) ≤ (widthOv w).o.width) = false from by simp [widthOv]; omega] at hd
    obtain ⟨br, cl, st⟩ := grp_broken w hw.1 ks h hl (fun _ => false)
    refine laid_of (Steps.lay ho (grp_code h) (.step (c := ⟨[], false, grpD ks⟩) (cs := []) rfl hd (.step (c := ⟨[], false, eDoc 2 (grpDs ks)⟩) (cs := []) (m1 := ⟨[], 0, (grpDs ks).map (fun d => ⟨[], false, d⟩), [], fun _ => false⟩) rfl ?_ st)) rfl rfl)
    rw [doM_eq]
    show some (pushM ⟨[], 0, [], [], fun _ => false⟩ [] false (grpDs ks)) = _
    simp [pushM]
def grpKs (zs : List Int) : List Nat := (zs.take 8).map fun z => 1 + (IntKind.u64.wrap z).toNat % 3
theorem mk_ks (zs : List Int) : (grpKs zs).length = min 8 zs.length ∧ (∀ k ∈ grpKs zs, 1 ≤ k ∧ k < 4) ∧ ∀ j (hj : j < (grpKs zs).length), (grpKs zs)[j] = 1 + (IntKind.u64.wrap (zs.getD j 0)).toNat % 3 := by
  refine ⟨by simp [grpKs], fun k hk => ?_, fun j hj => ?_⟩
  · unfold grpKs at hk
    obtain ⟨z, _, rfl⟩ := List.mem_map.1 hk
    omega
  · have hj' : j < min 8 zs.length := by simpa [grpKs] using hj
    have : zs.getD j 0 = zs[j]'(by omega) := by simp [List.getD, show j < zs.length by omega]
    rw [this]
    simp only [grpKs, List.getElem_map, List.getElem_take]
theorem grp_laid (w : Nat) (hw : 6 ≤ w ∧ w ≤ 10000) (ks : List Nat) (h : ∀ k ∈ ks, k < 4) (hl : ks.length ≤ 8) (kv : Value) (S : ByteArray) (hS : S = strOf (grpWant w ks)) (W : World) (hi : InW W (grpD ks) kv) (hT : Tabs W) :
    Calls Tryd.prog 25 #[docV (grpD ks) kv, .agg (widthOv w).cells.toArray, .string S] W fun e w' => e = .returned (.bool true) ∧ Below W.heap.size W w' := by
  have h2 := laid_any (grpD ks) kv (widthOv w) (grpWant w ks) W hi (by have := grp_bulk h hl; omega) hT
  rw [grp_lay w hw ks h hl, ← hS] at h2
  exact h2
/-- What the loop's round stands on. -/
structure GAtJ (ks : List Nat) (j : Nat) (l : List (Doc × Value)) (SF SB : ByteArray) : Prop where
  f : SF = strOf (grpL 32 (ks.take j))
  b : SB = strOf (grpL 10 (ks.take j))
  l : l.map Prod.fst = grpDs (ks.take j)
theorem GAtJ.sizes {ks : List Nat} {j : Nat} {l : List (Doc × Value)} {SF SB : ByteArray} (h : GAtJ ks j l SF SB) (hk : ∀ k ∈ ks, 1 ≤ k ∧ k < 4) (hj : j ≤ 8) : SF.size ≤ 48 ∧ SB.size ≤ 48 ∧ l.length ≤ 16 := by
  have h4 : ∀ k ∈ ks.take j, k < 4 := fun k hk' => (hk k (List.mem_of_mem_take hk')).2
  have hlen : (ks.take j).length ≤ j := by rw [List.length_take]; omega
  refine ⟨?_, ?_, ?_⟩
  · rw [h.f, strOf_size]; have := grpL_len 32 _ h4; omega
  · rw [h.b, strOf_size]; have := grpL_len 10 _ h4; omega
  · have h1 := congrArg List.length h.l
    rw [List.length_map] at h1
    have := grp_len (ks.take j)
    omega
theorem GAtJ.first {ks : List Nat} {k : Nat} {l : List (Doc × Value)} {SF SB : ByteArray} (h : GAtJ ks 0 l SF SB) (hj : 0 < ks.length) (hk : ks[0] = k) (kv : Value) : GAtJ ks 1 (l ++ [(inn k, kv)]) (SF ++ strOf (wordL k) ++ ⟨#[32, 120]⟩) (SB ++ strOf (wordL k) ++ ⟨#[32, 120]⟩) := by
  have ht : ks.take 1 = [k] := by rw [List.take_succ_eq_append_getElem hj, hk]; rfl
  have e : (⟨#[32, 120]⟩ : ByteArray) = strOf [32, 120] := rfl
  refine ⟨?_, ?_, ?_⟩
  · rw [h.f, ht, e, strOf_append, strOf_append]; simp [grpL, innL]
  · rw [h.b, ht, e, strOf_append, strOf_append]; simp [grpL, innL]
  · rw [List.map_append, h.l, ht]; rfl
theorem GAtJ.more {ks : List Nat} {j k : Nat} {l : List (Doc × Value)} {SF SB : ByteArray} (h : GAtJ ks j l SF SB) (h0 : 0 < j) (hj : j < ks.length) (hk : ks[j] = k) (kv : Value) : GAtJ ks (j + 1) (l ++ [(lineDoc, .slice none 0 0)] ++ [(inn k, kv)]) (SF ++ ⟨#[32]⟩ ++ strOf (wordL k) ++ ⟨#[32, 120]⟩) (SB ++ ⟨#[10]⟩ ++ strOf (wordL k) ++ ⟨#[32, 120]⟩) := by
  have ht : ks.take (j + 1) = ks.take j ++ [k] := by rw [List.take_succ_eq_append_getElem hj, hk]
  have hne : ks.take j ≠ [] := by
    intro e
    have := congrArg List.length e
    rw [List.length_take, List.length_nil] at this
    omega
  have e : (⟨#[32, 120]⟩ : ByteArray) = strOf [32, 120] := rfl
  have e1 : (⟨#[32]⟩ : ByteArray) = strOf [32] := rfl
  have e2 : (⟨#[10]⟩ : ByteArray) = strOf [10] := rfl
  refine ⟨?_, ?_, ?_⟩
  · rw [h.f, ht, e, e1, strOf_append, strOf_append, strOf_append, grpL_snoc, if_neg hne]; simp [innL]
  · rw [h.b, ht, e, e2, strOf_append, strOf_append, strOf_append, grpL_snoc, if_neg hne]; simp [innL]
  · rw [List.map_append, List.map_append, h.l, ht, grpDs_snoc, if_neg hne]; rfl
set_option maxHeartbeats 16000000 in
theorem layoutGroups_call (v : Value) (zs : List Int) (x : Int) (w : World) (hv : IntsIn w w.heap.size v zs) (hwf : ∀ n ∈ zs, (Lit.int .i64 n).wf = true) (hm : zs.length ≤ maxLen) (hx : (Lit.int .i64 x).wf = true) (hT : Tabs w) :
    Calls Tryd.prog 9 #[v, .int .i64 x] w fun e w' => e = .returned (.bool true) ∧ Below w.heap.size w w' := by
  have hm9 : zs.length ≤ 9223372036854775807 := by unfold maxLen at hm; omega
  clear hm hx
  obtain ⟨A, c, rfl⟩ := hv.len
  have HT := Lib.hid hT
  have HV := Lib.hid hv
  obtain ⟨ux, hux⟩ := u64_natF x
  obtain ⟨r, hr, hr30⟩ : ∃ r : Nat, (ux : Int) % 30 = (r : Int) ∧ r < 30 := ⟨ux % 30, by omega, by omega⟩
  obtain ⟨ks, hks⟩ : ∃ ks, ks = grpKs zs := ⟨_, rfl⟩
  obtain ⟨m1, m2, m3⟩ := mk_ks zs
  rw [← hks] at m1 m2 m3
  have M2 := Lib.hid m2
  have M3 := Lib.hid m3
  obtain ⟨n, hn⟩ : ∃ n, n = zs.length := ⟨_, rfl⟩
  have hkl : ks.length = min 8 n := by rw [hn]; exact m1
  have HN := Lib.hid hn
  rw [← hn]
  rw [← hn] at hm9
  clear hT hv hwf hks m1 m2 m3 hn
  go_enter Tryd.func9, Tryd.ntmps9
  go_wp2_with fail
  refine (awake17_any w HT.out).mono ?_
  rintro e w1 ⟨rfl, hb1⟩
  have HB := Lib.hid hb1
  clear hb1
  go_upto_region 4 with fail
  obtain ⟨wn, hwn⟩ : ∃ wn : Nat, 6 + (r : Int) = (wn : Int) := ⟨6 + r, by omega⟩
  rw [hwn]
  have HWN : Hid (6 ≤ wn ∧ wn ≤ 10000) := Lib.hid (by omega)
  clear hwn hr hux hr30
  go_wp2_with fail
  go_loopw [6, 7, 8, 9] (fun ds s b i wr => ∃ (j : Nat) (l : List (Doc × Value)) (SF SB : ByteArray), j ≤ ks.length ∧ i = .int .i64 (j : Int) ∧ s = .string SF ∧ b = .string SB ∧ RowKit.Hid (GAtJ ks j l SF SB) ∧ Row wr w.heap.size l ds ∧ Below w.heap.size w wr) (fun _ _ _ i _ => 8 - (intOf i).toNat)
  case atStart => exact ⟨0, [], ⟨#[]⟩, ⟨#[]⟩, Nat.zero_le _, rfl, rfl, rfl, Lib.hid ⟨rfl, rfl, rfl⟩, RowD.nil _ _, HB.out⟩
  case round =>
    obtain ⟨j, l, SF, SB, hj, rfl, rfl, rfl, HJ, hrow, hbw⟩ := hrel
    have HROW := Lib.hid hrow
    have HBW := Lib.hid hbw
    obtain ⟨A1, c1, rfl⟩ := hrow.slice
    obtain ⟨z1, z2, z3⟩ := HJ.out.sizes M2.out (by omega)
    clear hrow hbw
    by_cases hlt : j < ks.length
    · have hjn : j < n := by omega
      have hj8 : j < 8 := by omega
      rcases HV.out.below HBW.out (Nat.le_refl _) with ⟨A', c', e, hz⟩ | ⟨b, off, c', e, hltb, hpos, hc⟩
      · have := HN.out
        rw [hz] at this
        simp at this
        omega
      injection e with e1 e2 e3
      subst e1
      subst e3
      have c0 := hc j (by rw [← HN.out]; exact hjn)
      have hzq := M3.out j hlt
      generalize hz0e : zs.getD j 0 = z at c0 hzq
      obtain ⟨u, hu⟩ := u64_natF z
      rw [hu] at hzq
      obtain ⟨q, hq, hq30⟩ : ∃ q : Nat, (u : Int) % 3 = (q : Int) ∧ q < 3 := ⟨u % 3, by omega, by omega⟩
      have hkj : ks[j] = 1 + q := by rw [hzq]; omega
      have HKJ := Lib.hid hkj
      clear hc hz0e hzq hkj e2 hpos hltb
      have hk1 : (j : Int) < (n : Int) := by omega
      have hk2 : (j : Int) < 8 := by omega
      go_upto_region 10 with fail
      obtain ⟨k, hk⟩ : ∃ k : Nat, 1 + (q : Int) = (k : Int) := ⟨1 + q, by omega⟩
      rw [hk]
      have hkk : k = 1 + q := by omega
      have HKK : Hid (ks[j] = k) := Lib.hid (by rw [HKJ.out, hkk])
      have hk30 : 1 ≤ k ∧ k ≤ 3 := by omega
      have hsl := fun W => run_slice_word ⟨#[119, 119, 119]⟩ k 3 rfl (by omega) W
      clear hk hkk hq hu c0 hq30
      have HB := Lib.hid (Below.refl wr.heap.size wr)
      go_upto_region 11 with fail
      clear hsl
      go_wp2_with (first | (go_at_call 21; refine (text17_any _ _).mono ?_; rintro e wt ⟨rfl, hbt⟩; have HBX := Lib.hid (HB.out.call hbt); clear HB hbt; have HB := HBX; clear HBX; unfold docV; simp only [dtext, Doc.kind, Doc.text, Doc.brk, Doc.id, Doc.width]) | (go_at_call 24; refine (leaf_any _ _).mono ?_; rintro e wt ⟨rfl, hbt⟩; have HBX := Lib.hid (HB.out.call hbt); clear HB hbt; have HB := HBX; clear HBX; unfold docV; simp only [eDoc, Doc.kind, Doc.text, Doc.brk, Doc.id, Doc.width]))
      refine (cat_any [wordD k, lineDoc, tD [120]] _ _ _ _).mono ?_
      rintro e w3 ⟨rfl, hb3⟩
      have hB3 : Blk w3 wt.heap.size (docsCells [(wordD k, .slice none 0 0), (lineDoc, .slice none 0 0), (tD [120], .slice none 0 0)]) 24 := (Blk.new' (W := wt) _ _ rfl).below hb3
      have hw3 := (HB.out.alloc HB.out.size _).call hb3
      have hwt3 : wt.heap.size < w3.heap.size := hB3.lt
      obtain ⟨V, hV⟩ : ∃ V, V = (w3.alloc (.cells (docsCells [(innC k, .slice (some ⟨wt.heap.size, 0, none⟩) 3 3)]).toArray 24)).alloc (.cells (docCells (inn k) (.slice (some ⟨w3.heap.size, 0, none⟩) 1 1)).toArray 24) := ⟨_, rfl⟩
      have hbV : Below w3.heap.size w3 V := by rw [hV]; exact ((Below.refl _ _).alloc (Nat.le_refl _) _).alloc (by simp) _
      have hzV : V.heap.size = w3.heap.size + 2 := by rw [hV]; simp
      have hB4 : Blk V w3.heap.size (docsCells [(innC k, .slice (some ⟨wt.heap.size, 0, none⟩) 3 3)]) 24 := by rw [hV]; exact (Blk.new' (W := w3) _ _ rfl).alloc _
      have hin : Blk V (w3.heap.size + 1) (docCells (inn k) (.slice (some ⟨w3.heap.size, 0, none⟩) 1 1)) 24 := by rw [hV]; exact Blk.new' _ _ (by simp)
      have hwtr := HB.out.size
      have kg1 : KG false anyX V wr.heap.size V.heap.size (innC k) (.slice (some ⟨wt.heap.size, 0, none⟩) 3 3) := kg_made (cap := 3) [(wordD k, .slice none 0 0), (lineDoc, .slice none 0 0), (tD [120], .slice none 0 0)] (hB3.below hbV) (by intro p hp; simp at hp; rcases hp with rfl | rfl | rfl <;> exact kg_nil rfl) hwtr (by omega) rfl (by simp)
      have kg2 : KG false anyX V wr.heap.size V.heap.size (inn k) (.slice (some ⟨w3.heap.size, 0, none⟩) 1 1) := kg_made (cap := 1) [(innC k, .slice (some ⟨wt.heap.size, 0, none⟩) 3 3)] hB4 (by intro p hp; rw [List.mem_singleton] at hp; subst hp; exact kg1) (by omega) (by omega) rfl (by simp)
      have HWV := Lib.hid (hw3.trans (hbV.mono hw3.size))
      have HKD : Hid (KidOk V w.heap.size (.slice A1 l.length c1) (inn k, .slice (some ⟨w3.heap.size, 0, none⟩) 1 1)) := Lib.hid (KidOk.fresh HROW.out HBW.out.size (Nat.le_refl _) (Nat.le_refl _) kg2)
      have HRV := Lib.hid (HROW.out.next HWV.out)
      have HIN := Lib.hid hin
      have HVV := Lib.hid hV
      have HGZ : Hid (wr.heap.size ≤ w3.heap.size ∧ w3.heap.size + 1 < V.heap.size) := Lib.hid ⟨by omega, by omega⟩
      clear hB3 hw3 hwt3 hV hbV hzV hB4 hin hwtr kg1 kg2 hb3 HB
      unfold docV
      simp only [eDoc, Doc.kind, Doc.text, Doc.brk, Doc.id, Doc.width]
      go_upto_region 12 with fail
      refine Code.wp_world HVV.out ?_
      generalize hG : w3.heap.size + 1 = G at *
      have HGE := Lib.hid hG
      have HOW : Hid ((Value.slice A1 l.length c1).ownBlock ≠ some G) := Lib.hid (fun e => by have := (HROW.out.own.lt _ e).2; have := HGZ.out; have := HGE.out; omega)
      have HBV := Lib.hid (HBW.out.trans (HWV.out.mono HBW.out.size))
      generalize hgi : w3.heap.size = gi at *
      clear hG hgi
      by_cases h0 : j = 0
      · subst h0
        have c0 := HIN.out.cell 0
        have c1 := HIN.out.cell 1
        have c2 := HIN.out.cell 2
        have c3 := HIN.out.cell 3
        have c4 := HIN.out.cell 4
        have c5 := HIN.out.cell 5
        simp only [docCells, inn, eDoc, Doc.kind, Doc.text, Doc.brk, Doc.id, Doc.width, List.getElem?_cons_zero, List.getElem?_cons_succ] at c0 c1 c2 c3 c4 c5
        go_upto_region 17 with (at_builtin; refine wpList_append_kid (w := w) (K := inn k) (kv := .slice (some ⟨gi, 0, none⟩) 1 1) rfl (.tmp 59) (.tmp 61) rfl HRV.out HBV.out.size HBV.out HKD.out rfl rfl (by omega) rfl ?_; intro gg cap W' hrow' hbw' hkd' hbl' hsz'; have HR2 := Lib.hid hrow'; have HB2 := Lib.hid hbw'; clear hrow' hbw' hkd' hbl' hsz')
        have HNX := Lib.hid (HJ.out.first hlt HKK.out (.slice (some ⟨gi, 0, none⟩) 1 1))
        have hws : (strOf (wordL k)).size = k := by rw [strOf_size]; simp [wordL]
        clear c0 c1 c2 c3 c4 c5
        go_wp2_with fail
        go_roundw
        case rel => exact ⟨1, _, _, _, by omega, by go_num, rfl, rfl, HNX, by have := HR2.out; simpa using this, HB2.out⟩
        case measure => simp only [intOf]; omega
      · have h0' : (0 : Int) < (j : Int) := by omega
        go_upto_region 16 with (first | (go_at_call 24; refine (leaf_any _ _).mono ?_; rintro e w4 ⟨rfl, hb4⟩; have HB4 := Lib.hid hb4; clear hb4; unfold docV; simp only [eDoc, Doc.kind, Doc.text, Doc.brk, Doc.id, Doc.width]) | (at_builtin; refine wpList_append_kid (w := w) (K := lineDoc) (kv := .slice none 0 0) rfl (.tmp 51) (.tmp 53) rfl (HRV.out.next HB4.out) (Nat.le_trans HBV.out.size HB4.out.size) (HBV.out.call HB4.out) (KidOk.leaf (Nat.le_trans HBV.out.size HB4.out.size) rfl) rfl rfl (by omega) rfl ?_; intro g4 cap4 W4 hrow4 hbw4 hkd4 hbl4 hsz4; have HR4 := Lib.hid hrow4; have HB5 := Lib.hid hbw4; have HKD4 := Lib.hid (hkd4 _ (HKD.out.next HB4.out)); have HIN4 : Hid (Blk W4 G (docCells (inn k) (.slice (some ⟨gi, 0, none⟩) 1 1)) 24) := Lib.hid ((hbl4 G (Nat.lt_of_lt_of_le HIN.out.lt HB4.out.size) HOW.out).trans (HIN.out.below HB4.out)); clear hrow4 hbw4 hkd4 hbl4 hsz4))
        have c0 := HIN4.out.cell 0
        have c1 := HIN4.out.cell 1
        have c2 := HIN4.out.cell 2
        have c3 := HIN4.out.cell 3
        have c4 := HIN4.out.cell 4
        have c5 := HIN4.out.cell 5
        simp only [docCells, inn, eDoc, Doc.kind, Doc.text, Doc.brk, Doc.id, Doc.width, List.getElem?_cons_zero, List.getElem?_cons_succ] at c0 c1 c2 c3 c4 c5
        go_upto_region 17 with (at_builtin; refine wpList_append_kid (w := w) (K := inn k) (kv := .slice (some ⟨gi, 0, none⟩) 1 1) rfl (.tmp 59) (.tmp 61) rfl HR4.out HB5.out.size HB5.out HKD4.out rfl rfl (by rw [List.length_append]; simp; omega) rfl ?_; intro gg cap W' hrow' hbw' hkd' hbl' hsz'; have HR2 := Lib.hid hrow'; have HB2 := Lib.hid hbw'; clear hrow' hbw' hkd' hbl' hsz')
        have HNX := Lib.hid (HJ.out.more (by omega) hlt HKK.out (.slice (some ⟨gi, 0, none⟩) 1 1))
        have hws : (strOf (wordL k)).size = k := by rw [strOf_size]; simp [wordL]
        clear c0 c1 c2 c3 c4 c5
        go_wp2_with fail
        go_roundw
        case rel => exact ⟨j + 1, _, _, _, by omega, by go_num, rfl, rfl, HNX, by have := HR2.out; simpa using this, HB2.out⟩
        case measure => simp only [intOf]; omega
    · have hjk : j = ks.length := by omega
      have HG1 : Hid (GAtJ ks ks.length l SF SB) := Lib.hid (by rw [← hjk]; exact HJ.out)
      have hex : ¬ (j : Int) < (n : Int) ∨ ((j : Int) < (n : Int) ∧ ¬ (j : Int) < 8) := by omega
      have HL8 : Hid (ks.length ≤ 8) := Lib.hid (by omega)
      have HIN : Hid (InW wr (eDoc 2 (grpDs ks)) (.slice A1 l.length c1)) := Lib.hid (HROW.out.inW (by rw [HG1.out.l, List.take_length]; rfl))
      have hsf : SF.size = (grpL 32 ks).length := by rw [HG1.out.f, strOf_size, List.take_length]
      have HWT : Hid ((if SF.size ≤ wn then SF else SB) = strOf (grpWant wn ks)) := Lib.hid (by
        unfold grpWant
        rw [← hsf]
        by_cases h : SF.size ≤ wn
        · rw [if_pos h, if_pos h, HG1.out.f, List.take_length]
        · rw [if_neg h, if_neg h, HG1.out.b, List.take_length])
      have HLD := Lib.hid (fun (kv : Value) (W : World) (hi : InW W (grpD ks) kv) (hT : Tabs W) => grp_laid wn HWN.out ks (fun k hk => (M2.out k hk).2) HL8.out kv (if SF.size ≤ wn then SF else SB) HWT.out W hi hT)
      clear hkl hjk hlt hj hsf
      by_cases hfit : SF.size ≤ wn
      all_goals
        have HFT := Lib.hid hfit
        have hfi : ((SF.size : Int) ≤ (wn : Int)) = (SF.size ≤ wn) := by apply propext; omega
        simp only [hfit, if_true, if_false] at HLD
        rcases hex with h1 | ⟨h1, h2⟩
        all_goals
          go_wp2_with fail
          refine (cat_any (grpDs ks) _ _ _ _).mono ?_
          rintro e w3 ⟨rfl, hb3⟩
          have HIN3 := Lib.hid (HIN.out.next hb3)
          have HB3 := Lib.hid (HBW.out.call hb3)
          clear hb3
          have hrw : InW (w3.alloc (.cells (docsCells [(eDoc 2 (grpDs ks), .slice A1 l.length c1)]).toArray 24)) (grpD ks) (.slice (some ⟨w3.heap.size, 0, none⟩) 1 1) := InW.row 1 [(eDoc 2 (grpDs ks), .slice A1 l.length c1)] (by intro p hp; rw [List.mem_singleton] at hp; subst hp; exact HIN3.out) rfl (by simp)
          have HB4 := Lib.hid (HB3.out.alloc HB3.out.size (.cells (docsCells [(eDoc 2 (grpDs ks), .slice A1 l.length c1)]).toArray 24))
          have HRW := Lib.hid hrw
          clear hrw
          unfold docV
          simp only [eDoc, Doc.kind, Doc.text, Doc.brk, Doc.id, Doc.width]
          go_wp2_with fail
          refine (HLD.out _ _ HRW.out (HT.out.below HB4.out)).mono ?_
          rintro e w9 ⟨rfl, hb9⟩
          have HB9 := Lib.hid (HB4.out.call hb9)
          clear hb9
          go_wp2_with fail
          go_ret
          exact ⟨rfl, HB9.out⟩

/-- What the walk gives, for every argument. -/
theorem layoutGroups_contract (H : Type) (enc : TypeId × Value → H) (W : World) (base : Nat) (args : Array Value) (ds gs : List (DataW H)) (before : List MemPlace)
    (hval : ∀ (j : Nat) t v, Tryd.f9.params[j]? = some t → args[j]? = some v → Value.okWide Tryd.prog W .any base t v)
    (hW : DataW.Whole enc Tryd.prog Tryd.f9.params.toList Rows.layoutGroupsSpec.vars false W args.toList ds gs before)
    (hsz : (DataW.weightsEach Tryd.prog (Tryd.f9.params.toList ++ Rows.layoutGroupsSpec.plain.varTypes Tryd.prog) (ds ++ gs)).all (· ≤ reachBytes) = true) (hT : Tabs W) :
    Calls Tryd.prog 9 args W fun e W' => ∃ v, e = .returned v ∧ Rows.layoutGroupsSpec.post enc Tryd.prog Tryd.f9 false true false false W args v W' := by
  have hW' := hW
  obtain ⟨p, q, hA0, hV, rfl, hfz, hnd⟩ := hW
  have hA : DataW.TrodAll enc Tryd.prog W 0 (fun _ => true) true Tryd.f9.params.toList args.toList ds p := hA0
  rw [Tryd.params9] at hA hval hsz
  obtain ⟨v0, vs0, d0, ds0, p0, q0, hargs, rfl, rfl, h0, r0⟩ := trodAll_cons hA
  obtain ⟨v1, vs1, d1, ds1, p1, q1, rfl, rfl, rfl, h1, r1⟩ := trodAll_cons r0
  obtain ⟨rfl, rfl, rfl⟩ := trodAll_nil r1
  obtain rfl : args = #[v0, v1] := by cases args; simp_all
  obtain ⟨rfl, rfl⟩ := trodVars_none hV
  have hlt := fun x hx => hW'.lt x hx
  obtain ⟨z0, i0, w0, m0⟩ := ints_open Tryd.underlying37 Tryd.underlying3 (by kernel_rfl) (hval 0 37 v0 rfl rfl) h0
  obtain ⟨a1, rfl, rfl, rfl, w1⟩ := open_int Tryd.underlying3 (hval 1 3 v1 rfl rfl) h1
  clear hA0 hval
  refine (layoutGroups_call v0 z0 a1 W i0 w0 m0 w1 hT).mono fun e W' ⟨he, hb⟩ => ?_
  subst he
  exact ⟨_, rfl, law_post_any (pv := []) Tryd.underlying4 (by kernel_rfl) hW' rfl (trodAll_cons_mk (Below.trod laidOut (by kernel_rfl) (of_decide_eq_true (by kernel_rfl)) h0 hb (fun x hx => hlt x (by simp [hx]))) (trodAll_cons_mk (shut_int Tryd.underlying3 w1) trodAll_mk0)) rfl hb⟩

theorem layoutGroups_reads (os : Os) {H : Type} (enc : TypeId × Value → H) : ∃ places, DataW.whole enc Tryd.prog ((laidWorld os).forCall (fun _ _ => 0) ⟨#[], #[.slice none 0 0, .int .i64 0], []⟩).memory Tryd.f9.params.toList Rows.layoutGroupsSpec.vars false (#[.slice none 0 0, .int .i64 0] : Array Value).toList 8 = some ([.nil, .lit (.int .i64 0)], [], places) :=
  ⟨[], by kernel_rfl⟩
theorem layoutGroups_lifted (os : Os) (started : os.Started) (H : Type) (enc : TypeId × Value → H) (F : Stop.Interp) :
    ReturnsInHanded {} Tryd.checked os 9 .any ((OpenSpec.ofChange Rows.layoutGroupsSpec).preRow enc Tryd.prog Tryd.f9 Rows.layoutGroupsRow.domain false Rows.layoutGroupsRow.laid) (((OpenSpec.ofChange Rows.layoutGroupsSpec).at F).post enc Tryd.prog Tryd.f9 false true false false) := by
  obtain ⟨places, hx⟩ := layoutGroups_reads os enc
  refine returnsInHanded_of_row (C := Tryd.checked) (s := (OpenSpec.ofChange Rows.layoutGroupsSpec)) ownKnob_none started (by kernel_rfl) Tryd.func9
    (witness_row_at (enc := enc) (C := Tryd.checked) false (laidWorld os) #[.slice none 0 0, .int .i64 0] rfl (by kernel_rfl) (by kernel_rfl) (by kernel_rfl)
      (OpenSpec.preRow_of_cond 8 hx (by kernel_rfl) (fun k hk => by cases hk) (by kernel_rfl) (laid_met os _))) ?_
  intro W base args ds gs before hval hW _ _ hsz hL _ _
  exact layoutGroups_contract H enc W base args ds gs before hval hW hsz (tabs_of_laid hL)
theorem layoutGroups_said : Rows.LayoutGroupsSaid :=
  OpenClaim.holds_of_cond 9 Tryd.f9 rfl rfl rfl rfl rfl rfl rfl ⟨rfl, rfl, rfl, rfl, rfl⟩ rfl rfl rfl rfl rfl (by kernel_rfl) Tryd.func9 (by kernel_rfl)
    (of_decide_eq_true (by kernel_rfl)) (by unfold Func.isWrapper; first | (rw [if_pos (by decide +kernel)]; kernel_rfl) | (rw [if_neg (by decide +kernel)]; exact ⟨rfl, rfl⟩))
    (fun os started H enc _ F => by rw [OpenClaim.pre_eq_preRow]; exact layoutGroups_lifted os started H enc F)
theorem layoutGroups_plain (f : FuncId) (fn : Func) (hf : Tryd.pinned.checked.prog.funcNamed Rows.layoutGroupsRow.func = some f) (hfn : Tryd.pinned.checked.prog.funcs[f]? = some fn) :
    true = Tryd.pinned.checked.prog.looks [] ∧ ∀ (j : Nat) t, fn.params[j]? = some t → Tryd.pinned.checked.prog.wantsStandIn t = false := by
  obtain rfl : f = 9 := Option.some.inj ((show Tryd.prog.funcNamed Rows.layoutGroupsRow.func = some 9 by kernel_rfl).symm.trans hf) |>.symm
  obtain rfl : fn = Tryd.f9 := (Option.some.inj (Tryd.func9.symm.trans hfn)).symm
  refine ⟨by kernel_rfl, fun j t ht => ?_⟩
  rw [Tryd.params9] at ht
  have hm := Array.mem_of_getElem? ht
  have hall : ∀ t ∈ (#[37, 3] : Array TypeId), Tryd.prog.wantsStandIn t = false := by
    intro t ht
    simp only [List.mem_toArray, List.mem_cons, List.mem_nil_iff, or_false] at ht
    rcases ht with rfl | rfl
    all_goals kernel_rfl
  exact hall t hm

/-- THE CARD. -/
theorem layoutGroups_card : Rows.LayoutGroupsCardSaid :=
  Claim7.holds_tied_plain_at .later [] _ _ _ _ layoutGroups_said (fun _ h => by cases h) (by kernel_rfl) (fun _ h => by cases h) layoutGroups_row_tie rfl ⟨rfl, rfl⟩ (by kernel_rfl) rfl layoutGroups_plain (by kernel_rfl)
#print axioms layoutGroups_card
end Go.Proofs.YthljgiimdcbfpaaDoor
