/- Chapter 17's laws in plain Lean: steps of the machine, widths, words; rows of documents in memory. -/
import Derived.Test.YthljgiimdcbfpaaDoorMLaw
namespace Go.Proofs.YthljgiimdcbfpaaDoor
open Go.RowKit
set_option maxRecDepth 100000
set_option linter.unusedVariables false
set_option linter.unusedSimpArgs false

theorem laidOut : laidOutB Tryd.prog = true := by kernel_rfl
/-! ### Steps -/
inductive Steps (o : Opt) : Mach → Mach → Prop where
  | refl (m : Mach) : Steps o m m
  | step {m m1 m2 : Mach} {c : Cmd} {cs : List Cmd} (hs : m.stk = c :: cs) (hd : doM o { m with stk := cs } c = some m1) (h : Steps o m1 m2) : Steps o m m2
  | flush {m m2 : Mach} (hs : m.stk = []) (hp : m.put ≠ []) (h : Steps o (flushM m) m2) : Steps o m m2
theorem Steps.trans {o : Opt} {a b c : Mach} (h : Steps o a b) (k : Steps o b c) : Steps o a c := by
  induction h with
  | refl _ => exact k
  | step hs hd _ ih => exact .step hs hd (ih k)
  | flush hs hp _ ih => exact .flush hs hp (ih k)
theorem Steps.one {o : Opt} {m m1 : Mach} {c : Cmd} {cs : List Cmd} (hs : m.stk = c :: cs) (hd : doM o { m with stk := cs } c = some m1) : Steps o m m1 := .step hs hd (.refl _)
theorem Steps.runs {o : Opt} {a b : Mach} {R : Option Ln} (h : Steps o a b) : Runs o R a → Runs o R b := by
  induction h with
  | refl _ => exact id
  | step hs hd _ ih =>
    intro hr
    have := hr.step hs
    rw [hd] at this
    exact ih this.1
  | flush hs hp _ ih => exact fun hr => ih (hr.flush hs hp).1
theorem Steps.lay {o : Opt} {d : Doc} {m : Mach} (ho : optOk o = true) (hc : d.code = 0) (h : Steps o (startM d) m) (hs : m.stk = []) (hp : m.put = []) : layN d o = (m.out, 0) := by
  have hr := (h.runs (Runs.start o d)).done hs hp
  unfold layN
  rw [ho, if_neg (by simp), if_neg (by simp [hc]), hr]
theorem laid_of {d : Doc} {o : Opt} {l : Ln} (h : layN d o = (l, 0)) : laidB d o l = true := by unfold laidB; rw [h]; simp

/-! ### Widths -/
theorem ascii_dec (s : ByteArray) (pos : Nat) (hp : pos < s.size) (hb : byt s pos < 128) : Utf8.decode s pos = (byt s pos, 1) := by
  rw [decode_F]
  unfold decF
  rw [if_pos hb]
theorem wide_ascii {r : Nat} (h : r < 128) : colsB (r : Int) = 1 := by
  have : wideB (r : Int) = false := by
    cases hw : wideB (r : Int) with
    | false => rfl
    | true =>
      exfalso
      rw [← wideB_in] at hw
      have := inB_bounds 128 1114111 (r : Int) wideRows (by decide) hw
      omega
  unfold colsB
  rw [this]
  rfl
theorem width_ascii (s : ByteArray) (h : ∀ c ∈ s.data.toList, c.toNat < 128) : widthB s = s.size := by
  have key : ∀ n pos, s.size - pos = n → pos ≤ s.size → widthRest s pos = n := by
    intro n
    induction n with
    | zero => intro pos h1 h2; exact widthRest_end s pos (by omega)
    | succ n ih =>
      intro pos h1 h2
      have hp : pos < s.size := by omega
      have hb : byt s pos < 128 := by
        rw [byt_list]
        have hl : pos < s.data.toList.length := by rw [← size_list]; exact hp
        rw [List.getElem?_eq_getElem hl]
        exact h _ (List.getElem_mem hl)
      rw [widthRest_step s pos hp, ascii_dec s pos hp hb, ih (pos + 1) (by omega) (by omega), wide_ascii hb]
      omega
  unfold widthB
  rw [key s.size 0 (by omega) (by omega)]
theorem width_list {l : Ln} (h : ∀ c ∈ l, c.toNat < 128) : widthB (strOf l) = l.length := by
  rw [width_ascii (strOf l) (by rw [strOf_list]; exact h), strOf_size]

/-! ### Words -/
def wordL (k : Nat) : Ln := List.replicate k 119
def wordD (k : Nat) : Doc := tD (wordL k)
theorem word_width (k : Nat) : widthB (strOf (wordL k)) = k := by
  rw [width_list (by intro c hc; rw [List.eq_of_mem_replicate hc]; decide)]
  simp [wordL]
theorem words_all : (List.range 40).all (fun k => (wordD k).shape && decide ((wordD k).bulk ≤ 50)) = true := by decide +kernel
theorem word_shape {k : Nat} (h : k < 40) : (wordD k).shape = true ∧ (wordD k).bulk ≤ 50 := by
  have h1 := List.all_eq_true.1 words_all k (List.mem_range.2 h)
  rw [Bool.and_eq_true] at h1
  exact ⟨h1.1, by simpa using h1.2⟩
theorem word_code {d : Doc} (hs : d.shape = true) (hd : d.depth ≤ 64000) : d.code = 0 := by
  unfold Doc.code
  rw [if_neg (by omega), if_pos hs]
theorem shapeL_of {ks : List Doc} (h : ∀ x ∈ ks, x.shape = true) : shapeL ks = true := by
  induction ks with
  | nil => rfl
  | cons a l ih =>
    simp only [shapeL, Bool.and_eq_true]
    exact ⟨h a (by simp), ih fun x hx => h x (by simp [hx])⟩
theorem depthL_of {ks : List Doc} {n : Nat} (h : ∀ x ∈ ks, x.depth ≤ n) : depthL ks ≤ n := by
  induction ks with
  | nil => simp [depthL]
  | cons a l ih =>
    simp only [depthL]
    have := h a (by simp)
    have := ih fun x hx => h x (by simp [hx])
    omega
theorem bulkL_of {ks : List Doc} {n : Nat} (h : ∀ x ∈ ks, x.bulk ≤ n) : bulkL ks ≤ n * ks.length := by
  induction ks with
  | nil => simp [bulkL]
  | cons a l ih =>
    simp only [bulkL, List.length_cons]
    have h1 := h a (by simp)
    have h2 := ih fun x hx => h x (by simp [hx])
    rw [Nat.mul_add]
    omega
theorem text_depth (l : Ln) : (tD l).depth = 1 := rfl

/-! ### The small steps -/
theorem doM_text (o : Opt) (m : Mach) (i : Ind) (f : Bool) (l : Ln) (h : m.out.length + l.length ≤ 67108864) : doM o m ⟨i, f, tD l⟩ = some { m with out := m.out ++ l, col := m.col + (widthB (strOf l) : Int) } := by
  show (putM m (strOf l).data.toList).map _ = _
  rw [strOf_list]
  unfold putM
  rw [if_neg (by omega)]
  rfl
/-- Does one text fit, with nothing behind? -/
theorem fits_text (o : Opt) (m : Mach) (fl al : Bool) (l : Ln) (hs : al = true ∨ m.stk = []) (h0 : 0 ≤ o.width - m.col) : fitsM o m fl al [tD l] = decide ((widthB (strOf l) : Int) ≤ o.width - m.col) := by
  unfold fitsM
  rw [if_neg (by omega)]
  have hb : behind m al = [] := by
    unfold behind
    rcases hs with rfl | h
    · rfl
    · rw [h]; cases al <;> rfl
  rw [hb]
  show (match (if o.width - m.col - (widthB (strOf l) : Int) < 0 then Scan.done false else .go (o.width - m.col - (widthB (strOf l) : Int)) false) with
    | .done b => Scan.done b
    | .go lf p => scanS al m.brk [] lf p).fits = _
  by_cases h : (widthB (strOf l) : Int) ≤ o.width - m.col
  · rw [if_neg (by omega)]
    show true = _
    simp [h]
  · rw [if_pos (by omega)]
    show false = _
    simp [h]
theorem run_slice_word (C : ByteArray) (k n : Nat) (hC : C = strOf (wordL n)) (hk : k ≤ n) (W : World) : (Instr.slice 9 (.string C) none (some (.int .i64 (k : Int))) none).run Tryd.prog W = .ok (.string (strOf (wordL k))) W := by
  have hs : C.size = n := by rw [hC, strOf_size]; simp [wordL]
  rw [run_slice_string_h (P := Tryd.prog) (w := W) 9 C Tryd.underlying9 .i64 (k : Int) (by omega) (by omega)]
  have : C.extract 0 ((k : Int)).toNat = strOf (wordL k) := by
    rw [hC]
    unfold strOf
    apply ByteArray.ext
    simp [wordL, List.take_replicate, hk]
  rw [this]

/-! ### Rows of documents -/
abbrev anyX : SlX := fun _ _ _ _ _ => True
theorem anyX_stab : anyX.Stab := fun _ _ _ _ _ _ _ _ => trivial
abbrev Row (W : World) (B : Nat) (l : List (Doc × Value)) (v : Value) : Prop := RowD false anyX W B l v
theorem Row.next {W W' : World} {B : Nat} {l : List (Doc × Value)} {v : Value} (h : Row W B l v) (hb : Below W.heap.size W W') : Row W' B l v := RowD.below anyX_stab h hb
theorem Row.inW {W : World} {B : Nat} {D : Doc} {l : List (Doc × Value)} {v : Value} (h : Row W B l v) (hD : D.kids = l.map Prod.fst) : InW W D v :=
  kv_own l rfl h.own (fun p hp => by
    obtain ⟨lo, hi, _, h2, h3, _⟩ := h.kids p hp
    exact (KG.kv h3).wide (Nat.zero_le _) h2) hD (Nat.le_refl _)
theorem kg_made {W : World} {lo hi g cap : Nat} {D : Doc} {t : TypeId} (l : List (Doc × Value)) (hb : Blk W g (docsCells l) t) (hk : ∀ p ∈ l, KG false anyX W lo hi p.1 p.2) (h1 : lo ≤ g) (h2 : g < hi) (hD : D.kids = l.map Prod.fst) (hc : l.length ≤ cap) :
    KG false anyX W lo hi D (.slice (some ⟨g, 0, none⟩) l.length cap) := by
  rw [KG_iff]
  refine ⟨_, _, by rw [hD, List.length_map], by rw [hD, List.length_map]; exact hc, fun _ => ⟨g, 0, rfl, h1, h2, trivial, EG_iff.2 fun j hj => ?_⟩⟩
  have hjl : j < l.length := by rw [hD, List.length_map] at hj; exact hj
  have e : D.kids[j] = (l[j]).1 := by simp [hD]
  have hcell : ∀ c, c < 6 → W.cell? ⟨g, 0 + j * 6 + c, none⟩ = (docCells (l[j]).1 (l[j]).2)[c]? := fun c h6 => by
    rw [hb.cell, Nat.zero_add, docsCells_at l j c hjl h6]
  rw [e]
  exact ⟨(l[j]).2, ⟨hcell 0 (by omega), hcell 1 (by omega), hcell 2 (by omega), hcell 3 (by omega), hcell 4 (by omega), hcell 5 (by omega)⟩, hk _ (List.getElem_mem hjl)⟩
/-- A document appended: ops' first is the append of the row just made of it. -/
theorem wpList_append_doc {ops : Array Oper} {rest : List Oper} {o : Oper} {a : Act} {Q : Exit → Act → World → Prop} {w wr W1 : World} (hgd : o.guard = none) (s x : Operand)
    (ho : o.op = .call { callee := .builtin .append, args := #[s, x], argTypes := #[22, 22] })
    {B lo hi : Nat} {l : List (Doc × Value)} {v : Value} {K : Doc} {kv : Value} (hrow : Row wr B l v) (hb : Below wr.heap.size wr W1) (hBr : B ≤ wr.heap.size) (hbw : Below B w wr) (hlo : wr.heap.size ≤ lo) (hhi : hi ≤ W1.heap.size) (hk : KG false anyX W1 lo hi K kv)
    (hs : a.eval s = v) (hx : a.eval x = .slice (some ⟨W1.heap.size, 0, none⟩) 1 1) (hlen : l.length ≤ 1000000) (h1 : kv.oneCell' = true)
    (h : ∀ g cap W', Row W' B (l ++ [(K, kv)]) (.slice (some ⟨g, 0, none⟩) (l.length + 1) cap) → Below B w W' → wpList Tryd.prog ops Q rest (a.put o.dst (.slice (some ⟨g, 0, none⟩) (l.length + 1) cap)) W') :
    wpList Tryd.prog ops Q (o :: rest) a (W1.alloc (.cells (docCells K kv).toArray 24)) := by
  obtain ⟨i, z, ht, hi', hz, hsize, hby, hzs, h0⟩ := docE
  have hsz := hb.size
  have hnew : Blk (W1.alloc (.cells (docCells K kv).toArray 24)) W1.heap.size (docCells K kv) 24 := Blk.new' (W := W1) _ _ rfl
  refine wpList_append_lies _ hgd s x 22 ho B 24 i z 6 72 ht hi' hz hsize hby hzs h0 v l.length (docsCells l) hs (own_below hrow.own (hb.alloc hsz _)) ⟨W1.heap.size, 0, none⟩ 1 1 (docCells K kv) hx rfl ?_ ?_ (by omega) (by unfold maxLen; omega) (by omega) (by simp; omega) (W1.heap.size + 1) (by simp) ?_
  · intro j u hu
    have e2 : (⟨W1.heap.size, 0, none⟩ : Addr).add j = ⟨W1.heap.size, j, none⟩ := by unfold Addr.add; split <;> simp_all
    rw [e2, hnew.cell]
    exact hu
  · intro u hu
    simp only [docCells, List.mem_cons, List.not_mem_nil, or_false] at hu
    rcases hu with rfl | rfl | rfl | rfl | rfl | rfl
    · rfl
    · rfl
    · exact h1
    · rfl
    · rfl
    · rfl
  · intro g cap W' hown hg hat hlt
    refine h g cap W' (RowD.push anyX_stab hrow hb hBr hlo hhi hk _ hown hg rfl hat) ?_
    have hbb : Below B w (W1.alloc (.cells (docCells K kv).toArray 24)) := (hbw.trans (hb.mono hBr)).alloc (by omega) _
    refine hbb.grown hg (by simp; omega) (fun k hk => ?_)
    exact (hrow.own.lt k hk).1
/-- A kid that waits for the row v: its blocks are none of the row's. -/
def KidOk (W : World) (B : Nat) (v : Value) (p : Doc × Value) : Prop := ∃ lo hi, B ≤ lo ∧ hi ≤ W.heap.size ∧ KG false anyX W lo hi p.1 p.2 ∧ ∀ g, v.ownBlock = some g → g < lo ∨ hi ≤ g
theorem KidOk.next {W W' : World} {B : Nat} {v : Value} {p : Doc × Value} (h : KidOk W B v p) (hb : Below W.heap.size W W') : KidOk W' B v p := by
  obtain ⟨lo, hi, h1, h2, h3, h4⟩ := h
  exact ⟨lo, hi, h1, Nat.le_trans h2 hb.size, h3.below anyX_stab hb h2, h4⟩
theorem KidOk.leaf {W : World} {B : Nat} {v : Value} {d : Doc} (hB : B ≤ W.heap.size) (hd : d.kids = []) : KidOk W B v (d, .slice none 0 0) := ⟨W.heap.size, W.heap.size, hB, Nat.le_refl _, kg_nil hd, fun g _ => by omega⟩
/-- Made anew, behind the row. -/
theorem KidOk.fresh {wr W : World} {B lo hi : Nat} {v : Value} {l : List (Doc × Value)} {d : Doc} {kv : Value} (hrow : Row wr B l v) (hB : B ≤ wr.heap.size) (hlo : wr.heap.size ≤ lo) (hhi : hi ≤ W.heap.size) (hk : KG false anyX W lo hi d kv) : KidOk W B v (d, kv) :=
  ⟨lo, hi, by omega, hhi, hk, fun g hg => by have := (hrow.own.lt g hg).2; left; omega⟩
theorem KidOk.grow {W1 W' : World} {B gg : Nat} {v v' : Value} {p : Doc × Value} (h : KidOk W1 B v p) (o : Obj) (hg : (W1.alloc o).grownBy W' v.ownBlock) (hgg : v'.ownBlock = some gg) (hat : v.ownBlock = some gg ∨ gg = W1.heap.size + 1) : KidOk W' B v' p := by
  have hsz2 := hg.size
  simp at hsz2
  obtain ⟨lo, hi, h1, h2, h3, h4⟩ := h
  have hkeep : ∀ b, b < W1.heap.size → v.ownBlock ≠ some b → W'.heap[b]? = W1.heap[b]? := fun b hb1 hne => (hg.block b (by simp; omega) (Ne.symm hne)).trans (Below.heap_alloc W1 o b hb1)
  refine ⟨lo, hi, h1, by omega, KG.of anyX_stab (Nat.le_refl _) (Nat.le_refl _) (fun b hb1 hb2 => hkeep b (by omega) (fun e => by have := h4 b e; omega)) h3, fun g e => ?_⟩
  rw [hgg] at e
  injection e with e
  subst e
  rcases hat with e2 | e2
  · exact h4 _ e2
  · right; omega
/-- A kid that waits is appended; all others that wait go on waiting. -/
theorem wpList_append_kid {ops : Array Oper} {rest : List Oper} {o : Oper} {a : Act} {Q : Exit → Act → World → Prop} {w W1 : World} (hgd : o.guard = none) (s x : Operand)
    (ho : o.op = .call { callee := .builtin .append, args := #[s, x], argTypes := #[22, 22] })
    {B : Nat} {l : List (Doc × Value)} {v : Value} {K : Doc} {kv : Value} (hrow : Row W1 B l v) (hBr : B ≤ W1.heap.size) (hbw : Below B w W1) (hk : KidOk W1 B v (K, kv))
    (hs : a.eval s = v) (hx : a.eval x = .slice (some ⟨W1.heap.size, 0, none⟩) 1 1) (hlen : l.length ≤ 1000000) (h1 : kv.oneCell' = true)
    (h : ∀ g cap W', Row W' B (l ++ [(K, kv)]) (.slice (some ⟨g, 0, none⟩) (l.length + 1) cap) → Below B w W' → (∀ p, KidOk W1 B v p → KidOk W' B (.slice (some ⟨g, 0, none⟩) (l.length + 1) cap) p) → (∀ k, k < W1.heap.size → v.ownBlock ≠ some k → W'.heap[k]? = W1.heap[k]?) → W1.heap.size ≤ W'.heap.size → wpList Tryd.prog ops Q rest (a.put o.dst (.slice (some ⟨g, 0, none⟩) (l.length + 1) cap)) W') :
    wpList Tryd.prog ops Q (o :: rest) a (W1.alloc (.cells (docCells K kv).toArray 24)) := by
  obtain ⟨i, z, ht, hi', hz, hsize, hby, hzs, h0⟩ := docE
  have hnew : Blk (W1.alloc (.cells (docCells K kv).toArray 24)) W1.heap.size (docCells K kv) 24 := Blk.new' (W := W1) _ _ rfl
  refine wpList_append_lies _ hgd s x 22 ho B 24 i z 6 72 ht hi' hz hsize hby hzs h0 v l.length (docsCells l) hs (own_below hrow.own ((Below.refl _ W1).alloc (Nat.le_refl _) _)) ⟨W1.heap.size, 0, none⟩ 1 1 (docCells K kv) hx rfl ?_ ?_ (by omega) (by unfold maxLen; omega) (by omega) (by simp; omega) (W1.heap.size + 1) (by simp) ?_
  · intro j u hu
    have e2 : (⟨W1.heap.size, 0, none⟩ : Addr).add j = ⟨W1.heap.size, j, none⟩ := by unfold Addr.add; split <;> simp_all
    rw [e2, hnew.cell]
    exact hu
  · intro u hu
    simp only [docCells, List.mem_cons, List.not_mem_nil, or_false] at hu
    rcases hu with rfl | rfl | rfl | rfl | rfl | rfl
    · rfl
    · rfl
    · exact h1
    · rfl
    · rfl
    · rfl
  · intro g cap W' hown hg hat hlt
    have hgr : ∀ p, KidOk W1 B v p → KidOk W' B (.slice (some ⟨g, 0, none⟩) (l.length + 1) cap) p := fun p hp => hp.grow _ hg rfl hat
    have hsz := hg.size
    simp at hsz
    refine h g cap W' ⟨by rw [docsCells_push, List.length_append]; exact hown, fun p hp => ?_⟩ ?_ hgr (fun k hk1 hk2 => (hg.block k (by simp; omega) (Ne.symm hk2)).trans (Below.heap_alloc W1 _ k hk1)) (by omega)
    · rcases List.mem_append.1 hp with hp | hp
      · exact hgr p (hrow.kids p hp)
      · rw [List.mem_singleton] at hp
        subst hp
        exact hgr _ hk
    · exact (hbw.alloc hBr _).grown hg (by simp; omega) (fun k hk => (hrow.own.lt k hk).1)
end Go.Proofs.YthljgiimdcbfpaaDoor
