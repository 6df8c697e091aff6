/- doc.walk: the iterator over a document and all in it. -/
import Derived.Test.YtaojlnibkajfbaaDoorDocPlain
import Derived.Test.YtaojlnibkajfbaaDoorRows
import Derived.Test.YtaojlnibkajfbaaDoorRange
import Derived.Test.YtaojlnibkajfbaaDoorOwn
import Derived.WalkSmall
import Derived.Deep.RegionHeld3
import Derived.Deep.AppendLies
import Derived.Outline
import Derived.Deep.Cut
namespace Go.Proofs.YtaojlnibkajfbaaDoor
open Go.RowKit Go.Shelf
set_option maxRecDepth 100000
set_option linter.unusedVariables false
set_option linter.unusedSimpArgs false

mutual
/-- A document and all in it, each with its depth. -/
def Doc.pre : Doc → Nat → List (Nat × Doc)
  | .mk k t ks b i y, n => (n, .mk k t ks b i y) :: preL ks (n + 1)
def preL : List Doc → Nat → List (Nat × Doc)
  | [], _ => []
  | d :: ds, n => d.pre n ++ preL ds n
end
theorem Doc.pre_eq (d : Doc) (n : Nat) : d.pre n = (n, d) :: preL d.kids (n + 1) := by cases d; rfl
theorem preL_app (a b : List Doc) (n : Nat) : preL (a ++ b) n = preL a n ++ preL b n := by
  induction a with
  | nil => rfl
  | cons d a ih => simp only [List.cons_append, preL, ih, List.append_assoc]
theorem preL_len : ∀ (ks : List Doc), (∀ d ∈ ks, ∀ n, (d.pre n).length = d.nodes) → ∀ n, (preL ks n).length = nodesL ks
  | [], _, _ => rfl
  | d :: ds, h, n => by
    simp only [preL, nodesL, List.length_append]
    rw [h d (by simp) n, preL_len ds (fun x hx => h x (by simp [hx])) n]
theorem Doc.pre_len (d : Doc) : ∀ n, (d.pre n).length = d.nodes := by
  refine Doc.ind (P := fun d => ∀ n, (d.pre n).length = d.nodes) (fun d ih n => ?_) d
  rw [Doc.pre_eq, List.length_cons, preL_len d.kids ih, Doc.nodes_eq]
def preP (p : Nat × Doc) : List (Nat × Doc) := p.2.pre p.1
theorem flat_kids (ks : List Doc) (n : Nat) : (ks.map fun d => (n, d)).flatMap preP = preL ks n := by
  induction ks with
  | nil => rfl
  | cons d ks ih => simp only [List.map_cons, List.flatMap_cons, ih, preL]; rfl

/-- A document at its place, in what lies below block number B. -/
structure At (w : World) (B : Nat) where
  dep : Nat
  d : Doc
  g : Nat
  off : Nat
  kv : Value
  six : Six w g off d kv
  lt : g < B
  kvs : KV w 0 B d kv
  small : d.bulk ≤ 4194304
def At.proj {w : World} {B : Nat} (x : At w B) : Nat × Doc := (x.dep, x.d)
def atCells {w : World} {B : Nat} (x : At w B) : List Value := [.int .i64 x.dep, .pointer (some ⟨x.g, x.off, none⟩)]
def rowAt {w : World} {B : Nat} (st : List (At w B)) : List Value := st.flatMap atCells
theorem rowAt_len {w : World} {B : Nat} (st : List (At w B)) : (rowAt st).length = st.length * 2 := by
  induction st with
  | nil => rfl
  | cons x st ih => simp only [rowAt, List.flatMap_cons, List.length_append, List.length_cons, List.length_nil, atCells] at ih ⊢; omega
theorem rowAt_snoc {w : World} {B : Nat} (st : List (At w B)) (x : At w B) : rowAt (st ++ [x]) = rowAt st ++ atCells x := by simp [rowAt]
def encAt {w : World} {B : Nat} (x : At w B) : Array Value := #[.int .i64 x.dep, .pointer (some ⟨x.g, x.off, none⟩)]
theorem At.six_in {w W : World} {B : Nat} (x : At w B) (h : ∀ b, b < B → W.heap[b]? = w.heap[b]?) : Six W x.g x.off x.d x.kv := x.six.of (h _ x.lt)

theorem placeE : ElemOf Tryd.prog 71 70 2 16 := .mk' (.agg #[.int .i64 0, .pointer none]) Tryd.underlying71 (by kernel_rfl) rfl (by decide)

theorem own_kpn {A B : World} {n0 n1 base e size n : Nat} {v : Value} {xs : List Value} (h : A.ownsRow base e size v n xs) (hk : KpN n0 n1 A B) (hn : n1 ≤ base) : B.ownsRow base e size v n xs := by
  refine ⟨h.1, ?_⟩
  rcases h.2 with h2 | ⟨g, cap, cur, h1, h2, h3, h4⟩
  · exact .inl h2
  · exact .inr ⟨g, cap, cur, h1, h2, (hk.2.2 g (by omega) (Array.getElem?_eq_some_iff.1 h3).1).trans h3, h4⟩
theorem own_last {W : World} {base e g cap n : Nat} {ys : List Value} {a b : Value} (h : W.ownsRow base e 2 (.slice (some ⟨g, 0, none⟩) (n + 1) cap) (n + 1) (ys ++ [a, b])) (hy : ys.length = n * 2) :
    W.cell? ⟨g, n * 2, none⟩ = some a ∧ W.cell? ⟨g, n * 2 + 1, none⟩ = some b := by
  constructor
  · rw [h.cellAt (n * 2) (by omega), List.getElem?_append_right (by omega), hy, Nat.sub_self]
    rfl
  · rw [h.cellAt (n * 2 + 1) (by omega), List.getElem?_append_right (by omega), hy, show n * 2 + 1 - n * 2 = 1 by omega]
    rfl
/-- A block of two cells is no row's, unless it holds just that. -/
theorem own_apart2 {W : World} {base e g n : Nat} {v a b : Value} {xs : List Value} (h : W.ownsRow base e 2 v n xs) (hb : Blk W g [a, b] e) (hn : 0 < n) (hx : n = 1 → xs ≠ [a, b]) : v.ownBlock ≠ some g := by
  intro hv
  rcases h.2 with ⟨rfl, _⟩ | ⟨g', cap, cur, rfl, _, h3, h4, _, h6, h7⟩
  · cases hv
  · have hg : g' = g := by simpa [Value.ownBlock] using hv
    subst hg
    unfold Blk at hb
    rw [h3] at hb
    cases hb
    have hc : cap = 1 := by simp at h6; omega
    have hn1 : n = 1 := by omega
    subst hn1
    refine hx rfl ?_
    rw [← h7]
    rfl
/-- A row cut at its end. -/
theorem own_cut {W : World} {base e size g cap n : Nat} {xs last : List Value} (h : W.ownsRow base e size (.slice (some ⟨g, 0, none⟩) (n + 1) cap) (n + 1) (xs ++ last)) (hx : xs.length = n * size) :
    W.ownsRow base e size (.slice (some ⟨g, 0, none⟩) n cap) n xs := by
  refine ⟨hx, .inr ?_⟩
  rcases h.2 with ⟨h2, _⟩ | ⟨g', cap', cur, h1, h2, h3, h4, h5, h6, h7⟩
  · cases h2
  · cases h1
    refine ⟨g, cap, cur, rfl, h2, h3, by omega, h5, h6, ?_⟩
    have := congrArg (List.take (n * size)) h7
    rw [List.take_take, Nat.min_eq_left (Nat.mul_le_mul_right size (Nat.le_succ n)), List.take_left' hx] at this
    exact this

set_option maxHeartbeats 4000000 in
theorem walk_iter (d0 : Doc) (g0 off0 Bn n0 n1 : Nat) (kv0 : Value) (w W : World) (hw : n0 ≤ w.heap.size) (hbk : d0.bulk ≤ 4194304) (hsame : ∀ b, b < n0 → W.heap[b]? = w.heap[b]?) (h6 : Six w g0 off0 d0 kv0) (hg0 : g0 < n0) (hkv : KV w 0 n0 d0 kv0)
    (hBn : W.cell? ⟨Bn, 0, none⟩ = some (.pointer (some ⟨g0, off0, none⟩))) (hn01 : n0 ≤ n1) (hn1 : n1 ≤ W.heap.size) :
    Iter (α := At w n0) Tryd.prog 50 #[.pointer (some ⟨Bn, 0, none⟩)] encAt n0 n1 (fun xs => xs.map At.proj = d0.pre 1) (fun pre => ∃ r, pre.map At.proj ++ r = d0.pre 1) W := by
  intro l J Jx hJ hJx hY h0
  have hn : d0.nodes ≤ 4194304 := Nat.le_trans d0.nodes_bulk hbk
  have HS := Lib.hid hsame
  have HB := Lib.hid hJ
  have HBx := Lib.hid hJx
  have HY := Lib.hid hY
  clear hJ hJx hY
  go_enter Tryd.func50, Tryd.ntmps50
  go_wp2_with fail
  have hst0 : Below W.heap.size W (W.alloc (.cells #[.int .i64 1, .pointer (some ⟨g0, off0, none⟩)] 70)) := (Below.refl _ W).alloc (Nat.le_refl _) _
  go_loopg [3, 4, 5] d0.nodes (fun k p _ _ wr => ∃ (pre st : List (At w n0)), pre.map At.proj ++ (st.map At.proj).reverse.flatMap preP = d0.pre 1 ∧ (∀ x ∈ st, x.dep ≤ pre.length + 1) ∧ k = ((st.map At.proj).reverse.flatMap preP).length ∧ wr.ownsRow W.heap.size 70 2 p st.length (rowAt st) ∧ J pre wr ∧ (∀ b, b < n0 → wr.heap[b]? = w.heap[b]?) ∧ W.heap.size ≤ wr.heap.size)
  case atStart =>
    refine ⟨[], [⟨1, d0, g0, off0, kv0, h6, hg0, hkv, hbk⟩], by simp [At.proj, preP], by simp, by simp [At.proj, preP, Doc.pre_len], ?_, HB.out [] W _ h0 hst0, fun b hb => (hst0.block b (by omega)).trans (HS.out b hb), hst0.size⟩
    exact ⟨rfl, .inr ⟨W.heap.size, 1, _, rfl, Nat.le_refl _, Array.getElem?_push_size, Nat.le_refl _, by unfold maxLen; decide, rfl, rfl⟩⟩
  case round =>
    obtain ⟨pre, st, hpre, hdep, hgk, hown, hj, hsm, hsz⟩ := hrel
    have hlen : pre.length + ((st.map At.proj).reverse.flatMap preP).length = d0.nodes := by
      have := congrArg List.length hpre
      rw [List.length_append, List.length_map, Doc.pre_len] at this
      exact this
    rcases List.eq_nil_or_concat st with rfl | ⟨st, x, rfl⟩
    · have HP := Lib.hid hpre
      have HJ := Lib.hid hj
      have hown0 := hown.2
      have hp : ∃ a cap, u3 = .slice a 0 cap := by
        rcases hown0 with ⟨rfl, _⟩ | ⟨g, cap, cur, rfl, _⟩
        · exact ⟨_, _, rfl⟩
        · exact ⟨_, _, rfl⟩
      obtain ⟨a, cap, rfl⟩ := hp
      clear hpre hj hown hown0 hgk hdep hlen hst0 hsm
      go_wp2_with fail
      go_end0
      exact ⟨⟨_, rfl⟩, .inl ⟨pre, by have := HP.out; simpa using this, HJ.out⟩⟩
    · simp only [List.concat_eq_append] at *
      obtain ⟨g, cap, rfl⟩ : ∃ g cap, u3 = .slice (some ⟨g, 0, none⟩) (st.length + 1) cap := by
        rw [List.length_append] at hown
        exact ownsRow_succ hown
      rw [List.length_append, rowAt_snoc] at hown
      have hcc := own_last hown (rowAt_len st)
      obtain ⟨hc0, hc1⟩ := hcc
      have hown1 := own_cut hown (rowAt_len st)
      have hcat : (((st ++ [x]).map At.proj).reverse.flatMap preP) = (x.dep, x.d) :: (preL x.d.kids (x.dep + 1) ++ (st.map At.proj).reverse.flatMap preP) := by
        simp [At.proj, preP, Doc.pre_eq]
      rw [hcat] at hpre hlen hgk
      have hdx := hdep x (by simp)
      have hds : ∀ y ∈ st, y.dep ≤ pre.length + 1 := fun y hy => hdep y (by simp [hy])
      rw [List.length_cons] at hlen
      have hcap : st.length + 1 ≤ cap := by
        rcases hown.2 with ⟨h, _⟩ | ⟨g', cap', cur, h1, _, _, h4, _⟩
        · cases h
        · cases h1; exact h4
      have hgr : g < wr.heap.size ∧ W.heap.size ≤ g := by have := hown.lt g rfl; omega
      have HP := Lib.hid hpre
      have HO := Lib.hid hown1
      have HGK := Lib.hid hgk
      have HLEN := Lib.hid hlen
      have HDS := Lib.hid hds
      have HSM := Lib.hid hsm
      have HL := Lib.hid (rowAt_len st)
      have hsl : st.length + pre.length ≤ 4194304 := by
        have : st.length ≤ ((st.map At.proj).reverse.flatMap preP).length := by
          have h1 : ∀ l : List (Nat × Doc), l.length ≤ (l.flatMap preP).length := by
            intro l
            induction l with
            | nil => simp
            | cons y l ih => have := y.2.nodes_pos; simp only [List.flatMap_cons, List.length_append, List.length_cons, preP, Doc.pre_len]; omega
          have h2 := h1 (st.map At.proj).reverse
          simpa using h2
        simp only [List.length_append] at hlen
        omega
      have hyx := HY.out pre x
      obtain ⟨m, hm⟩ : ∃ m, m = st.length := ⟨_, rfl⟩
      rw [← hm] at hc0 hc1 hsl hcap
      have hcap0 : cap ≠ 0 := by omega
      have hcap1 : m ≤ cap := by omega
      have HM := Lib.hid hm
      have HO2 : Hid (wr.ownsRow W.heap.size 70 2 (.slice (some ⟨g, 0, none⟩) m cap) m (rowAt st)) := Lib.hid (by rw [hm]; exact hown1)
      rw [← hm]
      have hm0 : (0 : Int) < ((m + 1 : Nat) : Int) := by omega
      have hm1 : ((m + 1 : Nat) : Int) - 1 = (m : Int) := by omega
      have HYX := Lib.hid hyx
      have HJ := Lib.hid hj
      clear hpre hown hown1 hgk hlen hds hsm hj hcat hdep hyx hst0 hm
      have hja : J pre (wr.alloc (.cells #[.int .i64 x.dep, .pointer (some ⟨x.g, x.off, none⟩)] 70)) := HB.out pre wr _ HJ.out ((Below.refl _ wr).alloc hsz _)
      obtain ⟨fn, tmps, asg, bdy, hy, hR⟩ := HYX.out _ hja
      have HR := Lib.hid hR
      have HJA := Lib.hid hja
      clear hR hja
      simp only [encAt] at hy
      go_upto_region 4 with (fail)
      refine (wpIn_wide (n := 4)).1 ?_
      gi_wp2_with fail
      refine HR.out.mono ?_
      rintro e W3 (⟨rfl, hJ3, hk3⟩ | ⟨rfl, hJx3⟩)
      · have hz3 : wr.heap.size < W3.heap.size := by have := hk3.1; simp at this; omega
        have hpl : Blk W3 wr.heap.size [.int .i64 x.dep, .pointer (some ⟨x.g, x.off, none⟩)] 70 := (hk3.2.2 _ (by omega) (by simp)).trans (Blk.new wr _ _)
        have ho3 := own_kpn (HO2.out.alloc (.cells #[.int .i64 x.dep, .pointer (some ⟨x.g, x.off, none⟩)] 70)) hk3 hn1
        have hs3 : ∀ b, b < n0 → W3.heap[b]? = w.heap[b]? := fun b hb => (hk3.2.1 b hb).trans (((Below.refl n0 wr).alloc (by omega) _).block b hb |>.trans (HSM.out b hb))
        have hsix := x.six_in hs3
        obtain ⟨ka, kcap, hkv⟩ := x.kvs.slice
        have hkc := hsix.kids
        rw [hkv] at hkc
        have p0 := hpl.cell 0
        have p1 := hpl.cell 1
        simp only [List.getElem?_cons_zero, List.getElem?_cons_succ] at p0 p1
        have hnk : x.d.kids.length ≤ 4194304 := by
          have h1 := HLEN.out
          have h2 := nodesL_len x.d.kids
          rw [List.length_append, preL_len _ (fun d _ => d.pre_len)] at h1
          omega
        have HPL := Lib.hid hpl
        have HO3 := Lib.hid ho3
        have HS3 := Lib.hid hs3
        have HJ3 := Lib.hid hJ3
        have hkid : ∀ j, (hj : j < x.d.kids.length) → ∃ g off, ka = some ⟨g, off, none⟩ ∧ g < n0 ∧ ∃ kv, Six w g (off + j * 6) x.d.kids[j] kv ∧ KV w 0 n0 x.d.kids[j] kv := fun j hj => by
          have h1 := x.kvs
          rw [hkv] at h1
          obtain ⟨g, off, e, _, h2, h3⟩ := h1.kid hj
          exact ⟨g, off, e, h2, h3⟩
        have HKID := Lib.hid hkid
        have HNB : Hid (g ≠ wr.heap.size) := Lib.hid (by omega)
        obtain ⟨nk, hnk2⟩ : ∃ nk, nk = x.d.kids.length := ⟨_, rfl⟩
        rw [← hnk2] at hkc hnk
        have HKC := Lib.hid hkc
        have HNK := Lib.hid hnk2
        clear hpl ho3 hs3 hJ3 hkv hnk2 hsix hk3 hc0 hc1 hy hkid
        gi_wp2_with fail
        go_wp2_with fail
        clear p0 p1
        obtain ⟨wo, rfl⟩ : ∃ wo : World, wo = wr := ⟨_, rfl⟩
        go_loopw [3, 5] (fun p i wr2 => ∃ (j : Nat) (ps : List (At w n0)), j ≤ nk ∧ i = .int .i64 ((j : Int) - 1) ∧ ps.length + j = nk ∧ ps.map At.proj = ((x.d.kids.drop j).map fun d => (x.dep + 1, d)).reverse ∧ wr2.ownsRow W.heap.size 70 2 p (m + ps.length) (rowAt (st ++ ps)) ∧ p.ownBlock ≠ some wo.heap.size ∧ Blk wr2 wo.heap.size [.int .i64 x.dep, .pointer (some ⟨x.g, x.off, none⟩)] 70 ∧ Below W.heap.size W3 wr2 ∧ W3.heap.size ≤ wr2.heap.size) (fun _ i _ => (intOf i + 1).toNat)
        case atStart => exact ⟨nk, [], Nat.le_refl _, rfl, by simp, by rw [HNK.out, List.drop_length]; rfl, by rw [List.append_nil]; exact HO3.out, by simpa [Value.ownBlock] using HNB.out, HPL.out, Below.refl _ _, Nat.le_refl _⟩
        case round =>
          obtain ⟨j, ps, hj, rfl, hpj, hps, hown2, hne, hpl2, hb2, hz2⟩ := hrel
          have hkc3 := (hb2.cell (p := ⟨x.g, x.off + 2, none⟩) (by have := x.lt; simp; omega)).trans HKC.out
          have p0 := hpl2.cell 0
          have p1 := hpl2.cell 1
          simp only [List.getElem?_cons_zero, List.getElem?_cons_succ] at p0 p1
          have HPS := Lib.hid hps
          have HOW2 := Lib.hid hown2
          have HNE := Lib.hid hne
          have HPL2 := Lib.hid hpl2
          have HPJ := Lib.hid hpj
          have hpl : ps.length ≤ nk := by omega
          have HB2 := Lib.hid hb2
          have HZ2 := Lib.hid hz2
          clear hps hown2 hne hpl2 hkc hpj
          cases j with
          | zero =>
            clear p0 p1 hkc3
            go_wp2_with fail
            have hps0 : (ps.map At.proj).reverse = x.d.kids.map fun d => (x.dep + 1, d) := by rw [HPS.out, List.drop_zero, List.reverse_reverse]
            have hfl : (((st ++ ps).map At.proj).reverse.flatMap preP) = preL x.d.kids (x.dep + 1) ++ (st.map At.proj).reverse.flatMap preP := by
              rw [List.map_append, List.reverse_append, List.flatMap_append, hps0, flat_kids]
            go_roundg (((st ++ ps).map At.proj).reverse.flatMap preP).length
            case measure => rw [HGK.out, hfl]; simp
            case rel =>
              refine ⟨pre ++ [x], st ++ ps, ?_, ?_, rfl, ?_, ?_, ?_, ?_⟩
              · rw [hfl]
                have := HP.out
                simpa [At.proj] using this
              · intro z hz
                rw [List.length_append]
                rcases List.mem_append.1 hz with hz | hz
                · have := HDS.out z hz
                  simp only [List.length_cons, List.length_nil]
                  omega
                · have hzz : z.proj ∈ ps.map At.proj := List.mem_map_of_mem hz
                  rw [HPS.out] at hzz
                  simp only [List.mem_reverse, List.mem_map] at hzz
                  obtain ⟨_, _, hzz⟩ := hzz
                  have : z.dep = x.dep + 1 := by have := congrArg Prod.fst hzz; exact this.symm
                  simp only [List.length_cons, List.length_nil]
                  omega
              · rw [List.length_append, ← HM.out]
                exact HOW2.out
              · exact HB.out _ _ _ HJ3.out hb2
              · exact fun b hb => (hb2.block b (by omega)).trans (HS3.out b hb)
              · omega
          | succ j =>
            rw [show (((j + 1 : Nat) : Int) - 1) = (j : Int) by omega]
            obtain ⟨gk, offk, rfl, hgk, kvk, h6k, hkvk⟩ := HKID.out j (by have := HNK.out; omega)
            have hkd := List.getElem?_eq_getElem (l := x.d.kids) (i := j) (by have := HNK.out; omega)
            generalize x.d.kids[j]'(by have := HNK.out; omega) = dk at *
            have HKD := Lib.hid hkd
            have hsm : dk.bulk ≤ 4194304 := by have h1 := Doc.kid_bulk (List.mem_of_getElem? hkd); have h2 := x.small; omega
            clear hkd
            obtain ⟨y, hy⟩ : ∃ y : At w n0, y = ⟨x.dep + 1, dk, gk, offk + j * 6, kvk, h6k, hgk, hkvk, hsm⟩ := ⟨_, rfl⟩
            have hkc4 : wr.cell? ⟨x.g, x.off + 2, none⟩ = some (.slice (some ⟨gk, offk, none⟩) nk kcap) := hkc3
            clear hkc3
            have HYE := Lib.hid hy
            have hyc : atCells y = [.int .i64 ((x.dep : Int) + 1), .pointer (some ⟨gk, offk + j * 6, none⟩)] := by rw [hy]; simp [atCells]
            have HYC := Lib.hid hyc
            clear hy hyc
            have hjk : (j : Int) < (nk : Int) := by omega
            have hjk2 : j < nk := by omega
            have hd1 : (x.dep : Int) + 1 ≤ 9000000 := by omega
            obtain ⟨i0, z0, hT1, hi0, hz0, hz1, hzb, hz4, hz5⟩ := placeE
            have hgw : x.g < wr.heap.size := by have := x.lt; omega
            have hwr2 : wo.heap.size < wr.heap.size := by omega
            have hgne : u3.ownBlock ≠ some x.g := fun h => by have := (HOW2.out.lt _ h).1; have := x.lt; omega
            have HGNE := Lib.hid hgne
            have HE := Lib.hid (And.intro hi0 (And.intro hz0 (And.intro hz1 (And.intro hzb hz4))))
            clear hgne hi0 hz0 hz1 hzb hz4 hT1
            have HBN : Hid (m + ps.length + 1 ≤ maxLen ∧ (m + ps.length + 1) * 16 ≤ 140737488355328) := Lib.hid ⟨by unfold maxLen; omega, by omega⟩
            have hsum : IntKind.i64.wrap ((x.dep : Int) + 1) = (x.dep : Int) + 1 := IntWalk.i64_in _ (by omega)
            have hjt : ((j : Int)).toNat = j := by omega
            have hj0 : (0 : Int) ≤ (j : Int) := by omega
            have HNN := Lib.hid hn
            have HNNK := Lib.hid hnk
            have HSL := Lib.hid hsl
            have HDX := Lib.hid hdx
            clear hn hnk hsl hdx hd1 hpl hj hb2 hz2
            go_wp2_with fail
            go_region_held3 (fun w' => w'.cell? ⟨wo.heap.size, 0, none⟩ = some (.int .i64 x.dep) ∧ w'.cell? ⟨wo.heap.size, 1, none⟩ = some (.pointer (some ⟨x.g, x.off, none⟩)) ∧ w'.cell? ⟨x.g, x.off + 2, none⟩ = some (.slice (some ⟨gk, offk, none⟩) nk kcap))
              (first
                | go_keep
                | (go_split_ands
                   refine ⟨?_, ?_, ?_⟩
                   · (rw [hgrow.cell_far _ (by simp; omega) (Ne.symm HNE.out)]; assumption)
                   · (rw [hgrow.cell_far _ (by simp; omega) (Ne.symm HNE.out)]; assumption)
                   · (rw [hgrow.cell_far _ (by simp; omega) (Ne.symm HGNE.out)]; assumption)))
              ((refine step_append_lies _ (by rfl) _ _ _ (by rfl) W.heap.size 70 i0 z0 2 16 Tryd.underlying71 HE.out.1 HE.out.2.1 HE.out.2.2.1 HE.out.2.2.2.1 HE.out.2.2.2.2 (by omega) u3 (m + ps.length) (rowAt (st ++ ps)) (by rfl) ((HOW2.out.alloc _).drew) ⟨wr.heap.size, 0, none⟩ 1 1 [.int .i64 ((x.dep : Int) + 1), .pointer (some ⟨gk, offk + j * 6, none⟩)] (by rfl) (by rfl) (World.news_of_block (cs := #[.int .i64 ((x.dep : Int) + 1), .pointer (some ⟨gk, offk + j * 6, none⟩)]) (t := 70) (fr := (0, 0)) (heap_alloc_new wr _)) (by simp [Value.oneCell']) (by omega) HBN.out.1 HBN.out.2 (by simp; omega) (wr.heap.size + 1) (by simp) ?_; intro gg cap' w1 hown1 hgrow hat hlt))
            go_wp2_with fail
            have hwj : wrap64 ((j : Int) - 1) = (j : Int) - 1 := by have := HNNK.out; exact IntWalk.wrap64_in _ ⟨by omega, by omega⟩
            rw [hwj]
            go_roundw
            case rel =>
              refine ⟨j, ps ++ [y], by omega, rfl, by rw [List.length_append]; have := HPJ.out; simp; omega, ?_, ?_, ?_, ?_, ?_, ?_⟩
              · obtain ⟨hlt, hget⟩ := List.getElem?_eq_some_iff.1 HKD.out
                rw [List.drop_eq_getElem_cons hlt, hget, List.map_append, HPS.out, HYE.out]
                simp [At.proj]
              · rw [← List.append_assoc, rowAt_snoc, HYC.out, List.length_append]
                exact hown1
              · intro h
                have h1 : gg = wo.heap.size := by simpa [Value.ownBlock] using h
                rcases hat with h2 | h2
                · exact HNE.out (by rw [h2, h1])
                · omega
              · refine Blk.grown ?_ hgrow (fun h => HNE.out h.symm)
                exact HPL2.out.alloc _
              · exact ((HB2.out.alloc (by have := HZ2.out; have := hz3; omega) _).drew).grown hgrow (by simp; omega) (fun k hk => (HOW2.out.lt k hk).1)
              · have h1 := hgrow.size
                have h2 := HZ2.out
                simp at h1
                omega
            case measure => simp [intOf]
      · have HJX := Lib.hid hJx3
        clear hJx3 hy hc0 hc1
        gi_wp2_with fail
        go_wp2_with fail
        refine bodyPost_ret (results_none rfl _ _ _) rfl ?_
        exact ⟨⟨_, rfl⟩, .inr ⟨pre ++ [x], ⟨_, by have := HP.out; simpa [At.proj] using this⟩, HJX.out⟩⟩
end Go.Proofs.YtaojlnibkajfbaaDoor
