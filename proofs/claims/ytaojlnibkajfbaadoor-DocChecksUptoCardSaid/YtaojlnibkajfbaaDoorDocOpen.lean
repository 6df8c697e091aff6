/- An argument that is a document, opened: what the walks want of it. -/
import Derived.Test.YtaojlnibkajfbaaDoorDocPlain
import Derived.Test.YtaojlnibkajfbaaDoorRows
import Derived.Deep.Slices
import Derived.Deep.Fields
import Derived.ChangeSame
import Derived.Lib.SmallJoins
import Derived.SizedLaws
namespace Go.Proofs.YtaojlnibkajfbaaDoor
open Go.RowKit Go.ChangeShapes Go.WideShapes Go.Deep Go.Joins
set_option maxRecDepth 100000

theorem size_list' (s : ByteArray) : s.size = s.data.toList.length := by simp
section
variable {H : Type} {enc : TypeId × Value → H} {w : World}
/-- What the opened document's size is measured by. -/
theorem bulkAll_range (D : Nat → DataW H) (ds : List Doc) (n : Nat) (h : n = ds.length) (hb : ∀ j (hj : j < ds.length), (ds[j]).bulk ≤ Rows.uptoBulk (D j)) : bulkL ds ≤ Rows.uptoBulkAll ((List.range n).map D) := by
  subst h
  induction ds generalizing D with
  | nil => simp [bulkL]
  | cons d ds ih =>
    have h0 := hb 0 (by simp)
    have ih' := ih (fun j => D (j + 1)) (fun j hj => by have h2 := hb (j + 1) (by simpa using hj); exact h2)
    rw [List.length_cons, List.range_succ_eq_map, List.map_cons, List.map_map]
    simp only [bulkL, Rows.uptoBulkAll]
    simp only [List.getElem_cons_zero] at h0
    exact Nat.add_le_add h0 ih'

/-- A kids' slice that reads: its documents. -/
theorem kids_trod {n : Nat} (ih : ∀ (cs : List Value) (x : DataW H × List MemPlace), DataW.trod enc Tryd.prog w 0 (fun _ => true) true n 24 cs = some x → ∃ D kv, cs = docCells D kv ∧ KV w 0 w.heap.size D kv ∧ D.bulk ≤ Rows.uptoBulk x.1)
    {a : Addr} {len : Nat} {elems : List (DataW H × List MemPlace)} (hl : elems.length = len)
    (he : ∀ i, i < len → (w.cells? 0 (a.add (i * Tryd.prog.cellsOf 24)) (Tryd.prog.cellsOf 24)).bind (DataW.trod enc Tryd.prog w 0 (fun _ => true) true n 24) = elems[i]?) :
    ∃ ks : List Doc, ks.length = len ∧ (0 < ks.length → ∃ g off, a = ⟨g, off, none⟩ ∧ 0 ≤ g ∧ g < w.heap.size ∧ EV w 0 w.heap.size g ks off) ∧ bulkL ks ≤ Rows.uptoBulkAll (elems.map (·.1)) := by
  have hC : Tryd.prog.cellsOf 24 = 6 := by kernel_rfl
  rw [hC] at he
  have h1 : ∀ i, i < len → ∃ D : Doc, ∃ kv, (∀ j, j < 6 → w.cell? (a.add (i * 6 + j)) = (docCells D kv)[j]?) ∧ KV w 0 w.heap.size D kv ∧ D.bulk ≤ Rows.uptoBulk ((elems.getD i (.nil, [])).1) := by
    intro i hi
    have h2 := he i hi
    rw [List.getElem?_eq_getElem (by omega)] at h2
    obtain ⟨cs', h3, h4⟩ := Option.bind_eq_some_iff.1 h2
    obtain ⟨D, kv, rfl, h5, h6⟩ := ih cs' _ h4
    obtain ⟨_, _, h7⟩ := World.cells?_some h3
    refine ⟨D, kv, fun j hj => ?_, h5, ?_⟩
    · rw [← Go.Deep.add_add]
      exact h7 j hj
    · have : elems.getD i (.nil, []) = elems[i]'(by omega) := by simp [List.getD, List.getElem?_eq_getElem (show i < elems.length by omega)]
      rw [this]
      exact h6
  have hinh : Inhabited Doc := ⟨.mk 0 ⟨#[]⟩ [] false 0 0⟩
  obtain ⟨f, hf⟩ := choose_lt h1
  refine ⟨(List.range len).map f, by simp, fun h0 => ?_, ?_⟩
  · simp only [List.length_map, List.length_range] at h0
    obtain ⟨b, off, spot⟩ := a
    obtain ⟨kv, hc, _, _⟩ := hf 0 h0
    have hc0 := hc 0 (by omega)
    have hspot : spot = none := by simpa [Addr.add] using World.cell?_spot hc0
    subst hspot
    have hb : b < w.heap.size := by
      have := World.block_lt_of_cell? w _ hc0
      simpa [Addr.add] using this
    refine ⟨b, off, rfl, Nat.zero_le _, hb, EV_iff.2 fun j hj => ?_⟩
    simp only [List.length_map, List.length_range] at hj
    obtain ⟨kv, hc, hk, _⟩ := hf j hj
    have hg : ((List.range len).map f)[j]'(by simpa using hj) = f j := by simp
    rw [hg]
    have hcell : ∀ c, c < 6 → w.cell? ⟨b, off + j * 6 + c, none⟩ = (docCells (f j) kv)[c]? := fun c h6 => by
      have := hc c h6
      rw [Go.WideShapes.add_plain] at this
      rw [← this]
      congr 2
      omega
    exact ⟨kv, ⟨hcell 0 (by omega), hcell 1 (by omega), hcell 2 (by omega), hcell 3 (by omega), hcell 4 (by omega), hcell 5 (by omega)⟩, hk⟩
  · have e : elems.map (·.1) = (List.range len).map fun i => (elems.getD i (.nil, [])).1 := by
      rw [map_by_index elems (.nil, []) (·.1), hl]
    rw [e]
    refine bulkAll_range _ _ _ (by simp) (fun j hj => ?_)
    simp only [List.length_map, List.length_range] at hj
    obtain ⟨_, _, _, h6⟩ := hf j hj
    simpa using h6

theorem doc_trod (fuel : Nat) : ∀ (cs : List Value) (x : DataW H × List MemPlace), DataW.trod enc Tryd.prog w 0 (fun _ => true) true fuel 24 cs = some x →
    ∃ D kv, cs = docCells D kv ∧ KV w 0 w.heap.size D kv ∧ D.bulk ≤ Rows.uptoBulk x.1 := by
  induction fuel using Nat.strongRecOn with
  | ind fuel ih =>
    intro cs x h
    obtain ⟨ys, fu, hfu, hy, hlen, hyl, hf⟩ := DataW.trod_struct Tryd.underlying24 h
    have hlen6 : cs.length = 6 := hlen
    match cs, hlen6, ys, hyl with
    | [c0, c1, c2, c3, c4, c5], _, [y0, y1, y2, y3, y4, y5], _ =>
      have s0 : DataW.trod enc Tryd.prog w 0 (fun _ => true) true fu 3 [c0] = some y0 := hf 0 _ rfl
      have s1 : DataW.trod enc Tryd.prog w 0 (fun _ => true) true fu 9 [c1] = some y1 := hf 1 _ rfl
      have s2 : DataW.trod enc Tryd.prog w 0 (fun _ => true) true fu 22 [c2] = some y2 := hf 2 _ rfl
      have s3 : DataW.trod enc Tryd.prog w 0 (fun _ => true) true fu 4 [c3] = some y3 := hf 3 _ rfl
      have s4 : DataW.trod enc Tryd.prog w 0 (fun _ => true) true fu 3 [c4] = some y4 := hf 4 _ rfl
      have s5 : DataW.trod enc Tryd.prog w 0 (fun _ => true) true fu 3 [c5] = some y5 := hf 5 _ rfl
      clear hf h
      obtain ⟨k, e0, r0, _⟩ := DataW.trod_int Tryd.underlying3 s0
      obtain ⟨t, e1, r1, _⟩ := DataW.trod_string Tryd.underlying9 s1
      obtain ⟨b, e3, r3⟩ := DataW.trod_bool Tryd.underlying4 s3
      obtain ⟨i, e4, r4, _⟩ := DataW.trod_int Tryd.underlying3 s4
      obtain ⟨y, e5, r5, _⟩ := DataW.trod_int Tryd.underlying3 s5
      cases e0
      cases e1
      cases e3
      cases e4
      cases e5
      subst r0 r1 r3 r4 r5
      have hx : x.1 = .agg [.lit (.int .i64 k), .lit (.string t.data.toList), y2.1, .lit (.bool b), .lit (.int .i64 i), .lit (.int .i64 y)] := by rw [hy]; rfl
      have ht := size_list' t
      rcases DataW.trod_slice Tryd.underlying22 s2 with ⟨e2, r2⟩ | ⟨a, len, cap, elems, rest, n, hn, e2, r2, _, hlc, _, hel, hev, _, _⟩
      · cases e2
        refine ⟨.mk k t [] b i y, .slice none 0 0, rfl, ?_, ?_⟩
        · rw [KV]
          exact ⟨none, 0, rfl, by simp, fun h => by simp at h⟩
        · rw [hx, r2]
          simp only [Doc.bulk, bulkL, Rows.uptoBulk, Rows.uptoBulkAll]
          omega
      · cases e2
        obtain ⟨ks, hks, hev2, hbk⟩ := kids_trod (ih n (by omega)) hel hev
        refine ⟨.mk k t ks b i y, .slice (some a) len cap, rfl, ?_, ?_⟩
        · rw [KV]
          refine ⟨some a, cap, by rw [hks], by omega, fun h0 => ?_⟩
          obtain ⟨g, off, rfl, h1, h2, h3⟩ := hev2 h0
          exact ⟨g, off, rfl, h1, h2, h3⟩
        · rw [hx, r2]
          simp only [Doc.bulk, Rows.uptoBulk, Rows.uptoBulkAll]
          omega
/-- AN ARGUMENT THAT IS A DOCUMENT. -/
theorem doc_open {v : Value} {d : DataW H} {ps : List MemPlace} {base : Nat} (hv : Value.okWide Tryd.prog w .any base 24 v) (h : DataW.Trod enc Tryd.prog w 0 (fun _ => true) true 24 v d ps) :
    ∃ D kv, v = docV D kv ∧ KV w 0 w.heap.size D kv ∧ D.bulk ≤ Rows.uptoBulk d := by
  obtain ⟨cs, rfl, _⟩ := okWide_struct Tryd.underlying24 hv
  obtain ⟨fuel, hf⟩ := h
  obtain ⟨D, kv, h1, h2, h3⟩ := doc_trod fuel _ _ hf
  obtain ⟨l⟩ := cs
  have h1' : l = docCells D kv := h1
  subst h1'
  exact ⟨D, kv, rfl, h2, h3⟩
end
end Go.Proofs.YtaojlnibkajfbaaDoor
