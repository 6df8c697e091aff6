/- An argument that is a list of edits, opened. -/
import Derived.Test.YtakolehlaejhfaaEdMem
import Derived.Test.YtakolehlaejhfaaEdApply
import Derived.Test.YtakolehlaejhfaaRows
import Derived.Deep.Slices
import Derived.Deep.Fields
import Derived.ChangeSame
import Derived.Lib.SmallJoins
import Derived.SizedLaws
namespace Go.Proofs.Ytakolehlaejhfaa
open Go.RowKit Go.ChangeShapes Go.WideShapes Go.Deep Go.Joins
set_option maxRecDepth 100000

section
variable {H : Type} {enc : TypeId × Value → H} {w : World}
theorem sum_range (m : Nat → Nat) (D : Nat → DataW H) (n : Nat) (hb : ∀ j, j < n → m j ≤ Rows.uptoBulk (D j)) : ((List.range n).map m).sum ≤ Rows.uptoBulkAll ((List.range n).map D) := by
  induction n generalizing m D with
  | zero => simp
  | succ n ih =>
    have h0 := hb 0 (by omega)
    have ih' := ih (fun j => m (j + 1)) (fun j => D (j + 1)) (fun j hj => hb (j + 1) (by omega))
    rw [List.range_succ_eq_map, List.map_cons, List.map_cons, List.map_map, List.map_map]
    simp only [List.sum_cons, Rows.uptoBulkAll]
    exact Nat.add_le_add h0 ih'
def lnBulk (l : Ln) : Nat := l.length + 1
theorem lnBulk_sum (ls : List Ln) : (ls.map lnBulk).sum = ls.flatten.length + ls.length := by
  induction ls with
  | nil => rfl
  | cons l ls ih => simp only [List.map_cons, List.sum_cons, ih, List.flatten_cons, List.length_append, List.length_cons, lnBulk]; omega
theorem texts_trod {n : Nat} {a : Addr} {len : Nat} {elems : List (DataW H × List MemPlace)} (hl : elems.length = len)
    (he : ∀ i, i < len → (w.cells? 0 (a.add (i * Try.prog.cellsOf 9)) (Try.prog.cellsOf 9)).bind (DataW.trod enc Try.prog w 0 (fun _ => true) true n 9) = elems[i]?) :
    ∃ ls : List Ln, ls.length = len ∧ TxtAt w 0 w.heap.size (some a) ls ∧ ls.flatten.length + ls.length ≤ Rows.uptoBulkAll (elems.map (·.1)) := by
  have hC : Try.prog.cellsOf 9 = 1 := by kernel_rfl
  rw [hC] at he
  have h1 : ∀ i, i < len → ∃ t : Ln, w.cell? (a.add i) = some (.string (strOf t)) ∧ lnBulk t ≤ Rows.uptoBulk ((elems.getD i (.nil, [])).1) := by
    intro i hi
    have h2 := he i hi
    rw [List.getElem?_eq_getElem (by omega)] at h2
    obtain ⟨cs', h3, h4⟩ := Option.bind_eq_some_iff.1 h2
    obtain ⟨_, hsz, h7⟩ := World.cells?_some h3
    obtain ⟨t, e1, r1, _⟩ := DataW.trod_string Try.underlying9 h4
    subst e1
    refine ⟨t.data.toList, ?_, ?_⟩
    · have := h7 0 (by omega)
      rw [Go.Deep.add_add, Nat.mul_one, Nat.add_zero] at this
      rw [this, strOf_list]
      rfl
    · have : elems.getD i (.nil, []) = elems[i]'(by omega) := by simp [List.getD, List.getElem?_eq_getElem (show i < elems.length by omega)]
      rw [this, r1]
      simp [lnBulk, Rows.uptoBulk]
  have hinh : Inhabited Ln := ⟨[]⟩
  obtain ⟨f, hf⟩ := choose_lt h1
  refine ⟨(List.range len).map f, by simp, fun h0 => ?_, ?_⟩
  · have h00 : 0 < len := by
      rcases Nat.eq_zero_or_pos len with h | h
      · subst h; simp at h0
      · exact h
    obtain ⟨b, off, spot⟩ := a
    obtain ⟨hc0, _⟩ := hf 0 h00
    have hspot : spot = none := by simpa [Addr.add] using World.cell?_spot hc0
    subst hspot
    have hb : b < w.heap.size := by
      have := World.block_lt_of_cell? w _ hc0
      simpa [Addr.add] using this
    refine ⟨b, off, rfl, Nat.zero_le _, hb, fun j hj => ?_⟩
    simp only [List.length_map, List.length_range] at hj
    obtain ⟨hc, _⟩ := hf j hj
    rw [Go.WideShapes.add_plain] at hc
    rw [hc]
    simp
  · have e : elems.map (·.1) = (List.range len).map fun i => (elems.getD i (.nil, [])).1 := by
      rw [map_by_index elems (.nil, []) (·.1), hl]
    rw [e, ← lnBulk_sum, List.map_map]
    exact sum_range _ _ _ (fun j hj => (hf j hj).2)

def edBulk (E : Ed) : Nat := E.put.flatten.length + E.put.length + 1
theorem edit_trod {fuel : Nat} {cs : List Value} {x : DataW H × List MemPlace} (h : DataW.trod enc Try.prog w 0 (fun _ => true) true fuel 43 cs = some x) :
    ∃ (E : Ed) (PA : Option Addr) (pc : Nat), cs = [.int .i64 E.keep, .int .i64 E.drop, .slice PA E.put.length pc] ∧ E.put.length ≤ pc ∧ TxtAt w 0 w.heap.size PA E.put ∧ edBulk E ≤ Rows.uptoBulk x.1 := by
  obtain ⟨ys, fu, hfu, hy, hlen, hyl, hf⟩ := DataW.trod_struct Try.underlying43 h
  have hlen3 : cs.length = 3 := hlen
  match cs, hlen3, ys, hyl with
  | [c0, c1, c2], _, [y0, y1, y2], _ =>
    have s0 : DataW.trod enc Try.prog w 0 (fun _ => true) true fu 3 [c0] = some y0 := hf 0 _ rfl
    have s1 : DataW.trod enc Try.prog w 0 (fun _ => true) true fu 3 [c1] = some y1 := hf 1 _ rfl
    have s2 : DataW.trod enc Try.prog w 0 (fun _ => true) true fu 40 [c2] = some y2 := hf 2 _ rfl
    clear hf h
    obtain ⟨k, e0, r0, _⟩ := DataW.trod_int Try.underlying3 s0
    obtain ⟨d, e1, r1, _⟩ := DataW.trod_int Try.underlying3 s1
    cases e0
    cases e1
    subst r0 r1
    have hx : x.1 = .agg [.lit (.int .i64 k), .lit (.int .i64 d), y2.1] := by rw [hy]; rfl
    rcases DataW.trod_slice Try.underlying40 s2 with ⟨e2, r2⟩ | ⟨a, len, cap, elems, rest, n, hn, e2, r2, _, hlc, _, hel, hev, _, _⟩
    · cases e2
      refine ⟨⟨k, d, []⟩, none, 0, rfl, Nat.le_refl _, TxtAt.nil _ _ _ _, ?_⟩
      rw [hx]
      simp only [edBulk, Rows.uptoBulk, Rows.uptoBulkAll, List.flatten_nil, List.length_nil]
      omega
    · cases e2
      obtain ⟨ls, hls, ht, hb⟩ := texts_trod hel hev
      refine ⟨⟨k, d, ls⟩, some a, cap, by rw [hls], by rw [hls]; omega, ht, ?_⟩
      rw [hx, r2]
      simp only [edBulk, Rows.uptoBulk, Rows.uptoBulkAll]
      omega
theorem edBulk_sum (es : List Ed) : putSum es ≤ (es.map edBulk).sum ∧ es.length ≤ (es.map edBulk).sum ∧ ∀ e ∈ es, e.put.length ≤ (es.map edBulk).sum := by
  induction es with
  | nil => simp [putSum]
  | cons e es ih =>
    obtain ⟨h1, h2, h3⟩ := ih
    have e1 : putSum (e :: es) = e.put.flatten.length + putSum es := by simp [putSum]
    simp only [List.map_cons, List.sum_cons, List.length_cons]
    have e2 : edBulk e = e.put.flatten.length + e.put.length + 1 := rfl
    refine ⟨by omega, by omega, fun x hx => ?_⟩
    rcases List.mem_cons.1 hx with rfl | hx
    · omega
    · have := h3 x hx; omega
/-- AN ARGUMENT THAT IS A LIST OF EDITS. -/
theorem edits_open {v : Value} {d : DataW H} {ps : List MemPlace} {base : Nat} (hv : Value.okWide Try.prog w .any base 22 v) (h : DataW.Trod enc Try.prog w 0 (fun _ => true) true 22 v d ps) :
    ∃ A c es, v = .slice A es.length c ∧ EdsAt w 0 w.heap.size A es ∧ (es.map edBulk).sum ≤ Rows.uptoBulk d := by
  obtain ⟨a0, len0, cap0, rfl⟩ := okWide_slice Try.underlying22 hv
  obtain ⟨fuel, hf⟩ := h
  rcases DataW.trod_slice Try.underlying22 hf with ⟨e2, r2⟩ | ⟨a, len, cap, elems, rest, n, hn, e2, r2, _, hlc, _, hel, hev, _, _⟩
  · simp [Value.cells] at e2
    obtain ⟨rfl, rfl, rfl⟩ := e2
    exact ⟨none, 0, [], rfl, EdsAt.nil _ _ _ _, by simp⟩
  · simp [Value.cells] at e2
    obtain ⟨rfl, rfl, rfl⟩ := e2
    have hC : Try.prog.cellsOf 43 = 3 := by kernel_rfl
    rw [hC] at hev
    have h1 : ∀ i, i < len0 → ∃ E : Ed, ∃ (PA : Option Addr) (pc : Nat), (∀ j, j < 3 → w.cell? (a.add (i * 3 + j)) = ([Value.int .i64 E.keep, .int .i64 E.drop, .slice PA E.put.length pc] : List Value)[j]?) ∧ E.put.length ≤ pc ∧ TxtAt w 0 w.heap.size PA E.put ∧ edBulk E ≤ Rows.uptoBulk ((elems.getD i (.nil, [])).1) := by
      intro i hi
      have h2 := hev i hi
      rw [List.getElem?_eq_getElem (by omega)] at h2
      obtain ⟨cs', h3, h4⟩ := Option.bind_eq_some_iff.1 h2
      obtain ⟨E, PA, pc, rfl, h5, h6, h8⟩ := edit_trod h4
      obtain ⟨_, _, h7⟩ := World.cells?_some h3
      refine ⟨E, PA, pc, fun j hj => ?_, h5, h6, ?_⟩
      · rw [← Go.Deep.add_add]
        exact h7 j hj
      · have : elems.getD i (.nil, []) = elems[i]'(by omega) := by simp [List.getD, List.getElem?_eq_getElem (show i < elems.length by omega)]
        rw [this]
        exact h8
    have hinh : Inhabited Ed := ⟨⟨0, 0, []⟩⟩
    obtain ⟨f, hf2⟩ := choose_lt h1
    refine ⟨some a, cap0, (List.range len0).map f, by simp, fun h0 => ?_, ?_⟩
    · have h00 : 0 < len0 := by
        rcases Nat.eq_zero_or_pos len0 with h | h
        · subst h; simp at h0
        · exact h
      obtain ⟨b, off, spot⟩ := a
      obtain ⟨_, _, hc, _⟩ := hf2 0 h00
      have hc0 := hc 0 (by omega)
      have hspot : spot = none := by simpa [Addr.add] using World.cell?_spot hc0
      subst hspot
      have hb : b < w.heap.size := by
        have := World.block_lt_of_cell? w _ hc0
        simpa [Addr.add] using this
      refine ⟨b, off, rfl, Nat.zero_le _, hb, fun j hj => ?_⟩
      simp only [List.length_map, List.length_range] at hj
      obtain ⟨PA, pc, hc, h5, h6, _⟩ := hf2 j hj
      have hg : ((List.range len0).map f)[j]'(by simpa using hj) = f j := by simp
      rw [hg]
      have hcell : ∀ c, c < 3 → w.cell? ⟨b, off + j * 3 + c, none⟩ = ([Value.int .i64 (f j).keep, .int .i64 (f j).drop, .slice PA (f j).put.length pc] : List Value)[c]? := fun c h3 => by
        have := hc c h3
        rw [Go.WideShapes.add_plain] at this
        rw [← this]
        congr 2
        omega
      exact ⟨hcell 0 (by omega), hcell 1 (by omega), PA, pc, hcell 2 (by omega), h5, h6⟩
    · have e : elems.map (·.1) = (List.range len0).map fun i => (elems.getD i (.nil, [])).1 := by
        rw [map_by_index elems (.nil, []) (·.1), hel]
      have hd := congrArg Prod.fst r2
      simp only [] at hd
      rw [hd, List.map_map]
      simp only [Rows.uptoBulk]
      have := sum_range (fun j => edBulk (f j)) (fun i => (elems.getD i (.nil, [])).1) len0 (fun j hj => by obtain ⟨_, _, _, _, _, h⟩ := hf2 j hj; exact h)
      rw [← e] at this
      show ((List.range len0).map (fun j => edBulk (f j))).sum ≤ _
      omega
end
end Go.Proofs.Ytakolehlaejhfaa
