/- Rows of bytes that a call owns: a string appended; turned into a string. -/
import Derived.Test.YtaojlnibkajfbaaDoorOwn
import Derived.Lib.AppendStr
import Derived.Lib.UnsafeStr
namespace Go.Proofs.YtaojlnibkajfbaaDoor
open Go.RowKit

theorem bcells_one (l : List UInt8) : ∀ u ∈ Lib.byteCells l, u.oneCell' = true := by
  intro u hu
  unfold Lib.byteCells at hu
  rw [List.mem_map] at hu
  obtain ⟨b, _, rfl⟩ := hu
  rfl
theorem bcells_app (l m : List UInt8) : Lib.byteCells (l ++ m) = Lib.byteCells l ++ Lib.byteCells m := by simp [Lib.byteCells]
/-- A slice that owns bytes: its address, and each of its cells. -/
theorem own_bytes {w : World} {base t n : Nat} {v : Value} {l : List UInt8} (h : w.ownsRow base t 1 v n (Lib.byteCells l)) (hl : l ≠ []) :
    ∃ g cap, v = .slice (some ⟨g, 0, none⟩) l.length cap ∧ ∀ j (hj : j < l.length), w.cell? ((⟨g, 0, none⟩ : Addr).add j) = some (.int .u8 (l[j].toNat : Int)) := by
  have hn : n = l.length := by have := h.1; rw [Lib.byteCells_length] at this; omega
  subst hn
  have h0 : l.length ≠ 0 := by simpa using hl
  obtain ⟨g, cap, e⟩ : ∃ g cap, v = .slice (some ⟨g, 0, none⟩) l.length cap := by
    rcases h.2 with ⟨_, h'⟩ | ⟨g, cap, _, e, _⟩
    · omega
    · exact ⟨g, cap, e⟩
  subst e
  refine ⟨g, cap, rfl, fun j hj => ?_⟩
  refine h.cells (g := g) rfl j _ ?_
  simp [Lib.byteCells, hj]
/-- An element type's row of the table: bytes. -/
def ByteElem (P : Program) (t e : TypeId) : Prop := ∃ i : TypeInfo, P.underlying t = some (.slice e) ∧ P.info? e = some i ∧ i.zero = some (.int .u8 0) ∧ i.size = 1 ∧ i.bytes = 1
theorem ByteElem.of {P : Program} {t e : TypeId} (h : ElemOf P t e 1 1) (hz : (P.info? e).map (fun i => i.zero) = some (some (.int .u8 0))) : ByteElem P t e := by
  obtain ⟨i, z, h1, h2, h3, h4, h5, h6, h7⟩ := h
  rw [h2] at hz
  simp only [Option.map_some, Option.some.injEq] at hz
  exact ⟨i, h1, h2, hz, h4, h5⟩
theorem wpList_append_str {P : Program} {W : World} {ops : Array Oper} {rest : List Oper} {o : Oper} {a : Act} {Q : Exit → Act → World → Prop} (hgd : o.guard = none) (sl x : Operand) (t u e : TypeId)
    (ho : o.op = .call { callee := .builtin .append, args := #[sl, x], argTypes := #[t, u] }) (hE : ByteElem P t e) (hu : P.underlying u = some .string)
    (w wr : World) (B : Nat) (hbw : Below B w wr) (hBr : B ≤ wr.heap.size) (hbr : Below wr.heap.size wr W)
    (v : Value) (n : Nat) (l : List UInt8) (hs : a.eval sl = v) (hown : wr.ownsRow B e 1 v n (Lib.byteCells l)) (s : ByteArray) (hx : a.eval x = .string s)
    (h63 : n + s.size ≤ maxLen) (hbytes : n + s.size ≤ 140737488355328)
    (h : ∀ v' W', W'.ownsRow B e 1 v' (n + s.size) (Lib.byteCells (l ++ s.data.toList)) → Below B w W' → W.grownBy W' v.ownBlock → (∀ k, v.ownBlock = some k → B ≤ k ∧ k < wr.heap.size) → wpList P ops Q rest (a.put o.dst v') W') : wpList P ops Q (o :: rest) a W := by
  obtain ⟨i, h1, h2, h3, h4, h5⟩ := hE
  have hsz := hbr.size
  refine Lib.wpList_append_own_string (w := W) hgd sl x t u ho B e i h1 hu h2 h3 h4 h5 v n (Lib.byteCells l) hs (own_below hown hbr) s hx h63 hbytes (by omega) ?_
  intro v' W' ho' hg' _
  have hlt := hown.lt
  refine h v' W' ?_ ((hbw.trans (hbr.mono hBr)).grown hg' (by omega) (fun k hk => (hlt k hk).1)) hg' hlt
  rw [bcells_app]
  exact ho'
end Go.Proofs.YtaojlnibkajfbaaDoor
