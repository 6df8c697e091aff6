/- Package regex: the whole reader in memory: its names (a map), what it was asked (two rows). -/
import Derived.Test.YtnbadnmmolagfaaDoorRegClass
import Derived.WideMake
import Derived.Deep.AppendLies
namespace Go.Proofs.YtnbadnmmolagfaaDoor
open Go.RowKit
set_option maxRecDepth 100000
set_option linter.unusedVariables false
set_option linter.unusedSimpArgs false

/-! ### The map -/
def entryOf (p : Ln × Nat) : Value × Value := (.string (strOf p.1), .int .i64 (p.2 : Int))
def HasNames (es : Array MapEntry) (nm : List (Ln × Nat)) : Prop := es.toList.map (fun e => (e.key, e.val)) = nm.map entryOf
theorem strOf_beq (a b : Ln) : (strOf a == strOf b) = (a == b) := by
  have e : (strOf a == strOf b) = (a.toArray == b.toArray) := rfl
  rw [e]
  by_cases h : a = b
  · subst h; simp
  · have h1 : (a == b) = false := by simpa using h
    rw [h1, beq_eq_false_iff_ne]
    intro e
    exact h (by simpa using e)
theorem find_names (t : Ln) : ∀ (es : List MapEntry) (nm : List (Ln × Nat)) (i : Nat), es.map (fun e => (e.key, e.val)) = nm.map entryOf →
    ((nm.find? (fun x => x.1 == t)).isSome = false → Instr.findNow .string (.string (strOf t)) es i = some none) ∧
    ((nm.find? (fun x => x.1 == t)).isSome = true → ∃ p, Instr.findNow .string (.string (strOf t)) es i = some (some p))
  | [], nm, i, h => by
    have : nm = [] := by cases nm with
      | nil => rfl
      | cons a l => simp at h
    subst this
    exact ⟨fun _ => rfl, fun h => by simp at h⟩
  | e :: es, nm, i, h => by
    cases nm with
    | nil => simp at h
    | cons p nm =>
      simp only [List.map_cons, List.cons.injEq] at h
      obtain ⟨h1, h2⟩ := h
      have ih := find_names t es nm (i + 1) h2
      have hk : e.key = .string (strOf p.1) := congrArg Prod.fst h1
      have hs : Instr.sameNow .string (.string (strOf t)) e.key = some (p.1 == t) := by
        rw [hk]
        show some (strOf t == strOf p.1) = _
        rw [strOf_beq, Bool.beq_comm]
      rw [List.find?_cons]
      unfold Instr.findNow
      rw [hs]
      cases p.1 == t
      · exact ih
      · exact ⟨fun h => by simp at h, fun _ => ⟨_, rfl⟩⟩
theorem map_t : Tryd.prog.underlying 44 = some (.map 9 3) := Tryd.underlying44
theorem lookup_names {w : World} {M : Nat} {es : Array MapEntry} {clock : Nat} {nm : List (Ln × Nat)} (hb : w.heap[M]? = some (.map es clock)) (hn : HasNames es nm) (t : Ln) :
    ∃ v, (Instr.lookup 44 (.map (some M)) (.string (strOf t)) true).run Tryd.prog w = .ok (.tuple #[v, .bool (nm.find? (fun x => x.1 == t)).isSome]) w := by
  have hk : Tryd.prog.underlying 9 = some .string := Tryd.underlying9
  have hc : ∀ b, (Instr.checkKey b 10000 9 (.string (strOf t))).run Tryd.prog w = .ok () w := fun b => MapKept.run_checkKey (k := .string (strOf t)) hk (by simp [MapKept.IsKey]) b 9999
  have hf := find_names t es.toList nm 0 hn
  have hz : (zeroValue 3).run Tryd.prog w = .ok (.int .i64 0) w := Tryd.zeroValue3 w
  cases h : (nm.find? (fun x => x.1 == t)).isSome
  · have h1 := hf.1 h
    exact ⟨.int .i64 0, by simp [Instr.lookup, run_underlying map_t, MapKept.run_getObj_map hb, hc, MapKept.run_findKey hk h1, hz, Result.andThen]⟩
  · obtain ⟨p, h1⟩ := hf.2 h
    exact ⟨p.2, by simp [Instr.lookup, run_underlying map_t, MapKept.run_getObj_map hb, hc, MapKept.run_findKey hk h1, Result.andThen]⟩
theorem lookup_draws {w : World} {M : Nat} {es : Array MapEntry} {clock : Nat} {nm : List (Ln × Nat)} (hb : w.heap[M]? = some (.map es clock)) (hn : HasNames es nm) (t : Ln) :
    ∃ v, ∀ n, (Instr.lookup 44 (.map (some M)) (.string (strOf t)) true).run Tryd.prog (w.drewN n) = .ok (.tuple #[v, .bool (nm.find? (fun x => x.1 == t)).isSome]) (w.drewN n) := by
  have hk : Tryd.prog.underlying 9 = some .string := Tryd.underlying9
  have hc : ∀ b n, (Instr.checkKey b 10000 9 (.string (strOf t))).run Tryd.prog (w.drewN n) = .ok () (w.drewN n) := fun b n => MapKept.run_checkKey (k := .string (strOf t)) hk (by simp [MapKept.IsKey]) b 9999
  have hf := find_names t es.toList nm 0 hn
  have hz : ∀ n, (zeroValue 3).run Tryd.prog (w.drewN n) = .ok (.int .i64 0) (w.drewN n) := fun n => Tryd.zeroValue3 _
  have hb' : ∀ n, (w.drewN n).heap[M]? = some (.map es clock) := fun _ => hb
  cases h : (nm.find? (fun x => x.1 == t)).isSome
  · have h1 := hf.1 h
    exact ⟨.int .i64 0, fun n => by simp [Instr.lookup, run_underlying map_t, MapKept.run_getObj_map (hb' n), hc, MapKept.run_findKey hk h1, hz, Result.andThen]⟩
  · obtain ⟨p, h1⟩ := hf.2 h
    exact ⟨p.2, fun n => by simp [Instr.lookup, run_underlying map_t, MapKept.run_getObj_map (hb' n), hc, MapKept.run_findKey hk h1, Result.andThen]⟩
/-- The map with one name more. -/
def putName (w : World) (M : Nat) (es : Array MapEntry) (clock : Nat) (t : Ln) (n : Nat) : World :=
  { w with heap := w.heap.setIfInBounds M (.map (es.push { key := .string (strOf t), val := .int .i64 (n : Int), born := clock }) (clock + 1)) }
theorem update_names {w : World} {M : Nat} {es : Array MapEntry} {clock : Nat} {nm : List (Ln × Nat)} (hb : w.heap[M]? = some (.map es clock)) (hn : HasNames es nm) (t : Ln) (n : Nat) (h : (nm.find? (fun x => x.1 == t)).isSome = false) :
    (Instr.mapUpdate 44 (.map (some M)) (.string (strOf t)) (.int .i64 (n : Int))).run Tryd.prog w = .ok () (putName w M es clock t n) := by
  have hk : Tryd.prog.underlying 9 = some .string := Tryd.underlying9
  have hc : (Instr.checkKey false 10000 9 (.string (strOf t))).run Tryd.prog w = .ok () w := MapKept.run_checkKey (k := .string (strOf t)) hk (by simp [MapKept.IsKey]) false 9999
  have hf := (find_names t es.toList nm 0 hn).1 h
  simp [Instr.mapUpdate, run_underlying map_t, MapKept.run_getObj_map hb, hc, MapKept.run_findKey hk hf, MapKept.run_setObj_map _ hb, Result.andThen, putName]
theorem names_push {es : Array MapEntry} {nm : List (Ln × Nat)} (hn : HasNames es nm) (t : Ln) (n c : Nat) : HasNames (es.push { key := .string (strOf t), val := .int .i64 (n : Int), born := c }) (nm ++ [(t, n)]) := by
  unfold HasNames at *
  rw [Array.toList_push, List.map_append, List.map_append, hn]
  rfl

/-! ### The rows -/
def askCells (n : Nat) (l : List (Nat × Ln)) : List Value := l.flatMap fun p => [.int .i64 ((n : Int) - (p.1 : Int)), .string (strOf p.2)]
theorem askCells_len (n : Nat) (l : List (Nat × Ln)) : (askCells n l).length = l.length * 2 := by
  induction l with
  | nil => rfl
  | cons a l ih => simp [askCells, List.flatMap_cons] at *; omega
theorem own_grown {w w' : World} {base e size n : Nat} {v : Value} {xs : List Value} {o : Option Nat} (h : w.ownsRow base e size v n xs) (hg : w.grownBy w' o) (hne : ∀ k, v.ownBlock = some k → some k ≠ o) : w'.ownsRow base e size v n xs := by
  refine ⟨h.1, ?_⟩
  rcases h.2 with h2 | ⟨g, cap, cur, h1, h2, h3, h4⟩
  · exact .inl h2
  · exact .inr ⟨g, cap, cur, h1, h2, (hg.block g (Array.getElem?_eq_some_iff.1 h3).1 (hne g (by rw [h1]; rfl))).trans h3, h4⟩
/-- A row's block is no block of another kind. -/
theorem own_ne {w : World} {base e size n : Nat} {v : Value} {xs : List Value} (h : w.ownsRow base e size v n xs) {k : Nat} (hk : v.ownBlock = some k) : ∃ cur, w.heap[k]? = some (.cells cur e (0, 0)) := by
  rcases h.2 with ⟨h2, _⟩ | ⟨g, cap, cur, h1, h2, h3, h4⟩
  · rw [h2] at hk; cases hk
  · rw [h1] at hk
    have : g = k := by simpa [Value.ownBlock] using hk
    subst this
    exact ⟨cur, h3⟩

/-- THE READER, WHOLE. -/
structure Rs (B b M : Nat) (l : Ln) (u : Bool) (s : St) (vn vd : Value) (es : Array MapEntry) (clock : Nat) (w : World) : Prop where
  rd : Rd b l u [.int .i64 (s.g : Int), .map (some M), vn, vd] s.r w
  nu : w.ownsRow B 52 2 vn s.nu.length (askCells l.length s.nu)
  nd : w.ownsRow B 52 2 vd s.nd.length (askCells l.length s.nd)
  mp : w.heap[M]? = some (.map es clock)
  nm : HasNames es s.nm
  ap : ∀ k, vn.ownBlock = some k → vd.ownBlock ≠ some k
  hb : B ≤ b
  hM : B ≤ M
/-- The counts stay small. -/
def St.fits (s : St) (n : Nat) : Prop := s.g + s.nu.length + s.nd.length + s.r.length ≤ n
theorem Rs.ne {B b M : Nat} {l : Ln} {u : Bool} {s : St} {vn vd : Value} {es : Array MapEntry} {clock : Nat} {w : World} (h : Rs B b M l u s vn vd es clock w) : b ≠ M ∧ (∀ k, vn.ownBlock = some k → k ≠ b ∧ k ≠ M) ∧ (∀ k, vd.ownBlock = some k → k ≠ b ∧ k ≠ M) := by
  obtain ⟨k0, _, _, hbk⟩ := h.rd
  unfold Blk at hbk
  refine ⟨?_, ?_, ?_⟩
  · rintro rfl
    have := h.mp
    rw [hbk] at this
    cases this
  · intro k hk
    obtain ⟨cur, hc⟩ := own_ne h.nu hk
    constructor
    · rintro rfl
      rw [hbk] at hc
      injection hc with hc
      injection hc with h1 h2
      cases h2
    · rintro rfl
      rw [h.mp] at hc
      cases hc
  · intro k hk
    obtain ⟨cur, hc⟩ := own_ne h.nd hk
    constructor
    · rintro rfl
      rw [hbk] at hc
      injection hc with hc
      injection hc with h1 h2
      cases h2
    · rintro rfl
      rw [h.mp] at hc
      cases hc
/-- A light reader's step. -/
theorem Rs.next {B b M : Nat} {l : Ln} {u : Bool} {s : St} {vn vd : Value} {es : Array MapEntry} {clock : Nat} {w w' : World} {r : Ln} (h : Rs B b M l u s vn vd es clock w) (h1 : Rd b l u [.int .i64 (s.g : Int), .map (some M), vn, vd] r w') (h2 : w.grownBy w' (some b)) : Rs B b M l u { s with r := r } vn vd es clock w' := by
  obtain ⟨n1, n2, n3⟩ := h.ne
  refine ⟨h1, own_grown h.nu h2 (fun k hk => by simpa using (n2 k hk).1), own_grown h.nd h2 (fun k hk => by simpa using (n3 k hk).1), (h2.block M (Array.getElem?_eq_some_iff.1 h.mp).1 (by simpa using n1.symm)).trans h.mp, h.nm, h.ap, h.hb, h.hM⟩
theorem Rs.below {B b M : Nat} {l : Ln} {u : Bool} {s : St} {vn vd : Value} {es : Array MapEntry} {clock : Nat} {w w' : World} (h : Rs B b M l u s vn vd es clock w) (h1 : Below w.heap.size w w') : Rs B b M l u s vn vd es clock w' :=
  ⟨h.rd.grown h1, own_below h.nu h1, own_below h.nd h1, (h1.block M (Array.getElem?_eq_some_iff.1 h.mp).1).trans h.mp, h.nm, h.ap, h.hb, h.hM⟩
theorem below_grown {B b : Nat} {w w1 w2 : World} (h : Below B w w1) (hw : B ≤ w.heap.size) (hg : w1.grownBy w2 (some b)) (hb : B ≤ b) : Below B w w2 := h.grown hg (Nat.le_trans hw h.size) (fun k hk => by injection hk with hk; omega)
/-- How a heavy reader ends. -/
def EndS (B b M : Nat) (l : Ln) (u : Bool) (w : World) (R : Except Flt St) (e : Ending) (w' : World) : Prop :=
  Below B w w' ∧ match R with
  | .ok s => e = .returned (.tuple #[]) ∧ ∃ vn vd es clock, Rs B b M l u s vn vd es clock w'
  | .error f => e = thrown l.length f
theorem Env.low {B : Nat} {w w' : World} (h : Env w) (hg : Below B w w') (hb : 2 < B) : Env w' := by
  obtain ⟨hT, m, hm⟩ := h
  have hz := hT.2
  refine ⟨⟨⟨fun c hc => (hg.cell (p := ⟨1, c, none⟩) (by simp; omega)).trans (hT.1.1 c hc), fun i hi => ⟨(hg.cell (p := ⟨2, 2 * i, none⟩) (by simp; omega)).trans (hT.1.2 i hi).1, (hg.cell (p := ⟨2, 2 * i + 1, none⟩) (by simp; omega)).trans (hT.1.2 i hi).2⟩⟩, Nat.lt_of_lt_of_le hz hg.size⟩, m, (hg.cell (p := ⟨0, 0, none⟩) (by simp; omega)).trans hm⟩
end Go.Proofs.YtnbadnmmolagfaaDoor
