/- edits.table: how many lines may be kept, for what is left of both lists. -/
import Derived.Test.YtakolehlaejhfaaEdMem
import Derived.Test.YtakolehlaejhfaaRows
import Derived.WalkSmall
import Derived.Outline
import Derived.BigRegion
import Derived.BigQuiet
import Derived.OwnWalk
import Derived.IntWalk
import Derived.Deep.Cut
import Derived.StillTailTactics
import Derived.Deep.QuietTactic
import Derived.Deep.LoopGhost
namespace Go.Proofs.Ytakolehlaejhfaa
open Go.RowKit
set_option maxRecDepth 100000
set_option linter.unusedVariables false
set_option linter.unusedSimpArgs false

/-- The table: la + 1 rows of lb + 1 numbers. -/
def RowsAt (w : World) (lo hi : Nat) (A : Option Addr) (a b : List Ln) : Prop :=
  ∃ g, A = some ⟨g, 0, none⟩ ∧ lo ≤ g ∧ g < hi ∧ ∀ i, i ≤ a.length → ∃ h o c, w.cell? ⟨g, i, none⟩ = some (.slice (some ⟨h, o, none⟩) (b.length + 1) c) ∧ b.length + 1 ≤ c ∧ lo ≤ h ∧ h < hi ∧
    ∀ k, k ≤ b.length → w.cell? ⟨h, o + k, none⟩ = some (.int .i64 (lcs (a.drop i) (b.drop k) : Nat))
theorem RowsAt.of {w w' : World} {lo hi : Nat} {A : Option Addr} {a b : List Ln} (h : RowsAt w lo hi A a b) (hb : ∀ k, lo ≤ k → k < hi → w'.heap[k]? = w.heap[k]?) : RowsAt w' lo hi A a b := by
  obtain ⟨g, e, h1, h2, h3⟩ := h
  refine ⟨g, e, h1, h2, fun i hi' => ?_⟩
  obtain ⟨h, o, c, c1, c2, c3, c4, c5⟩ := h3 i hi'
  exact ⟨h, o, c, (World.cell?_of_block (w := w) (hb g h1 h2)).trans c1, c2, c3, c4, fun k hk => (World.cell?_of_block (w := w) (hb h c3 c4)).trans (c5 k hk)⟩
theorem RowsAt.wide {w : World} {lo hi lo' hi' : Nat} {A : Option Addr} {a b : List Ln} (h : RowsAt w lo hi A a b) (hl : lo' ≤ lo) (hh : hi ≤ hi') : RowsAt w lo' hi' A a b := by
  obtain ⟨g, e, h1, h2, h3⟩ := h
  refine ⟨g, e, by omega, by omega, fun i hi' => ?_⟩
  obtain ⟨h, o, c, c1, c2, c3, c4, c5⟩ := h3 i hi'
  exact ⟨h, o, c, c1, c2, by omega, by omega, c5⟩

theorem idx_inj {n i k i' k' : Nat} (hk : k < n) (hk' : k' < n) (h : i * n + k = i' * n + k') : i = i' ∧ k = k' := by
  have e1 : (i * n + k) / n = i := by rw [Nat.mul_comm, Nat.mul_add_div (by omega), Nat.div_eq_of_lt hk, Nat.add_zero]
  have e2 : (i' * n + k') / n = i' := by rw [Nat.mul_comm, Nat.mul_add_div (by omega), Nat.div_eq_of_lt hk', Nat.add_zero]
  have e3 : i = i' := by rw [← e1, h, e2]
  subst e3
  exact ⟨rfl, by omega⟩
/-- What the table holds while it is filled: done is all behind (i0, k0). -/
def tabV (a b : List Ln) (i0 k0 i k : Nat) : Nat := if i0 < i ∨ (i = i0 ∧ k0 ≤ k) then lcs (a.drop i) (b.drop k) else 0
theorem lcs_at {a b : List Ln} {i k : Nat} {x y : Ln} (hx : a[i]? = some x) (hy : b[k]? = some y) :
    lcs (a.drop i) (b.drop k) = if x = y then max (max (lcs (a.drop (i + 1)) (b.drop k)) (lcs (a.drop i) (b.drop (k + 1)))) (lcs (a.drop (i + 1)) (b.drop (k + 1)) + 1) else max (lcs (a.drop (i + 1)) (b.drop k)) (lcs (a.drop i) (b.drop (k + 1))) := by
  obtain ⟨h1, e1⟩ := List.getElem?_eq_some_iff.1 hx
  obtain ⟨h2, e2⟩ := List.getElem?_eq_some_iff.1 hy
  have f1 := List.drop_eq_getElem_cons h1
  have f2 := List.drop_eq_getElem_cons h2
  rw [e1] at f1
  rw [e2] at f2
  rw [f1, f2, lcs_cons]

/-- The table's two blocks; f: what its numbers are. -/
structure TabSt (w : World) (la n g h : Nat) (f : Nat → Nat → Nat) (W : World) : Prop where
  rows : ∀ i, i ≤ la → W.cell? ⟨g, i, none⟩ = some (.slice (some ⟨h, i * n, none⟩) n n)
  cells : ∀ i, i ≤ la → ∀ k, k < n → W.cell? ⟨h, i * n + k, none⟩ = some (.int .i64 (f i k : Nat))
  frz : ∀ q, W.frozen? ⟨h, q, none⟩ = false
  ne : g ≠ h
  g0 : w.heap.size ≤ g
  h0 : w.heap.size ≤ h
  g1 : g < W.heap.size
  h1 : h < W.heap.size
  below : Below w.heap.size w W
theorem TabSt.drewN {w W : World} {la n g h : Nat} {f : Nat → Nat → Nat} (t : TabSt w la n g h f W) (m : Nat) : TabSt w la n g h f (W.drewN m) := ⟨t.rows, t.cells, t.frz, t.ne, t.g0, t.h0, t.g1, t.h1, below_drewN t.below m⟩
theorem TabSt.drew {w W : World} {la n g h : Nat} {f : Nat → Nat → Nat} (t : TabSt w la n g h f W) : TabSt w la n g h f W.drew := ⟨t.rows, t.cells, t.frz, t.ne, t.g0, t.h0, t.g1, t.h1, t.below.drew⟩
theorem TabSt.set {w W : World} {la n g h : Nat} {f f' : Nat → Nat → Nat} (t : TabSt w la n g h f W) {i k : Nat} (hi : i ≤ la) (hk : k < n) (v : Nat)
    (hf : ∀ i', i' ≤ la → ∀ k', k' < n → f' i' k' = if i' = i ∧ k' = k then v else f i' k') : TabSt w la n g h f' (W.setCell ⟨h, i * n + k, none⟩ (.int .i64 (v : Nat))) := by
  refine ⟨fun i' hi' => ?_, fun i' hi' k' hk' => ?_, fun q => ?_, t.ne, t.g0, t.h0, by simpa using t.g1, by simpa using t.h1, t.below.setCell (p := ⟨h, i * n + k, none⟩) t.h0 _⟩
  · rw [World.cell?_setCell_other _ _ _ _ (by intro e; have := congrArg Addr.block e; exact t.ne this.symm)]
    exact t.rows i' hi'
  · by_cases hq : i' = i ∧ k' = k
    · obtain ⟨rfl, rfl⟩ := hq
      rw [hf i' hi' k' hk', if_pos ⟨rfl, rfl⟩]
      exact World.cell?_setCell_same _ _ _ (t.cells i' hi' k' hk')
    · rw [hf i' hi' k' hk', if_neg hq, World.cell?_setCell_other _ _ _ _ (by
        intro e
        have := congrArg Addr.off e
        obtain ⟨e1, e2⟩ := idx_inj hk hk' this
        exact hq ⟨e1.symm, e2.symm⟩)]
      exact t.cells i' hi' k' hk'
  · simpa using t.frz q
theorem TabSt.rowsAt {w W : World} {a b : List Ln} {g h : Nat} (t : TabSt w a.length (b.length + 1) g h (fun i k => lcs (a.drop i) (b.drop k)) W) : RowsAt W w.heap.size W.heap.size (some ⟨g, 0, none⟩) a b :=
  ⟨g, rfl, t.g0, t.g1, fun i hi => ⟨h, i * (b.length + 1), b.length + 1, t.rows i hi, Nat.le_refl _, t.h0, t.h1, fun k hk => t.cells i hi k (by omega)⟩⟩

theorem intE : ElemOf Try.prog 46 3 1 8 := .mk' (.int .i64 0) Try.underlying46 (by kernel_rfl) rfl (by decide)
theorem rowE : ElemOf Try.prog 77 46 1 24 := .mk' (.slice none 0 0) Try.underlying77 (by kernel_rfl) rfl (by decide)
theorem intZ : (Try.prog.info? 3).map (fun i => (i.zero, i.size, i.bytes)) = some (some (.int .i64 0), 1, 8) := by kernel_rfl
theorem rowZ : (Try.prog.info? 46).map (fun i => (i.zero, i.size, i.bytes)) = some (some (.slice none 0 0), 1, 24) := by kernel_rfl

theorem made_at (z : Value) (n j : Nat) (hz : z.cells = #[z]) (hj : j < n) : (madeCells z.cells (n * 1)).toList[j]? = some z := by
  rw [hz]
  simp [madeCells, hj, Nat.mod_one]

/-- While the rows are cut. -/
structure FillSt (w : World) (la n M g h i : Nat) (W : World) : Prop where
  done : ∀ r, r < i → W.cell? ⟨g, r, none⟩ = some (.slice (some ⟨h, r * n, none⟩) n n)
  todo : ∀ r, i ≤ r → r ≤ la → W.cell? ⟨g, r, none⟩ = some (.slice none 0 0)
  gfrz : ∀ q, W.frozen? ⟨g, q, none⟩ = false
  cells : ∀ q, q < M → W.cell? ⟨h, q, none⟩ = some (.int .i64 0)
  frz : ∀ q, W.frozen? ⟨h, q, none⟩ = false
  ne : g ≠ h
  g0 : w.heap.size ≤ g
  h0 : w.heap.size ≤ h
  g1 : g < W.heap.size
  h1 : h < W.heap.size
  below : Below w.heap.size w W
theorem FillSt.set {w W : World} {la n M g h i : Nat} (t : FillSt w la n M g h i W) (hi : i ≤ la) : FillSt w la n M g h (i + 1) (W.setCell ⟨g, i, none⟩ (.slice (some ⟨h, i * n, none⟩) n n)) := by
  refine ⟨fun r hr => ?_, fun r hr hr2 => ?_, fun q => ?_, fun q hq => ?_, fun q => ?_, t.ne, t.g0, t.h0, by simpa using t.g1, by simpa using t.h1, t.below.setCell (p := ⟨g, i, none⟩) t.g0 _⟩
  · by_cases e : r = i
    · subst e; exact World.cell?_setCell_same _ _ _ (t.todo r (Nat.le_refl _) hi)
    · rw [World.cell?_setCell_other _ _ _ _ (by intro h; have := congrArg Addr.off h; exact e this.symm)]
      exact t.done r (by omega)
  · rw [World.cell?_setCell_other _ _ _ _ (by intro h; have := congrArg Addr.off h; simp at this; omega)]
    exact t.todo r (by omega) hr2
  · simpa using t.gfrz q
  · rw [World.cell?_setCell_other _ _ _ _ (by intro h; have := congrArg Addr.block h; exact t.ne this)]
    exact t.cells q hq
  · simpa using t.frz q
theorem FillSt.tab {w W : World} {la n M g h : Nat} (t : FillSt w la n M g h (la + 1) W) (hM : M = (la + 1) * n) (f : Nat → Nat → Nat) (hf : ∀ i, i ≤ la → ∀ k, k < n → f i k = 0) : TabSt w la n g h f W := by
  refine ⟨fun i hi => t.done i (by omega), fun i hi k hk => ?_, t.frz, t.ne, t.g0, t.h0, t.g1, t.h1, t.below⟩
  rw [hf i hi k hk, t.cells (i * n + k) ?_]
  · rfl
  · rw [hM, Nat.succ_mul]
    have := Nat.mul_le_mul_right n hi
    omega
def TabOut (w : World) (a b : List Ln) (e : Ending) (w' : World) : Prop := ∃ A, e = .returned (.slice A (a.length + 1) (a.length + 1)) ∧ RowsAt w' w.heap.size w'.heap.size A a b ∧ Below w.heap.size w w'

set_option maxHeartbeats 8000000 in
theorem table_any (a b : List Ln) (A1 A2 : Option Addr) (c1 c2 : Nat) (w : World) (ha : a.length ≤ 1024) (hb : b.length ≤ 1024) (hA : TxtAt w 0 w.heap.size A1 a) (hB : TxtAt w 0 w.heap.size A2 b) :
    Calls Try.prog 39 #[.slice A1 a.length c1, .slice A2 b.length c2] w (TabOut w a b) := by
  have HA := Lib.hid hA
  have HB := Lib.hid hB
  clear hA hB
  obtain ⟨n, hn⟩ : ∃ n, n = b.length + 1 := ⟨_, rfl⟩
  obtain ⟨i1, h11, h12, h13, h14⟩ := info_parts intZ
  obtain ⟨i2, h21, h22, h23, h24⟩ := info_parts rowZ
  have HE1 := Lib.hid (And.intro h11 (And.intro h12 (And.intro h13 h14)))
  have HE2 := Lib.hid (And.intro h21 (And.intro h22 (And.intro h23 h24)))
  clear h11 h12 h13 h14 h21 h22 h23 h24
  obtain ⟨M, hM⟩ : ∃ M, M = (a.length + 1) * (b.length + 1) := ⟨_, rfl⟩
  have hMb : M ≤ 1025 * 1025 := by rw [hM]; exact Nat.mul_le_mul (by omega) (by omega)
  have hMi : ((a.length : Int) + 1) * ((b.length : Int) + 1) = (M : Int) := by rw [hM]; simp
  have HM := Lib.hid hM
  clear hM
  obtain ⟨N, hN⟩ : ∃ N, N = w.heap.size := ⟨_, rfl⟩
  go_enter Try.func39, Try.ntmps39
  go_wp2_with (first
    | ((with_reducible refine wpList_make_full _ rfl (.tmp 18) (.tmp 18) 46 rfl w.heap.size 3 i1 (.int .i64 0) 1 Try.underlying46 HE1.out.1 HE1.out.2.1 HE1.out.2.2.1 .i64 .i64 _ _ M rfl rfl rfl rfl (by rw [HE1.out.2.2.2]; omega) (by unfold maxLen; omega) (Nat.le_refl _) ?_); intro wa howna hga; have HO1 := Lib.hid howna; have HG1 := Lib.hid hga; clear howna hga)
    | ((with_reducible refine wpList_make_full _ rfl (.tmp 22) (.tmp 22) 77 rfl wa.heap.size 46 i2 (.slice none 0 0) 1 Try.underlying77 HE2.out.1 HE2.out.2.1 HE2.out.2.2.1 .i64 .i64 _ _ (a.length + 1) rfl rfl (by simp) (by simp) (by rw [HE2.out.2.2.2]; omega) (by unfold maxLen; omega) (Nat.le_refl _) ?_); intro wb hownb hgb; have HO2 := Lib.hid hownb; have HG2 := Lib.hid hgb; clear hownb hgb))
  have hza : w.heap.size < wa.heap.size := (HO1.out.lt _ rfl).2
  have hzb : wa.heap.size < wb.heap.size := (HO2.out.lt _ rfl).2
  have hst : FillSt w a.length (b.length + 1) M wa.heap.size w.heap.size 0 wb := by
    have hbb : Below w.heap.size w wb := (((Below.refl w.heap.size w).grown HG1.out (Nat.le_refl _) (by intro k hk; cases hk)).grown HG2.out (by omega) (by intro k hk; cases hk))
    have hkeep : wb.heap[w.heap.size]? = wa.heap[w.heap.size]? := HG2.out.block _ hza (by simp)
    refine ⟨fun r hr => by omega, fun r _ hr => ?_, fun q => ?_, fun q hq => ?_, fun q => ?_, by omega, by omega, Nat.le_refl _, hzb, by omega, hbb⟩
    · have := HO2.out.cellAt r (by omega)
      rw [this, made_at _ _ _ rfl (by omega)]
    · exact HO2.out.frozenAt q
    · rw [World.cell?_of_block (w := wa) hkeep, HO1.out.cellAt q (by omega), made_at _ _ _ rfl hq]
    · rw [World.frozen?_of_block (w := wa) hkeep]
      exact HO1.out.frozenAt q
  have HST := Lib.hid hst
  clear hst hMi
  obtain ⟨g, hg⟩ : ∃ g, g = wa.heap.size := ⟨_, rfl⟩
  rw [← hg] at HST ⊢
  have HG := Lib.hid hg
  clear hg
  go_loopw [8, 26] (fun _ i wr => ∃ j : Nat, j ≤ a.length + 1 ∧ i = .int .i64 (j : Int) ∧ FillSt w a.length (b.length + 1) M g w.heap.size j wr) (fun _ i _ => a.length + 1 - (intOf i).toNat)
  case atStart => exact ⟨0, Nat.zero_le _, rfl, HST.out⟩
  case round =>
    obtain ⟨j, hj, rfl, hst⟩ := hrel
    by_cases hlt : j ≤ a.length
    · obtain ⟨p, hp⟩ : ∃ p, p = j * (b.length + 1) := ⟨_, rfl⟩
      have hpM : p + (b.length + 1) ≤ M := by rw [HM.out, hp, ← Nat.succ_mul]; exact Nat.mul_le_mul_right _ (by omega)
      have hpi : (j : Int) * ((b.length : Int) + 1) = (p : Int) := by rw [hp]; simp
      have hpi2 : ((j : Int) + 1) * ((b.length : Int) + 1) = (p : Int) + ((b.length : Int) + 1) := by rw [hp, Int.add_mul]; simp
      have c0 := hst.todo j (Nat.le_refl _) hlt
      have f0 := hst.gfrz j
      have HS := Lib.hid hst
      have HP := Lib.hid hp
      have hji : (j : Int) < (a.length : Int) + 1 := by omega
      clear hst hp
      go_wp2_with fail
      go_roundw
      case rel => exact ⟨j + 1, by omega, by go_num, by have := HS.out.set hlt; rwa [← HP.out] at this⟩
      case measure => simp [intOf]; omega
    · have hjl : j = a.length + 1 := by omega
      rw [hjl] at hst
      have hji : (a.length : Int) + 1 ≤ (j : Int) := by omega
      have ht : TabSt w a.length (b.length + 1) g w.heap.size (tabV a b a.length 0) wr := hst.tab HM.out _ (fun i hi k hk => by
        unfold tabV
        split
        · have : i = a.length := by omega
          subst this
          simp [lcs_nil]
        · rfl)
      have HT := Lib.hid ht
      clear ht hst hjl hlt
      obtain ⟨ws, rfl⟩ : ∃ ws : World, ws = wr := ⟨_, rfl⟩
      go_wp2_with fail
      go_loopw [9, 10] (fun i _ wr => ∃ m : Nat, m ≤ a.length ∧ i = .int .i64 ((m : Int) - 1) ∧ TabSt w a.length (b.length + 1) g w.heap.size (tabV a b m 0) wr) (fun i _ _ => (intOf i + 1).toNat)
      case atStart => exact ⟨a.length, Nat.le_refl _, rfl, HT.out⟩
      case round =>
        obtain ⟨m, hm, rfl, ht⟩ := hrel
        have HT := Lib.hid ht
        clear ht
        cases m with
        | zero =>
          go_wp2_with fail
          go_ret
          have t := HT.out
          refine ⟨some ⟨g, 0, none⟩, rfl, ?_, t.below⟩
          have t2 : TabSt w a.length (b.length + 1) g w.heap.size (fun i k => lcs (a.drop i) (b.drop k)) wr := ⟨t.rows, fun i hi k hk => by rw [t.cells i hi k hk]; congr 3; unfold tabV; rw [if_pos (by omega)], t.frz, t.ne, t.g0, t.h0, t.g1, t.h1, t.below⟩
          exact t2.rowsAt
        | succ i =>
          rw [show (((i + 1 : Nat) : Int) - 1) = (i : Int) by omega]
          have hi0 : (0 : Int) ≤ (i : Int) := by omega
          go_wp2_with fail
          obtain ⟨wo, rfl⟩ : ∃ wo : World, wo = wr := ⟨_, rfl⟩
          go_loopw [10] (fun k wr => ∃ q : Nat, q ≤ b.length ∧ k = .int .i64 ((q : Int) - 1) ∧ TabSt w a.length (b.length + 1) g w.heap.size (tabV a b i q) wr) (fun k _ => (intOf k + 1).toNat)
          case atStart =>
            refine ⟨b.length, Nat.le_refl _, rfl, ?_⟩
            have := HT.out
            refine ⟨this.rows, fun i' hi' k' hk' => ?_, this.frz, this.ne, this.g0, this.h0, this.g1, this.h1, this.below⟩
            rw [this.cells i' hi' k' hk']
            congr 3
            unfold tabV
            by_cases e : i' = i
            · subst e
              rw [if_neg (by omega)]
              split
              · have : k' = b.length := by omega
                subst this
                simp [lcs_nil']
              · rfl
            · by_cases e2 : i + 1 ≤ i'
              · rw [if_pos (by omega), if_pos (by omega)]
              · rw [if_neg (by omega), if_neg (by omega)]
          case round =>
            obtain ⟨q, hq, rfl, ht⟩ := hrel
            have HT := Lib.hid ht
            clear ht
            cases q with
            | zero =>
              go_wp2_with fail
              have hwi : wrap64 ((i : Int) - 1) = (i : Int) - 1 := IntWalk.wrap64_in _ ⟨by omega, by omega⟩
              try rw [hwi]
              go_roundw
              case rel => exact ⟨i, by omega, rfl, HT.out⟩
              case measure => simp [intOf]
            | succ k =>
              rw [show (((k + 1 : Nat) : Int) - 1) = (k : Int) by omega]
              have hk0 : (0 : Int) ≤ (k : Int) := by omega
              have hil : i < a.length := by omega
              have hkl : k < b.length := by omega
              have ht := HT.out
              obtain ⟨ba, oa, eA, _, hba, hca⟩ := HA.out.at_ hil
              obtain ⟨bb, ob, eB, _, hbb, hcb⟩ := HB.out.at_ hkl
              subst eA eB
              have hx := List.getElem?_eq_getElem hil
              have hy := List.getElem?_eq_getElem hkl
              generalize a[i]'hil = x at *
              generalize b[k]'hkl = y at *
              have ca := (ht.below.cell (p := ⟨ba, oa + i, none⟩) hba).trans hca
              have cb := (ht.below.cell (p := ⟨bb, ob + k, none⟩) hbb).trans hcb
              have HL := Lib.hid (lcs_at hx hy)
              have r1 := ht.rows i (by omega)
              have r2 := ht.rows (i + 1) (by omega)
              have c0 := ht.cells i (by omega) k (by omega)
              have c1 := ht.cells (i + 1) (by omega) k (by omega)
              have c2 := ht.cells i (by omega) (k + 1) (by omega)
              have c3 := ht.cells (i + 1) (by omega) (k + 1) (by omega)
              have f0 := ht.frz (i * (b.length + 1) + k)
              obtain ⟨l1, hl1⟩ : ∃ l, l = lcs (a.drop (i + 1)) (b.drop k) := ⟨_, rfl⟩
              obtain ⟨l2, hl2⟩ : ∃ l, l = lcs (a.drop i) (b.drop (k + 1)) := ⟨_, rfl⟩
              obtain ⟨l3, hl3⟩ : ∃ l, l = lcs (a.drop (i + 1)) (b.drop (k + 1)) := ⟨_, rfl⟩
              rw [show tabV a b i (k + 1) (i + 1) k = l1 by rw [hl1]; unfold tabV; rw [if_pos (by omega)]] at c1
              rw [show tabV a b i (k + 1) i (k + 1) = l2 by rw [hl2]; unfold tabV; rw [if_pos (by omega)]] at c2
              rw [show tabV a b i (k + 1) (i + 1) (k + 1) = l3 by rw [hl3]; unfold tabV; rw [if_pos (by omega)]] at c3
              have hb1 : l1 ≤ 1024 := by rw [hl1]; exact Nat.le_trans (lcs_le _ _) (by rw [List.length_drop]; omega)
              have hb2 : l2 ≤ 1024 := by rw [hl2]; exact Nat.le_trans (lcs_le _ _) (by rw [List.length_drop]; omega)
              have hb3 : l3 ≤ 1024 := by rw [hl3]; exact Nat.le_trans (lcs_le _ _) (by rw [List.length_drop]; omega)
              rw [← hl1, ← hl2, ← hl3] at HL
              have HL3 := Lib.hid hl3
              have HCA := Lib.hid hca
              have HCB := Lib.hid hcb
              clear hl1 hl2 hl3 hca hcb hx hy
              obtain ⟨p, hp⟩ : ∃ p, p = i * (b.length + 1) := ⟨_, rfl⟩
              obtain ⟨p2, hp2⟩ : ∃ p, p = (i + 1) * (b.length + 1) := ⟨_, rfl⟩
              rw [← hp] at r1 c0 c2 f0
              rw [← hp2] at r2 c1 c3
              have HP := Lib.hid hp
              have HP2 := Lib.hid hp2
              clear hp hp2 ht
              have hpM : p + (b.length + 1) ≤ 2000000 := by
                rw [HP.out]
                have := Nat.mul_le_mul (show i ≤ 1024 by omega) (show b.length + 1 ≤ 1025 by omega)
                omega
              have hpM2 : p2 + (b.length + 1) ≤ 2000000 := by
                rw [HP2.out]
                have := Nat.mul_le_mul (show i + 1 ≤ 1025 by omega) (show b.length + 1 ≤ 1025 by omega)
                omega
              clear ca cb
              go_wp2_with fail
              have s1 : IntKind.i64.wrap ((i : Int) + 1) = (i : Int) + 1 := IntWalk.i64_in _ (by omega)
              have s2 : IntKind.i64.wrap ((k : Int) + 1) = (k : Int) + 1 := IntWalk.i64_in _ (by omega)
              have s3 : ((i : Int) + 1).toNat = i + 1 := by omega
              have s4 : ((k : Int) + 1).toNat = k + 1 := by omega
              have s5 : (0 : Int) ≤ (i : Int) + 1 := by omega
              have s6 : (0 : Int) ≤ (k : Int) + 1 := by omega
              have s7 : (i : Int) + 1 < (a.length : Int) + 1 := by omega
              have s8 : (k : Int) + 1 < (b.length : Int) + 1 := by omega
              have s9 : (i : Int) < (a.length : Int) + 1 := by omega
              have s10 : (k : Int) < (b.length : Int) + 1 := by omega
              have s11 : (i : Int) < (a.length : Int) := by omega
              have s12 : (k : Int) < (b.length : Int) := by omega
              have S1 := Lib.hid s1
              have S2 := Lib.hid s2
              have S3 := Lib.hid s3
              have S4 := Lib.hid s4
              obtain ⟨mx, hmx⟩ : ∃ z, z = max l1 l2 := ⟨_, rfl⟩
              have hmr : (if l1 < l2 then (l2 : Int) else (l1 : Int)) = (mx : Int) := by rw [hmx]; split <;> omega
              have hmxb : mx ≤ 1024 := by omega
              have HMX := Lib.hid hmx
              clear hmx
              go_still_tail 23, (by kernel_rfl)
              change wpList _ _ _ _ _ wr.drew
              clear s1 s2 s3 s4
              go_wp2_with fail
              have hs1 := (HT.out.set (f' := fun i' k' => if i' = i ∧ k' = k then mx else tabV a b i (k + 1) i' k') (i := i) (k := k) (by omega) (by omega) mx (fun _ _ _ _ => rfl)).drew
              rw [← HP.out] at hs1
              obtain ⟨W1, hW1⟩ : ∃ W1, (wr.setCell { block := w.heap.size, off := p + k } (Value.int IntKind.i64 (mx : Nat))).drew = W1 := ⟨_, rfl⟩
              rw [hW1] at hs1 ⊢
              have d0 := hs1.cells i (by omega) k (by omega)
              have d3 := hs1.cells (i + 1) (by omega) (k + 1) (by omega)
              have d1 := hs1.rows i (by omega)
              have d2 := hs1.rows (i + 1) (by omega)
              have g0 := hs1.frz (p + k)
              simp only [if_true, and_self] at d0
              rw [if_neg (by omega), show tabV a b i (k + 1) (i + 1) (k + 1) = lcs (a.drop (i + 1)) (b.drop (k + 1)) by unfold tabV; rw [if_pos (by omega)]] at d3
              rw [← HP.out] at d0 d1
              rw [← HP2.out] at d2 d3
              rw [← HL3.out] at d3
              have HS1 := Lib.hid hs1
              have HW1 := Lib.hid hW1
              have ca := (hs1.below.cell (p := ⟨ba, oa + i, none⟩) hba).trans (show w.cell? _ = _ from HCA.out)
              have cb := (hs1.below.cell (p := ⟨bb, ob + k, none⟩) hbb).trans (show w.cell? _ = _ from HCB.out)
              clear c0 c1 c2 c3 r1 r2 f0 hs1 hW1 hmr
              have hwk : wrap64 ((k : Int) - 1) = (k : Int) - 1 := IntWalk.wrap64_in _ ⟨by omega, by omega⟩
              have HWK := Lib.hid hwk
              have HV : Hid (∀ v W2, (TabSt w a.length (b.length + 1) g w.heap.size (fun i' k' => if i' = i ∧ k' = k then v else tabV a b i (k + 1) i' k') W2) → lcs (a.drop i) (b.drop k) = v → TabSt w a.length (b.length + 1) g w.heap.size (tabV a b i k) W2) := Lib.hid (fun v W2 t ev => ⟨t.rows, fun i' hi' k' hk' => by
                  rw [t.cells i' hi' k' hk']
                  congr 3
                  unfold tabV
                  split
                  · next e => rw [if_pos (by omega), e.1, e.2, ev]
                  · next e =>
                    by_cases e2 : i < i' ∨ i' = i ∧ k ≤ k'
                    · rw [if_pos e2, if_pos (by omega)]
                    · rw [if_neg e2, if_neg (by omega)], t.frz, t.ne, t.g0, t.h0, t.g1, t.h1, t.below⟩)
              clear hwk
              by_cases hxy : x = y
              · subst hxy
                go_quiet (fail)
                go_wp2_with fail
                have hs3 := HS1.out.drewN nq
                change (W1.drewN nq).cell? _ = _ at d0
                change (W1.drewN nq).cell? _ = _ at d1
                change (W1.drewN nq).cell? _ = _ at d2
                change (W1.drewN nq).cell? _ = _ at d3
                change (W1.drewN nq).frozen? _ = _ at g0
                have HS3 := Lib.hid hs3
                clear hs3 ca cb HS1 HW1
                generalize W1.drewN nq = W2 at *
                have s1 := S1.out
                have s2 := S2.out
                have s3 := S3.out
                have s4 := S4.out
                have s13 : IntKind.i64.wrap ((l3 : Int) + 1) = (l3 : Int) + 1 := IntWalk.i64_in _ (by omega)
                obtain ⟨my, hmy⟩ : ∃ z, z = max mx (l3 + 1) := ⟨_, rfl⟩
                have hmr : (if (mx : Int) < (l3 : Int) + 1 then (l3 : Int) + 1 else (mx : Int)) = (my : Int) := by rw [hmy]; split <;> omega
                have hmyb : my ≤ 1025 := by omega
                have HMY := Lib.hid hmy
                clear hmy
                go_still_tail 24, (by kernel_rfl)
                change wpList _ _ _ _ _ W2.drew
                clear s1 s2 s3 s4 s13
                go_wp2_with fail
                have hs2 := (((HS3.out.set (f' := fun i' k' => if i' = i ∧ k' = k then my else tabV a b i (k + 1) i' k') (i := i) (k := k) (by omega) (by omega) my (fun i' _ k' _ => by by_cases e : i' = i ∧ k' = k <;> simp [e])).drew))
                rw [← HP.out] at hs2
                have HS2 := Lib.hid hs2
                clear hs2
                try rw [HWK.out]
                go_roundw
                case rel => exact ⟨k, by omega, rfl, HV.out my _ HS2.out (by rw [HL.out]; first | rw [if_pos rfl, HMY.out, HMX.out] | rw [if_pos trivial, HMY.out, HMX.out])⟩
                case measure => simp [intOf]
              · have hne := str_ne hxy
                have HXY := Lib.hid hxy
                clear hxy
                go_quiet (fail)
                go_wp2_with fail
                try rw [HWK.out]
                go_roundw
                case rel => exact ⟨k, by omega, rfl, HV.out mx _ (HS1.out.drewN nq) (by rw [HL.out, if_neg HXY.out, HMX.out])⟩
                case measure => simp [intOf]
end Go.Proofs.Ytakolehlaejhfaa
