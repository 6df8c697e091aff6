/- platenref24.Table: how many lines may be kept, each row in a block of its own. -/
import Derived.Test.YtakolehlaejhfaaEdTable
import Derived.Test.YtakolehlaejhfaaEdEnd
namespace Go.Proofs.Ytakolehlaejhfaa
open Go.RowKit
set_option maxRecDepth 100000
set_option linter.unusedVariables false
set_option linter.unusedSimpArgs false

/-- The table's blocks; f: what its numbers are; the rows from i0 on are there, row i in the block hs i. -/
structure TabR (w : World) (la n g i0 : Nat) (hs : Nat → Nat) (f : Nat → Nat → Nat) (W : World) : Prop where
  rows : ∀ i, i0 ≤ i → i ≤ la → W.cell? ⟨g, i, none⟩ = some (.slice (some ⟨hs i, 0, none⟩) n n)
  todo : ∀ i, i < i0 → i ≤ la → W.cell? ⟨g, i, none⟩ = some (.slice none 0 0)
  cells : ∀ i, i0 ≤ i → i ≤ la → ∀ k, k < n → W.cell? ⟨hs i, k, none⟩ = some (.int .i64 (f i k : Nat))
  gfrz : ∀ q, W.frozen? ⟨g, q, none⟩ = false
  frz : ∀ i, i0 ≤ i → i ≤ la → ∀ q, W.frozen? ⟨hs i, q, none⟩ = false
  ne : ∀ i, i0 ≤ i → i ≤ la → hs i ≠ g
  inj : ∀ i j, i0 ≤ i → i ≤ la → i0 ≤ j → j ≤ la → hs i = hs j → i = j
  g0 : w.heap.size ≤ g
  h0 : ∀ i, i0 ≤ i → i ≤ la → w.heap.size ≤ hs i
  g1 : g < W.heap.size
  h1 : ∀ i, i0 ≤ i → i ≤ la → hs i < W.heap.size
  below : Below w.heap.size w W
theorem TabR.drewN {w W : World} {la n g i0 : Nat} {hs : Nat → Nat} {f : Nat → Nat → Nat} (t : TabR w la n g i0 hs f W) (m : Nat) : TabR w la n g i0 hs f (W.drewN m) := ⟨t.rows, t.todo, t.cells, t.gfrz, t.frz, t.ne, t.inj, t.g0, t.h0, t.g1, t.h1, below_drewN t.below m⟩
theorem TabR.drew {w W : World} {la n g i0 : Nat} {hs : Nat → Nat} {f : Nat → Nat → Nat} (t : TabR w la n g i0 hs f W) : TabR w la n g i0 hs f W.drew := ⟨t.rows, t.todo, t.cells, t.gfrz, t.frz, t.ne, t.inj, t.g0, t.h0, t.g1, t.h1, t.below.drew⟩
theorem TabR.fun {w W : World} {la n g i0 : Nat} {hs : Nat → Nat} {f f' : Nat → Nat → Nat} (t : TabR w la n g i0 hs f W) (hf : ∀ i, i0 ≤ i → i ≤ la → ∀ k, k < n → f' i k = f i k) : TabR w la n g i0 hs f' W :=
  ⟨t.rows, t.todo, fun i h1 h2 k hk => by rw [hf i h1 h2 k hk]; exact t.cells i h1 h2 k hk, t.gfrz, t.frz, t.ne, t.inj, t.g0, t.h0, t.g1, t.h1, t.below⟩
theorem TabR.set {w W : World} {la n g i0 : Nat} {hs : Nat → Nat} {f f' : Nat → Nat → Nat} (t : TabR w la n g i0 hs f W) {i k : Nat} (hi0 : i0 ≤ i) (hi : i ≤ la) (hk : k < n) (v : Nat)
    (hf : ∀ i', i' ≤ la → ∀ k', k' < n → f' i' k' = if i' = i ∧ k' = k then v else f i' k') : TabR w la n g i0 hs f' (W.setCell ⟨hs i, k, none⟩ (.int .i64 (v : Nat))) := by
  refine ⟨fun i' h1 h2 => ?_, fun i' h1 h2 => ?_, fun i' h1 hi' k' hk' => ?_, fun q => ?_, fun i' h1 h2 q => ?_, t.ne, t.inj, t.g0, t.h0, by simpa using t.g1, fun i' h1 h2 => by simpa using t.h1 i' h1 h2, t.below.setCell (p := ⟨hs i, k, none⟩) (t.h0 i hi0 hi) _⟩
  · rw [World.cell?_setCell_other _ _ _ _ (by intro e; have := congrArg Addr.block e; exact t.ne i hi0 hi this)]
    exact t.rows i' h1 h2
  · rw [World.cell?_setCell_other _ _ _ _ (by intro e; have := congrArg Addr.block e; exact t.ne i hi0 hi this)]
    exact t.todo i' h1 h2
  · by_cases hq : i' = i ∧ k' = k
    · obtain ⟨rfl, rfl⟩ := hq
      rw [hf i' hi' k' hk', if_pos ⟨rfl, rfl⟩]
      exact World.cell?_setCell_same _ _ _ (t.cells i' h1 hi' k' hk')
    · rw [hf i' hi' k' hk', if_neg hq, World.cell?_setCell_other _ _ _ _ (by
        intro e
        have e1 := congrArg Addr.off e
        have e2 := congrArg Addr.block e
        exact hq ⟨(t.inj i i' hi0 hi h1 hi' e2).symm, e1.symm⟩)]
      exact t.cells i' h1 hi' k' hk'
  · simpa using t.gfrz q
  · simpa using t.frz i' h1 h2 q
/-- A row more. -/
theorem TabR.row {w W W' : World} {la n g i0 h : Nat} {hs : Nat → Nat} {f : Nat → Nat → Nat} {v : Value} (t : TabR w la n g (i0 + 1) hs f W) (hi : i0 ≤ la)
    (hg : W.grownBy W' none) (hh : h = W.heap.size) (hh1 : h < W'.heap.size) (hc : ∀ k, k < n → W'.cell? ⟨h, k, none⟩ = some (.int .i64 0)) (hfz : ∀ k, W'.frozen? ⟨h, k, none⟩ = false) :
    TabR w la n g i0 (fun i => if i = i0 then h else hs i) (fun i k => if i = i0 then 0 else f i k) (W'.setCell ⟨g, i0, none⟩ (.slice (some ⟨h, 0, none⟩) n n)) := by
  have hold : ∀ b, b < W.heap.size → W'.heap[b]? = W.heap[b]? := fun b hb => hg.block b hb (by simp)
  have hgh : g ≠ h := by have := t.g1; omega
  have hb1 : Below w.heap.size w W' := t.below.grown hg t.below.size (by intro k hk; cases hk)
  refine ⟨fun i h1 h2 => ?_, fun i h1 h2 => ?_, fun i h1 h2 k hk => ?_, fun q => ?_, fun i h1 h2 q => ?_, fun i h1 h2 => ?_, fun i j h1 h2 h3 h4 e => ?_, t.g0, fun i h1 h2 => ?_, ?_, fun i h1 h2 => ?_, hb1.setCell (p := ⟨g, i0, none⟩) t.g0 _⟩
  · by_cases e : i = i0
    · subst e
      rw [if_pos rfl]
      exact World.cell?_setCell_same _ _ _ ((World.cell?_of_block (w := W) (hold g t.g1)).trans (t.todo i (by omega) h2))
    · rw [if_neg e, World.cell?_setCell_other _ _ _ _ (by intro h; have := congrArg Addr.off h; exact e this.symm)]
      exact (World.cell?_of_block (w := W) (hold g t.g1)).trans (t.rows i (by omega) h2)
  · rw [World.cell?_setCell_other _ _ _ _ (by intro h; have := congrArg Addr.off h; simp at this; omega)]
    exact (World.cell?_of_block (w := W) (hold g t.g1)).trans (t.todo i (by omega) h2)
  · by_cases e : i = i0
    · rw [if_pos e, if_pos e, World.cell?_setCell_other _ _ _ _ (by intro h; have := congrArg Addr.block h; exact hgh this)]
      exact hc k hk
    · rw [if_neg e, if_neg e, World.cell?_setCell_other _ _ _ _ (by intro h; have := congrArg Addr.block h; exact t.ne i (by omega) h2 this.symm)]
      exact (World.cell?_of_block (w := W) (hold _ (t.h1 i (by omega) h2))).trans (t.cells i (by omega) h2 k hk)
  · simp only [World.frozen?_setCell]
    exact (World.frozen?_of_block (w := W) (hold g t.g1)).trans (t.gfrz q)
  · simp only [World.frozen?_setCell]
    by_cases e : i = i0
    · rw [if_pos e]; exact hfz q
    · rw [if_neg e]
      exact (World.frozen?_of_block (w := W) (hold _ (t.h1 i (by omega) h2))).trans (t.frz i (by omega) h2 q)
  · by_cases e : i = i0
    · rw [if_pos e]; exact fun h => hgh h.symm
    · rw [if_neg e]; exact t.ne i (by omega) h2
  · by_cases e1 : i = i0
    · by_cases e2 : j = i0
      · omega
      · rw [if_pos e1, if_neg e2] at e
        have := t.h1 j (by omega) h4
        omega
    · by_cases e2 : j = i0
      · rw [if_neg e1, if_pos e2] at e
        have := t.h1 i (by omega) h2
        omega
      · rw [if_neg e1, if_neg e2] at e
        exact t.inj i j (by omega) h2 (by omega) h4 e
  · by_cases e : i = i0
    · rw [if_pos e]; have := t.below.size; omega
    · rw [if_neg e]; exact t.h0 i (by omega) h2
  · have := t.g1
    have := hg.size
    simp
    omega
  · by_cases e : i = i0
    · rw [if_pos e]; simpa using hh1
    · rw [if_neg e]
      have := t.h1 i (by omega) h2
      have := hg.size
      simp
      omega
theorem TabR.rowsAt {w W : World} {a b : List Ln} {g : Nat} {hs : Nat → Nat} (t : TabR w a.length (b.length + 1) g 0 hs (fun i k => lcs (a.drop i) (b.drop k)) W) : RowsAt W w.heap.size W.heap.size (some ⟨g, 0, none⟩) a b :=
  ⟨g, rfl, t.g0, t.g1, fun i hi => ⟨hs i, 0, b.length + 1, t.rows i (Nat.zero_le _) hi, Nat.le_refl _, t.h0 i (Nat.zero_le _) hi, t.h1 i (Nat.zero_le _) hi, fun k hk => by rw [Nat.zero_add]; exact t.cells i (Nat.zero_le _) hi k (by omega)⟩⟩

set_option maxHeartbeats 8000000 in
theorem refTable_any (a b : List Ln) (A1 A2 : Option Addr) (c1 c2 : Nat) (w : World) (ha : a.length ≤ 1024) (hb : b.length ≤ 1024) (hA : TxtAt w 0 w.heap.size A1 a) (hB : TxtAt w 0 w.heap.size A2 b) :
    Calls Try.prog 40 #[.slice A1 a.length c1, .slice A2 b.length c2] w (TabOut w a b) := by
  have HA := Lib.hid hA
  have HB := Lib.hid hB
  clear hA hB
  obtain ⟨i1, h11, h12, h13, h14⟩ := info_parts intZ
  obtain ⟨i2, h21, h22, h23, h24⟩ := info_parts rowZ
  have HE1 := Lib.hid (And.intro h11 (And.intro h12 (And.intro h13 h14)))
  have HE2 := Lib.hid (And.intro h21 (And.intro h22 (And.intro h23 h24)))
  clear h11 h12 h13 h14 h21 h22 h23 h24
  go_enter Try.func40, Try.ntmps40
  go_upto_region 2 with ((with_reducible refine wpList_make_full _ rfl (.tmp 10) (.tmp 10) 77 rfl w.heap.size 46 i2 (.slice none 0 0) 1 Try.underlying77 HE2.out.1 HE2.out.2.1 HE2.out.2.2.1 .i64 .i64 _ _ (a.length + 1) rfl rfl (by simp) (by simp) (by rw [HE2.out.2.2.2]; omega) (by unfold maxLen; omega) (Nat.le_refl _) ?_); intro wa howna hga; have HO1 := Lib.hid howna; have HG1 := Lib.hid hga; clear howna hga)
  obtain ⟨g, hg⟩ : ∃ g, g = w.heap.size := ⟨_, rfl⟩
  have hzg : g < wa.heap.size := by rw [hg]; exact (HO1.out.lt _ rfl).2
  have hst0 : TabR w a.length (b.length + 1) g (a.length + 1) (fun _ => 0) (fun _ _ => 0) wa := by
    have hbb : Below w.heap.size w wa := (Below.refl w.heap.size w).grown HG1.out (Nat.le_refl _) (by intro k hk; cases hk)
    refine ⟨fun i h1 h2 => by omega, fun i h1 h2 => ?_, fun i h1 h2 => by omega, fun q => ?_, fun i h1 h2 => by omega, fun i h1 h2 => by omega, fun i j h1 h2 => by omega, by omega, fun i h1 h2 => by omega, hzg, fun i h1 h2 => by omega, hbb⟩
    · have := HO1.out.cellAt i (by omega)
      rw [hg, this, made_at _ _ _ rfl (by omega)]
    · rw [hg]; exact HO1.out.frozenAt q
  have c0 := hst0.todo a.length (by omega) (Nat.le_refl _)
  have f0 := hst0.gfrz a.length
  have HST0 := Lib.hid hst0
  rw [← hg]
  have HG := Lib.hid hg
  clear hst0 hg HO1 HG1
  have k0 : ∀ W : World, wa.grownBy W none → W.cell? ⟨g, a.length, none⟩ = some (.slice none 0 0) := fun W h => (World.cell?_of_block (w := wa) (h.block g hzg (by simp))).trans c0
  have k1 : ∀ W : World, wa.grownBy W none → W.frozen? ⟨g, a.length, none⟩ = false := fun W h => (World.frozen?_of_block (w := wa) (h.block g hzg (by simp))).trans f0
  have K0 := Lib.hid k0
  have K1 := Lib.hid k1
  clear k0 k1 c0 f0
  go_wp2_with ((with_reducible refine wpList_make_full _ rfl (.tmp 17) (.tmp 17) 46 rfl w.heap.size 3 i1 (.int .i64 0) 1 Try.underlying46 HE1.out.1 HE1.out.2.1 HE1.out.2.2.1 .i64 .i64 _ _ (b.length + 1) rfl rfl (by simp) (by simp) (by rw [HE1.out.2.2.2]; omega) (by unfold maxLen; omega) (by have := HST0.out.below.size; omega) ?_); intro wb hownb hgb; have c0 := K0.out wb hgb; have f0 := K1.out wb hgb; have HO2 := Lib.hid hownb; have HG2 := Lib.hid hgb; clear hownb hgb)
  obtain ⟨h, hh⟩ : ∃ h, h = wa.heap.size := ⟨_, rfl⟩
  have hst := HST0.out.row (h := h) (v := .nilIface) (Nat.le_refl _) HG2.out hh (by rw [hh]; exact (HO2.out.lt _ rfl).2) (fun k hk => by rw [hh, HO2.out.cellAt k (by omega), made_at _ _ _ rfl hk]) (fun k => by rw [hh]; exact HO2.out.frozenAt k)
  rw [← hh]
  have HST := Lib.hid hst
  have HH := Lib.hid hh
  clear hst hh HO2 HG2 HST0 K0 K1 c0 f0
  generalize (wb.setCell { block := g, off := a.length } (Value.slice (some { block := h, off := 0 }) (b.length + 1) (b.length + 1))) = wc at *
  go_loopw [6, 7] (fun i _ wr => ∃ (m : Nat) (hs : Nat → Nat), m ≤ a.length ∧ i = .int .i64 ((m : Int) - 1) ∧ TabR w a.length (b.length + 1) g m hs (tabV a b m 0) wr) (fun i _ _ => (intOf i + 1).toNat)
  case atStart => exact ⟨a.length, _, Nat.le_refl _, rfl, HST.out.fun (fun i h1 h2 k hk => by
    have : i = a.length := by omega
    subst this
    rw [if_pos rfl]
    unfold tabV
    split
    · simp [lcs_nil]
    · rfl)⟩
  case round =>
    obtain ⟨m, hs, hm, rfl, ht⟩ := hrel
    have HT := Lib.hid ht
    clear ht HST
    cases m with
    | zero =>
      go_wp2_with fail
      go_ret
      have t := HT.out
      refine ⟨some ⟨g, 0, none⟩, rfl, ?_, t.below⟩
      exact TabR.rowsAt (t.fun (fun i _ hi k hk => by unfold tabV; rw [if_pos (by omega)]))
    | succ i =>
      rw [show (((i + 1 : Nat) : Int) - 1) = (i : Int) by omega]
      have hi0 : (0 : Int) ≤ (i : Int) := by omega
      obtain ⟨wo, rfl⟩ : ∃ wo : World, wo = wr := ⟨_, rfl⟩
      have c0 := HT.out.todo i (by omega) (by omega)
      have f0 := HT.out.gfrz i
      have k0 : ∀ W : World, wo.grownBy W none → W.cell? ⟨g, i, none⟩ = some (.slice none 0 0) := fun W h => (World.cell?_of_block (w := wo) (h.block g HT.out.g1 (by simp))).trans c0
      have k1 : ∀ W : World, wo.grownBy W none → W.frozen? ⟨g, i, none⟩ = false := fun W h => (World.frozen?_of_block (w := wo) (h.block g HT.out.g1 (by simp))).trans f0
      have K0 := Lib.hid k0
      have K1 := Lib.hid k1
      clear k0 k1 c0 f0
      have hia : (i : Int) < (a.length : Int) + 1 := by omega
      go_wp2_with ((with_reducible refine wpList_make_full _ rfl (.tmp 31) (.tmp 31) 46 rfl w.heap.size 3 i1 (.int .i64 0) 1 Try.underlying46 HE1.out.1 HE1.out.2.1 HE1.out.2.2.1 .i64 .i64 _ _ (b.length + 1) rfl rfl (by simp) (by simp) (by rw [HE1.out.2.2.2]; omega) (by unfold maxLen; omega) (by have := HT.out.below.size; omega) ?_); intro wb hownb hgb; have c0 := K0.out wb hgb; have f0 := K1.out wb hgb; have HO2 := Lib.hid hownb; have HG2 := Lib.hid hgb; clear hownb hgb)
      obtain ⟨h, hh⟩ : ∃ h, h = wo.heap.size := ⟨_, rfl⟩
      have hst := HT.out.row (h := h) (v := .nilIface) (by omega) HG2.out hh (by rw [hh]; exact (HO2.out.lt _ rfl).2) (fun k hk => by rw [hh, HO2.out.cellAt k (by omega), made_at _ _ _ rfl hk]) (fun k => by rw [hh]; exact HO2.out.frozenAt k)
      rw [← hh]
      obtain ⟨hs2, hhs⟩ : ∃ hs2, hs2 = (fun j => if j = i then h else hs j) := ⟨_, rfl⟩
      rw [← hhs] at hst
      have hst2 : TabR w a.length (b.length + 1) g i hs2 (tabV a b i b.length) _ := hst.fun (fun i' h1 h2 k' hk' => by
        unfold tabV
        by_cases e : i' = i
        · subst e
          rw [if_pos rfl]
          split
          · have : k' = b.length := by omega
            subst this
            simp [lcs_nil']
          · rfl
        · rw [if_neg e, if_pos (by omega), if_pos (by omega)])
      have HST := Lib.hid hst2
      clear hst hst2 hh HO2 HG2 K0 K1 c0 f0 HT hhs
      generalize (wb.setCell { block := g, off := i } (Value.slice (some { block := h, off := 0 }) (b.length + 1) (b.length + 1))) = wc at *
      go_loopw [7] (fun k wr => ∃ q : Nat, q ≤ b.length ∧ k = .int .i64 ((q : Int) - 1) ∧ TabR w a.length (b.length + 1) g i hs2 (tabV a b i q) wr) (fun k _ => (intOf k + 1).toNat)
      case atStart => exact ⟨b.length, Nat.le_refl _, rfl, HST.out⟩
      case round =>
        obtain ⟨q, hq, rfl, ht⟩ := hrel
        have HT := Lib.hid ht
        clear ht HST
        cases q with
        | zero =>
          go_wp2_with fail
          have hwi : wrap64 ((i : Int) - 1) = (i : Int) - 1 := IntWalk.wrap64_in _ ⟨by omega, by omega⟩
          try rw [hwi]
          go_roundw
          case rel => exact ⟨i, hs2, by omega, rfl, HT.out⟩
          case measure => simp [intOf]
        | succ k =>
          rw [show (((k + 1 : Nat) : Int) - 1) = (k : Int) by omega]
          have hk0 : (0 : Int) ≤ (k : Int) := by omega
          have hil : i < a.length := by omega
          have hkl : k < b.length := by omega
          have ht := HT.out
          obtain ⟨ba, oa, eA, _, hba, hca⟩ := HA.out.at_ hil
          obtain ⟨bb, ob, eB, _, hbb, hcb⟩ := HB.out.at_ hkl
          subst eA eB
          have hx := List.getElem?_eq_getElem hil
          have hy := List.getElem?_eq_getElem hkl
          generalize a[i]'hil = x at *
          generalize b[k]'hkl = y at *
          have ca := (ht.below.cell (p := ⟨ba, oa + i, none⟩) hba).trans hca
          have cb := (ht.below.cell (p := ⟨bb, ob + k, none⟩) hbb).trans hcb
          have HL := Lib.hid (lcs_at hx hy)
          have r1 := ht.rows i (Nat.le_refl _) (by omega)
          have r2 := ht.rows (i + 1) (by omega) (by omega)
          have c0 := ht.cells i (Nat.le_refl _) (by omega) k (by omega)
          have c1 := ht.cells (i + 1) (by omega) (by omega) k (by omega)
          have c2 := ht.cells i (Nat.le_refl _) (by omega) (k + 1) (by omega)
          have c3 := ht.cells (i + 1) (by omega) (by omega) (k + 1) (by omega)
          have f0 := ht.frz i (Nat.le_refl _) (by omega) k
          obtain ⟨l1, hl1⟩ : ∃ l, l = lcs (a.drop (i + 1)) (b.drop k) := ⟨_, rfl⟩
          obtain ⟨l2, hl2⟩ : ∃ l, l = lcs (a.drop i) (b.drop (k + 1)) := ⟨_, rfl⟩
          obtain ⟨l3, hl3⟩ : ∃ l, l = lcs (a.drop (i + 1)) (b.drop (k + 1)) := ⟨_, rfl⟩
          rw [show tabV a b i (k + 1) (i + 1) k = l1 by rw [hl1]; unfold tabV; rw [if_pos (by omega)]] at c1
          rw [show tabV a b i (k + 1) i (k + 1) = l2 by rw [hl2]; unfold tabV; rw [if_pos (by omega)]] at c2
          rw [show tabV a b i (k + 1) (i + 1) (k + 1) = l3 by rw [hl3]; unfold tabV; rw [if_pos (by omega)]] at c3
          have hb1 : l1 ≤ 1024 := by rw [hl1]; exact Nat.le_trans (lcs_le _ _) (by rw [List.length_drop]; omega)
          have hb2 : l2 ≤ 1024 := by rw [hl2]; exact Nat.le_trans (lcs_le _ _) (by rw [List.length_drop]; omega)
          have hb3 : l3 ≤ 1024 := by rw [hl3]; exact Nat.le_trans (lcs_le _ _) (by rw [List.length_drop]; omega)
          rw [← hl1, ← hl2, ← hl3] at HL
          have HL3 := Lib.hid hl3
          have HCA := Lib.hid hca
          have HCB := Lib.hid hcb
          clear hl1 hl2 hl3 hca hcb hx hy
          obtain ⟨p, hp⟩ : ∃ p, p = hs2 i := ⟨_, rfl⟩
          obtain ⟨p2, hp2⟩ : ∃ p, p = hs2 (i + 1) := ⟨_, rfl⟩
          rw [← hp] at r1 c0 c2 f0
          rw [← hp2] at r2 c1 c3
          have HP := Lib.hid hp
          have HP2 := Lib.hid hp2
          clear hp hp2 ht
          clear ca cb
          go_wp2_with fail
          have s1 : IntKind.i64.wrap ((i : Int) + 1) = (i : Int) + 1 := IntWalk.i64_in _ (by omega)
          have s2 : IntKind.i64.wrap ((k : Int) + 1) = (k : Int) + 1 := IntWalk.i64_in _ (by omega)
          have s3 : ((i : Int) + 1).toNat = i + 1 := by omega
          have s4 : ((k : Int) + 1).toNat = k + 1 := by omega
          have s5 : (0 : Int) ≤ (i : Int) + 1 := by omega
          have s6 : (0 : Int) ≤ (k : Int) + 1 := by omega
          have s7 : (i : Int) + 1 < (a.length : Int) + 1 := by omega
          have s8 : (k : Int) + 1 < (b.length : Int) + 1 := by omega
          have s9 : (i : Int) < (a.length : Int) + 1 := by omega
          have s10 : (k : Int) < (b.length : Int) + 1 := by omega
          have s11 : (i : Int) < (a.length : Int) := by omega
          have s12 : (k : Int) < (b.length : Int) := by omega
          have S1 := Lib.hid s1
          have S2 := Lib.hid s2
          have S3 := Lib.hid s3
          have S4 := Lib.hid s4
          obtain ⟨mx, hmx⟩ : ∃ z, z = max l1 l2 := ⟨_, rfl⟩
          have hmr : (if l1 < l2 then (l2 : Int) else (l1 : Int)) = (mx : Int) := by rw [hmx]; split <;> omega
          have hmxb : mx ≤ 1024 := by omega
          have HMX := Lib.hid hmx
          clear hmx
          go_still_tail 23, (by kernel_rfl)
          change wpList _ _ _ _ _ wr.drew
          clear s1 s2 s3 s4
          go_wp2_with fail
          have hs1 := (HT.out.set (f' := fun i' k' => if i' = i ∧ k' = k then mx else tabV a b i (k + 1) i' k') (i := i) (k := k) (Nat.le_refl _) (by omega) (by omega) mx (fun _ _ _ _ => rfl)).drew
          rw [← HP.out] at hs1
          obtain ⟨W1, hW1⟩ : ∃ W1, (wr.setCell { block := p, off := k } (Value.int IntKind.i64 (mx : Nat))).drew = W1 := ⟨_, rfl⟩
          rw [hW1] at hs1 ⊢
          have d0 := hs1.cells i (Nat.le_refl _) (by omega) k (by omega)
          have d3 := hs1.cells (i + 1) (by omega) (by omega) (k + 1) (by omega)
          have d1 := hs1.rows i (Nat.le_refl _) (by omega)
          have d2 := hs1.rows (i + 1) (by omega) (by omega)
          have g0 := hs1.frz i (Nat.le_refl _) (by omega) k
          simp only [if_true, and_self] at d0
          rw [if_neg (by omega), show tabV a b i (k + 1) (i + 1) (k + 1) = lcs (a.drop (i + 1)) (b.drop (k + 1)) by unfold tabV; rw [if_pos (by omega)]] at d3
          rw [← HP.out] at d0 d1 g0
          rw [← HP2.out] at d2 d3
          rw [← HL3.out] at d3
          have HS1 := Lib.hid hs1
          have HW1 := Lib.hid hW1
          have ca := (hs1.below.cell (p := ⟨ba, oa + i, none⟩) hba).trans (show w.cell? _ = _ from HCA.out)
          have cb := (hs1.below.cell (p := ⟨bb, ob + k, none⟩) hbb).trans (show w.cell? _ = _ from HCB.out)
          clear c0 c1 c2 c3 r1 r2 f0 hs1 hW1 hmr
          have hwk : wrap64 ((k : Int) - 1) = (k : Int) - 1 := IntWalk.wrap64_in _ ⟨by omega, by omega⟩
          have HWK := Lib.hid hwk
          have HV : Hid (∀ v W2, (TabR w a.length (b.length + 1) g i hs2 (fun i' k' => if i' = i ∧ k' = k then v else tabV a b i (k + 1) i' k') W2) → lcs (a.drop i) (b.drop k) = v → TabR w a.length (b.length + 1) g i hs2 (tabV a b i k) W2) := Lib.hid (fun v W2 t ev => ⟨t.rows, t.todo, fun i' hi0' hi' k' hk' => by
              rw [t.cells i' hi0' hi' k' hk']
              congr 3
              unfold tabV
              split
              · next e => rw [if_pos (by omega), e.1, e.2, ev]
              · next e =>
                by_cases e2 : i < i' ∨ i' = i ∧ k ≤ k'
                · rw [if_pos e2, if_pos (by omega)]
                · rw [if_neg e2, if_neg (by omega)], t.gfrz, t.frz, t.ne, t.inj, t.g0, t.h0, t.g1, t.h1, t.below⟩)
          clear hwk
          by_cases hxy : x = y
          · subst hxy
            go_quiet (fail)
            go_wp2_with fail
            have hs3 := HS1.out.drewN nq
            change (W1.drewN nq).cell? _ = _ at d0
            change (W1.drewN nq).cell? _ = _ at d1
            change (W1.drewN nq).cell? _ = _ at d2
            change (W1.drewN nq).cell? _ = _ at d3
            change (W1.drewN nq).frozen? _ = _ at g0
            have HS3 := Lib.hid hs3
            clear hs3 ca cb HS1 HW1
            generalize W1.drewN nq = W2 at *
            have s1 := S1.out
            have s2 := S2.out
            have s3 := S3.out
            have s4 := S4.out
            have s13 : IntKind.i64.wrap (1 + (l3 : Int)) = 1 + (l3 : Int) := IntWalk.i64_in _ (by omega)
            obtain ⟨my, hmy⟩ : ∃ z, z = max mx (l3 + 1) := ⟨_, rfl⟩
            have hmr : (if (mx : Int) < 1 + (l3 : Int) then 1 + (l3 : Int) else (mx : Int)) = (my : Int) := by rw [hmy]; split <;> omega
            have hmyb : my ≤ 1025 := by omega
            have HMY := Lib.hid hmy
            clear hmy
            go_still_tail 24, (by kernel_rfl)
            change wpList _ _ _ _ _ W2.drew
            clear s1 s2 s3 s4 s13
            go_wp2_with fail
            have hs2 := (((HS3.out.set (f' := fun i' k' => if i' = i ∧ k' = k then my else tabV a b i (k + 1) i' k') (i := i) (k := k) (Nat.le_refl _) (by omega) (by omega) my (fun i' _ k' _ => by by_cases e : i' = i ∧ k' = k <;> simp [e])).drew))
            rw [← HP.out] at hs2
            have HS2 := Lib.hid hs2
            clear hs2
            try rw [HWK.out]
            go_roundw
            case rel => exact ⟨k, by omega, rfl, HV.out my _ HS2.out (by rw [HL.out]; first | rw [if_pos rfl, HMY.out, HMX.out] | rw [if_pos trivial, HMY.out, HMX.out])⟩
            case measure => simp [intOf]
          · have hne := str_ne hxy
            have HXY := Lib.hid hxy
            clear hxy
            go_quiet (fail)
            go_wp2_with fail
            try rw [HWK.out]
            go_roundw
            case rel => exact ⟨k, by omega, rfl, HV.out mx _ (HS1.out.drewN nq) (by rw [HL.out, if_neg HXY.out, HMX.out])⟩
            case measure => simp [intOf]
end Go.Proofs.Ytakolehlaejhfaa
