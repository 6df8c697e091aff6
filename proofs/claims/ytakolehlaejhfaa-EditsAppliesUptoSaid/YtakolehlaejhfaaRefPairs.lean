/- platenref24.pairs. -/
import Derived.Test.YtakolehlaejhfaaRefEdPlain
import Derived.Test.YtakolehlaejhfaaEdRefTable
namespace Go.Proofs.Ytakolehlaejhfaa
open Go.RowKit
set_option maxRecDepth 100000
set_option linter.unusedVariables false
set_option linter.unusedSimpArgs false

def pairCells (ps : List (Nat × Nat)) : List Value := ps.flatMap fun p => [.int .i64 (p.1 : Int), .int .i64 (p.2 : Int)]
theorem pairCells_len (ps : List (Nat × Nat)) : (pairCells ps).length = ps.length * 2 := by
  induction ps with
  | nil => rfl
  | cons x xs ih => simp only [pairCells, List.flatMap_cons, List.length_append, List.length_cons, List.length_nil] at ih ⊢; omega
theorem pairCells_snoc (ps : List (Nat × Nat)) (p : Nat × Nat) : pairCells (ps ++ [p]) = pairCells ps ++ [.int .i64 (p.1 : Int), .int .i64 (p.2 : Int)] := by simp [pairCells]
theorem pairCells_at : ∀ (ps : List (Nat × Nat)) (j : Nat) (hj : j < ps.length), (pairCells ps)[j * 2]? = some (.int .i64 (ps[j].1 : Int)) ∧ (pairCells ps)[j * 2 + 1]? = some (.int .i64 (ps[j].2 : Int))
  | p :: ps, 0, _ => ⟨rfl, rfl⟩
  | p :: ps, j + 1, h => by
    have := pairCells_at ps j (by simpa using h)
    rw [show (j + 1) * 2 = j * 2 + 2 by omega]
    exact this
theorem pairCells_one (ps : List (Nat × Nat)) : ∀ u ∈ pairCells ps, u.oneCell' = true := by
  intro u hu
  simp only [pairCells, List.mem_flatMap] at hu
  obtain ⟨p, _, hp⟩ := hu
  simp only [List.mem_cons, List.not_mem_nil, or_false] at hp
  rcases hp with rfl | rfl <;> rfl
theorem pairE : ElemOf Try.prog 57 59 2 16 := .mk' (.agg #[.int .i64 0, .int .i64 0]) Try.underlying57 (by kernel_rfl) rfl (by decide)
def PairsOut (w : World) (a b : List Ln) (e : Ending) (w' : World) : Prop := ∃ A c, e = .returned (.slice A (pairsB a b 0 0).length c) ∧ w'.ownsRow w.heap.size 59 2 (.slice A (pairsB a b 0 0).length c) (pairsB a b 0 0).length (pairCells (pairsB a b 0 0)) ∧ Below w.heap.size w w'

set_option maxHeartbeats 8000000 in
theorem refPairs_any (a b : List Ln) (A1 A2 : Option Addr) (c1 c2 : Nat) (w : World) (ha : a.length ≤ 1024) (hb : b.length ≤ 1024) (hA : TxtAt w 0 w.heap.size A1 a) (hB : TxtAt w 0 w.heap.size A2 b) :
    Calls Try.prog 29 #[.slice A1 a.length c1, .slice A2 b.length c2] w (PairsOut w a b) := by
  have HA := Lib.hid hA
  have HB := Lib.hid hB
  have HTB := Lib.hid (refTable_any a b A1 A2 c1 c2 w ha hb hA hB)
  clear hA hB
  go_enter Try.func29, Try.ntmps29
  go_wp2_with fail
  refine HTB.out.mono ?_
  rintro e w1 ⟨AT, rfl, hrows, hb1⟩
  obtain ⟨g, rfl, hg1, hg2, hrow⟩ := hrows
  have HA1 := Lib.hid (HA.out.below hb1 (Nat.le_refl _) |>.wide (Nat.le_refl _) hb1.size)
  have HB1 := Lib.hid (HB.out.below hb1 (Nat.le_refl _) |>.wide (Nat.le_refl _) hb1.size)
  have HW1 := Lib.hid hb1
  have HROW := Lib.hid hrow
  have hz1 := hb1.size
  clear hb1 hrow HTB HA HB
  -- a number of the table, in a world that keeps it
  have hcell : ∀ (W : World), Below w1.heap.size w1 W → ∀ i k, i ≤ a.length → k ≤ b.length → ∃ h o c, W.cell? ⟨g, i, none⟩ = some (.slice (some ⟨h, o, none⟩) (b.length + 1) c) ∧ W.cell? ⟨h, o + k, none⟩ = some (.int .i64 (lcs (a.drop i) (b.drop k) : Nat)) := by
    intro W hW i k hi hk
    obtain ⟨h, o, c, e1, e2, e3, e4, e5⟩ := HROW.out i hi
    exact ⟨h, o, c, (hW.cell (p := ⟨g, i, none⟩) hg2).trans e1, (hW.cell (p := ⟨h, o + k, none⟩) e4).trans (e5 k hk)⟩
  have HCELL := Lib.hid hcell
  clear hcell HROW
  go_wp2_with fail
  go_loopw [6, 7, 8, 9, 10] (fun o i k _ _ wr => ∃ (i' k' : Nat) (ps : List (Nat × Nat)) (A : Option Addr) (c : Nat), i' ≤ a.length ∧ k' ≤ b.length ∧ i = .int .i64 (i' : Int) ∧ k = .int .i64 (k' : Int) ∧ o = .slice A ps.length c ∧
    wr.ownsRow w1.heap.size 59 2 (.slice A ps.length c) ps.length (pairCells ps) ∧ ps ++ pairsB (a.drop i') (b.drop k') i' k' = pairsB a b 0 0 ∧ ps.length ≤ i' ∧ Below w1.heap.size w1 wr) (fun _ i _ _ _ _ => a.length - (intOf i).toNat)
  case atStart => exact ⟨0, 0, [], none, 0, Nat.zero_le _, Nat.zero_le _, rfl, rfl, rfl, World.ownsRow_nil _ _ _ _, by simp, Nat.le_refl _, Below.refl _ _⟩
  case round =>
    obtain ⟨i, k, ps, A, c, hi, hk, rfl, rfl, rfl, hown, hps, hpl, hbe⟩ := hrel
    have HO := Lib.hid hown
    have HPS := Lib.hid hps
    have HBE := Lib.hid hbe
    clear hown hps hbe
    by_cases hl : 0 < lcs (a.drop i) (b.drop k)
    case neg =>
      have hnil : ps = pairsB a b 0 0 := by
        have := HPS.out
        rw [pairsB_zero _ _ _ _ (by omega), List.append_nil] at this
        exact this
      have HN := Lib.hid hnil
      clear hnil
      have fin : PairsOut w a b (.returned (.slice A ps.length c)) wr := by
        refine ⟨A, c, by rw [← HN.out], ?_, HW1.out.call HBE.out⟩
        rw [← HN.out]
        exact own_low HO.out hz1
      have FIN := Lib.hid fin
      clear fin
      by_cases hia : i < a.length
      · have hii : (i : Int) < (a.length : Int) := by omega
        by_cases hkb : k < b.length
        · have hki : (k : Int) < (b.length : Int) := by omega
          obtain ⟨h, o, cc, e1, e2⟩ := HCELL.out wr HBE.out i k (by omega) (by omega)
          have hL : (lcs (a.drop i) (b.drop k) : Nat) = 0 := by omega
          rw [hL] at e2
          have hi1 : (i : Int) < (a.length : Int) + 1 := by omega
          have hk1 : (k : Int) < (b.length : Int) + 1 := by omega
          clear hl hL
          go_wp2_with fail
          go_ret
          exact FIN.out
        · have hki : (b.length : Int) ≤ (k : Int) := by omega
          clear hl
          go_wp2_with fail
          go_ret
          exact FIN.out
      · have hii : (a.length : Int) ≤ (i : Int) := by omega
        clear hl
        go_wp2_with fail
        go_ret
        exact FIN.out
    have hia : i < a.length := by
      rcases Nat.lt_or_ge i a.length with h | h
      · exact h
      · rw [List.drop_eq_nil_of_le h, lcs_nil] at hl; omega
    have hkb : k < b.length := by
      rcases Nat.lt_or_ge k b.length with h | h
      · exact h
      · rw [List.drop_eq_nil_of_le h, lcs_nil'] at hl; omega
    have hii : (i : Int) < (a.length : Int) := by omega
    have hki : (k : Int) < (b.length : Int) := by omega
    have hi1 : (i : Int) < (a.length : Int) + 1 := by omega
    have hk1 : (k : Int) < (b.length : Int) + 1 := by omega
    obtain ⟨h0, o0, cc0, e1, e2⟩ := HCELL.out wr HBE.out i k (by omega) (by omega)
    obtain ⟨L, hL⟩ : ∃ L, L = lcs (a.drop i) (b.drop k) := ⟨_, rfl⟩
    rw [← hL] at hl e2
    have hL0 : (0 : Int) < (L : Int) := by omega
    have hLd : decide (0 < L) = true := by simpa using hl
    have hLb : L ≤ 1024 := by rw [hL]; have := lcs_le (a.drop i) (b.drop k); rw [List.length_drop] at this; omega
    have HL := Lib.hid hL
    clear hL hl
    go_wp2_with fail
    clear e1 e2
    go_loopw [6, 8, 9, 10] (fun o kk fd jj wr => ∃ (fb : Bool) (j k2 : Nat) (qs : List (Nat × Nat)) (A : Option Addr) (c : Nat), o = .slice A qs.length c ∧ kk = .int .i64 (k2 : Int) ∧ fd = .bool fb ∧ jj = .int .i64 (j : Int) ∧
      wr.ownsRow w1.heap.size 59 2 (.slice A qs.length c) qs.length (pairCells qs) ∧ Seek a b i k ps fb j k2 qs ∧ Below w1.heap.size w1 wr) (fun _ _ _ jj _ => b.length - (intOf jj).toNat)
    case atStart => exact ⟨false, k, k, ps, A, c, rfl, rfl, rfl, rfl, HO.out, seek_new a b i k ps hk, HBE.out⟩
    case round =>
      obtain ⟨fb, j, k2, qs, A, c, rfl, rfl, rfl, rfl, hown, hsk, hbe⟩ := hrel
      have hj := hsk.2.1
      have hk2 := hsk.1
      have hql := hsk.2.2.1
      have HO := Lib.hid hown
      have HSK := Lib.hid hsk
      have HBE := Lib.hid hbe
      clear hown hsk hbe
      have hout : (fb = true ∨ j = b.length) → ∃ (i' k' : Nat) (ps : List (Nat × Nat)) (A' : Option Addr) (c' : Nat), i' ≤ a.length ∧ k' ≤ b.length ∧ Value.int .i64 ((i : Int) + 1) = .int .i64 (i' : Int) ∧ Value.int .i64 (k2 : Int) = .int .i64 (k' : Int) ∧ Value.slice A qs.length c = .slice A' ps.length c' ∧
          wr.ownsRow w1.heap.size 59 2 (.slice A' ps.length c') ps.length (pairCells ps) ∧ ps ++ pairsB (a.drop i') (b.drop k') i' k' = pairsB a b 0 0 ∧ ps.length ≤ i' ∧ Below w1.heap.size w1 wr := fun he =>
        ⟨i + 1, k2, qs, A, c, by omega, hk2, by go_num, rfl, rfl, HO.out, by rw [← seek_end hia HSK.out he]; exact HPS.out, by omega, HBE.out⟩
      have HOUT := Lib.hid hout
      clear hout
      cases fb with
      | true =>
        by_cases hjb : j < b.length
        · have hji : (j : Int) < (b.length : Int) := by omega
          go_wp2_with fail
          go_roundw
          case rel => exact HOUT.out (.inl rfl)
          case measure => simp [intOf]; omega
        · have hji : (b.length : Int) ≤ (j : Int) := by omega
          go_wp2_with fail
          go_roundw
          case rel => exact HOUT.out (.inl rfl)
          case measure => simp [intOf]; omega
      | false =>
        by_cases hjb : j < b.length
        case neg =>
          have hji : (b.length : Int) ≤ (j : Int) := by omega
          go_wp2_with fail
          go_roundw
          case rel => exact HOUT.out (.inr (by omega))
          case measure => simp [intOf]; omega
        have hji : (j : Int) < (b.length : Int) := by omega
        have hj1 : (j : Int) + 1 < (b.length : Int) + 1 := by omega
        have hi2 : (i : Int) + 1 < (a.length : Int) + 1 := by omega
        obtain ⟨ba, oa, eA, _, hba, hca⟩ := HA1.out.at_ hia
        obtain ⟨bb, ob, eB, _, hbb, hcb⟩ := HB1.out.at_ hjb
        subst eA eB
        have hx := List.getElem?_eq_getElem hia
        have hy := List.getElem?_eq_getElem hjb
        generalize a[i]'hia = x at *
        generalize b[j]'hjb = y at *
        have ca := (HBE.out.cell (p := ⟨ba, oa + i, none⟩) hba).trans hca
        have cb := (HBE.out.cell (p := ⟨bb, ob + j, none⟩) hbb).trans hcb
        obtain ⟨h1, o1, cc1, e1, e2⟩ := HCELL.out wr HBE.out i k (by omega) (by omega)
        obtain ⟨h2, o2, cc2, e3, e4⟩ := HCELL.out wr HBE.out (i + 1) (j + 1) (by omega) (by omega)
        rw [← HL.out] at e2
        have HX := Lib.hid hx
        have HY := Lib.hid hy
        obtain rfl : k2 = k := (HSK.out.2.2.2.2 rfl).1
        obtain ⟨l3, hl3⟩ : ∃ l, l = lcs (a.drop (i + 1)) (b.drop (j + 1)) := ⟨_, rfl⟩
        have hb3 : l3 ≤ 1024 := by rw [hl3]; exact Nat.le_trans (lcs_le _ _) (by rw [List.length_drop]; omega)
        rw [← hl3] at e4
        have HL3 := Lib.hid hl3
        clear hca hcb hx hy hl3
        have s1 : IntKind.i64.wrap ((i : Int) + 1) = (i : Int) + 1 := IntWalk.i64_in _ (by omega)
        have s2 : IntKind.i64.wrap ((j : Int) + 1) = (j : Int) + 1 := IntWalk.i64_in _ (by omega)
        have s3 : ((i : Int) + 1).toNat = i + 1 := by omega
        have s4 : ((j : Int) + 1).toNat = j + 1 := by omega
        have s5 : (0 : Int) ≤ (i : Int) + 1 := by omega
        have s6 : (0 : Int) ≤ (j : Int) + 1 := by omega
        have s7 : IntKind.i64.wrap (1 + (l3 : Int)) = 1 + (l3 : Int) := IntWalk.i64_in _ (by omega)
        by_cases hxy : x = y
        case neg =>
          have hne := str_ne hxy
          have HXY := Lib.hid hxy
          clear hxy e1 e2 e3 e4
          go_wp2_with fail
          go_quiet (fail)
          clear s1 s2 s3 s4 s7
          go_wp2_with fail
          go_roundw
          case rel => exact ⟨false, j + 1, k2, qs, A, c, rfl, rfl, rfl, by go_num, HO.out, seek_miss HSK.out hjb (fun h => HXY.out (by have := h.1; rw [HX.out, HY.out] at this; exact (Option.some.inj this).symm)), below_drewN HBE.out _⟩
          case measure => simp [intOf]; omega
        subst hxy
        by_cases hll : l3 + 1 = L
        case neg =>
          have hne : (1 + (l3 : Int) == (L : Int)) = false := by rw [beq_eq_false_iff_ne]; omega
          have HLL := Lib.hid hll
          clear hll
          go_wp2_with fail
          go_quiet (fail)
          clear s1 s2 s3 s4 s7
          go_wp2_with fail
          go_roundw
          case rel => exact ⟨false, j + 1, k2, qs, A, c, rfl, rfl, rfl, by go_num, HO.out, seek_miss HSK.out hjb (fun h => HLL.out (by have := h.2; rw [← HL3.out, ← HL.out] at this; exact this)), below_drewN HBE.out _⟩
          case measure => simp [intOf]; omega
        have hne : (1 + (l3 : Int) == (L : Int)) = true := by rw [beq_iff_eq]; omega
        have HLL := Lib.hid hll
        clear hll
        have HHIT := Lib.hid (seek_hit hia HSK.out hjb (by rw [HX.out, HY.out]) (by rw [← HL3.out, ← HL.out]; exact HLL.out))
        go_wp2_with fail
        go_quiet (fail)
        clear s1 s2 s3 s4 s7 hne ca cb e1 e2 e3 e4
        have HOQ : Hid ((wr.drewN nq).ownsRow w1.heap.size 59 2 (.slice A qs.length c) qs.length (pairCells qs)) := Lib.hid HO.out
        have HBQ : Hid (Below w1.heap.size w1 (wr.drewN nq)) := Lib.hid (below_drewN HBE.out nq)
        generalize wr.drewN nq = wq at *
        go_wp2_with (at_builtin; refine wpList_append_blk rfl (.tmp 74) (.tmp 78) _ _ 2 16 rfl pairE w1 wq w1.heap.size HBQ.out HBQ.out.size ((Below.refl _ _).alloc (Nat.le_refl _) _) (.slice A qs.length c) qs.length (pairCells qs) rfl HOQ.out wq.heap.size 1 [.int .i64 (i : Int), .int .i64 (j : Int)] rfl (Blk.new' _ _ rfl) rfl (by simp [Value.oneCell']) (by unfold maxLen; omega) (by omega) ?_; intro v' W' ho' hb' hg' hlt'; have HO2 := Lib.hid ho'; have HB2 := Lib.hid hb'; clear ho' hb' hg' hlt')
        obtain ⟨gg, cap, rfl⟩ := ownsRow_succ HO2.out
        go_roundw
        case rel => exact ⟨true, j + 1, j + 1, qs ++ [(i, j)], some ⟨gg, 0, none⟩, cap, by simp, by go_num, rfl, by go_num, by rw [pairCells_snoc, List.length_append]; exact HO2.out, HHIT.out, HB2.out⟩
        case measure => simp [intOf]; omega
end Go.Proofs.Ytakolehlaejhfaa
