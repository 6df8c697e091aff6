/- platenlaw24.edit. -/
import Derived.Test.YtakolehlaejhfaaEdAllPlain
import Derived.Deep.LoopGhost
namespace Go.Proofs.Ytakolehlaejhfaa
open Go.RowKit
set_option maxRecDepth 100000
set_option linter.unusedVariables false
set_option linter.unusedSimpArgs false

def EditOut (w : World) (k d : Int) (p : Nat) (e : Ending) (w' : World) : Prop := ∃ A n c, e = .returned (.agg #[.int .i64 k, .int .i64 d, .slice A n c]) ∧ PutOwn w' w.heap.size (⟨k, d, List.replicate p [120]⟩, .slice A n c) ∧ Below w.heap.size w w'
set_option maxHeartbeats 4000000 in
theorem edit_any (k d : Int) (p : Nat) (hp : p ≤ 15) (w : World) : Calls Try.prog 24 #[.int .i64 k, .int .i64 d, .int .i64 (p : Int)] w (EditOut w k d p) := by
  obtain ⟨i0, z0, hT1, hi0, hz0, hz1, hzb, hz4, hz5⟩ := strE'
  have HE := Lib.hid (And.intro hi0 (And.intro hz0 (And.intro hz1 (And.intro hzb hz4))))
  clear hi0 hz0 hz1 hzb hz4 hT1
  go_enter Try.func24, Try.ntmps24
  go_wp2_with fail
  obtain ⟨W0, hW0⟩ : ∃ W0, (w.alloc (.cells #[.int .i64 0, .int .i64 0, .slice none 0 0] 43)).alloc (.cells #[.int .i64 k, .int .i64 d, .slice none 0 0] 43) = W0 := ⟨_, rfl⟩
  rw [hW0]
  have hz0 : W0.heap.size = w.heap.size + 2 := by rw [← hW0]; simp
  have hb0 : Below w.heap.size w W0 := by rw [← hW0]; exact ((Below.refl _ w).alloc (Nat.le_refl _) _).alloc (by simp) _
  have hk0 : Blk W0 w.heap.size [.int .i64 0, .int .i64 0, .slice none 0 0] 43 := by rw [← hW0]; exact (Blk.new w _ _).alloc _
  have hk1 : Blk W0 (w.heap.size + 1) [.int .i64 k, .int .i64 d, .slice none 0 0] 43 := by rw [← hW0]; exact Blk.new' _ _ (by simp)
  have H0 := Lib.hid (And.intro hb0 (And.intro hk0 hk1))
  clear hb0 hk0 hk1 hW0
  go_loopw [8] (fun i wr => ∃ (j : Nat) (A : Option Addr) (n c : Nat), j ≤ p ∧ i = .int .i64 (j : Int) ∧ Blk wr w.heap.size [.int .i64 0, .int .i64 0, .slice none 0 0] 43 ∧ Blk wr (w.heap.size + 1) [.int .i64 k, .int .i64 d, .slice A n c] 43 ∧
      wr.ownsRow (w.heap.size + 2) 9 1 (.slice A n c) j ((List.replicate j [120]).map strVal) ∧ Below w.heap.size w wr ∧ w.heap.size + 2 ≤ wr.heap.size) (fun i _ => p - (intOf i).toNat)
  case atStart => exact ⟨0, none, 0, 0, Nat.zero_le _, rfl, H0.out.2.1, H0.out.2.2, World.ownsRow_nil _ _ _ _, H0.out.1, by omega⟩
  case round =>
    obtain ⟨j, A, n, c, hj, rfl, h0, h1, hown, hb, hz⟩ := hrel
    have HK0 := Lib.hid h0
    have HK1 := Lib.hid h1
    have HOW := Lib.hid hown
    have HB := Lib.hid hb
    have c2 := h1.cell 2
    have f2 := h1.frozen 2
    have c0 := h1.cell 0
    have c1 := h1.cell 1
    have g0 := h0.cell 0
    have g1 := h0.cell 1
    have g2 := h0.cell 2
    have k0 := h0.frozen 0
    have k1 := h0.frozen 1
    have k2 := h0.frozen 2
    simp only [List.getElem?_cons_zero, List.getElem?_cons_succ] at c0 c1 c2 g0 g1 g2
    by_cases hlt : j < p
    · have hji : (j : Int) < (p : Int) := by omega
      have hl1 := h1.lt
      have HNE : Hid ((Value.slice A n c).ownBlock ≠ some (w.heap.size + 1)) := Lib.hid (fun e => by have := (hown.lt _ e).1; omega)
      have HNE0 : Hid ((Value.slice A n c).ownBlock ≠ some w.heap.size) := Lib.hid (fun e => by have := (hown.lt _ e).1; omega)
      clear h0 h1 hown hb g0 g1 g2 k0 k1 k2 c0 c1
      go_wp2_with (at_builtin; refine wpList_append_lies _ rfl _ _ 40 rfl (w.heap.size + 2) 9 i0 z0 1 16 Try.underlying40 HE.out.1 HE.out.2.1 HE.out.2.2.1 HE.out.2.2.2.1 HE.out.2.2.2.2 (by omega) (.slice A n c) j ((List.replicate j [120]).map strVal) rfl (HOW.out.alloc _) ⟨wr.heap.size, 0, none⟩ 1 1 [strVal [120]] rfl rfl (World.news_of_block (cs := #[strVal [120]]) (t := 9) (fr := (0, 0)) (heap_alloc_new wr _)) (by simp [Value.oneCell', strVal]) (by omega) (by unfold maxLen; omega) (by omega) (by simp; omega) (wr.heap.size + 1) (by simp) ?_; intro g cap w2 hown2 hgrow hat hglt; have e2 := (hgrow.cell_far ⟨w.heap.size + 1, 2, none⟩ (by simp; omega) (Ne.symm HNE.out)).trans ((cell_alloc wr _ _ hl1).trans c2); have h2 := (hgrow.frozen_far ⟨w.heap.size + 1, 2, none⟩ (by simp; omega) (Ne.symm HNE.out)).trans ((frozen_alloc wr _ _ hl1).trans f2); have HO2 := Lib.hid hown2; have HG := Lib.hid hgrow; clear hown2 hgrow hat)
      go_roundw
      case rel =>
        refine ⟨j + 1, some ⟨g, 0, none⟩, j + 1, cap, by omega, by go_num, ?_, ?_, ?_, ?_, ?_⟩
        · exact ((HK0.out.alloc _).grown HG.out (Ne.symm HNE0.out)).set_other (by simp) _
        · exact ((HK1.out.alloc _).grown HG.out (Ne.symm HNE.out)).set 2 _
        · have := ownsRow_setCell_below HO2.out (a := ⟨w.heap.size + 1, 2, none⟩) (by simp) (.slice (some ⟨g, 0, none⟩) (j + 1) cap)
          rw [show (List.replicate (j + 1) [(120 : UInt8)]).map strVal = (List.replicate j [120]).map strVal ++ [strVal [120]] by rw [List.replicate_succ', List.map_append]; rfl]
          exact this
        · exact ((HB.out.alloc (by omega) _).grown HG.out (by simp; omega) (fun x hx => by have := (HOW.out.lt _ hx).1; omega)).setCell (p := ⟨w.heap.size + 1, 2, none⟩) (by simp) _
        · have := HG.out.size
          simp at this ⊢
          omega
      case measure => simp [intOf]; omega
    · have hje : j = p := by omega
      have hji : (p : Int) ≤ (j : Int) := by omega
      have HJ := Lib.hid hje
      clear h0 h1 hown hb hje
      go_wp2_with fail
      obtain ⟨W3, hW3⟩ : ∃ W3, ((wr.setCell ⟨w.heap.size, 0, none⟩ (.int .i64 k)).setCell ⟨w.heap.size, 1, none⟩ (.int .i64 d)).setCell ⟨w.heap.size, 2, none⟩ (.slice A n c) = W3 := ⟨_, rfl⟩
      rw [hW3]
      have hb3 : Blk W3 w.heap.size [.int .i64 k, .int .i64 d, .slice A n c] 43 := by rw [← hW3]; exact ((HK0.out.set 0 _).set 1 _).set 2 _
      have e0 := hb3.cell 0
      have e1 := hb3.cell 1
      have e2 := hb3.cell 2
      simp only [List.getElem?_cons_zero, List.getElem?_cons_succ] at e0 e1 e2
      have hbe : Below w.heap.size w W3 := by
        rw [← hW3]
        exact ((HB.out.setCell (p := ⟨w.heap.size, 0, none⟩) (Nat.le_refl _) _).setCell (p := ⟨w.heap.size, 1, none⟩) (Nat.le_refl _) _).setCell (p := ⟨w.heap.size, 2, none⟩) (Nat.le_refl _) _
      have hpo : PutOwn W3 w.heap.size (⟨k, d, List.replicate p [120]⟩, .slice A n c) := by
        refine .inr ?_
        have h2 := HOW.out
        rw [HJ.out] at h2
        have h3 : W3.ownsRow (w.heap.size + 2) 9 1 (.slice A n c) p ((List.replicate p [120]).map strVal) := by
          rw [← hW3]
          exact ownsRow_setCell_below (ownsRow_setCell_below (ownsRow_setCell_below h2 (by simp) _) (by simp) _) (by simp) _
        simp only [List.length_replicate]
        exact own_low h3 (by omega)
      refine bodyPost_ret (v := .agg #[.int .i64 k, .int .i64 d, .slice A n c]) (by simp [results, Try.f24, go_sem, e0, e1, e2]) rfl ⟨A, n, c, rfl, hpo, hbe⟩
end Go.Proofs.Ytakolehlaejhfaa
