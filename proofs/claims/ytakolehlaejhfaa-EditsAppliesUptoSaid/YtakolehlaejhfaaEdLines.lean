/- edits.lines: a text's lines (strings.Lines collected). -/
import Derived.Test.YtakolehlaejhfaaEdMem
import Derived.Test.YtakolehlaejhfaaRangeT
import Derived.Test.YtakolehlaejhfaaAppIn
import Derived.Test.YtakolehlaejhfaaShelf
import Derived.Test.YtakolehlaejhfaaRows
import Derived.Lib.IndexBytes
import Derived.Lib.IndexLaws
import Derived.WalkSmall
import Derived.Outline
import Derived.BigRegion
import Derived.Deep.Cut
import Derived.Deep.LoopGhost
import Derived.Deep.RegionHeld3
import Derived.Deep.AppendLies
import Derived.Maps.AppendAt
import Derived.RangeFuncBox
namespace Go.Proofs.Ytakolehlaejhfaa
open Go.RowKit Go.Shelf
set_option maxRecDepth 100000
set_option linter.unusedVariables false
set_option linter.unusedSimpArgs false
attribute [local go_sem] Oper.semAt_some

theorem strOf_data (l : Ln) : (strOf l).data.toList = l := by simp [strOf]
theorem strOf_extract (l : Ln) (a b : Nat) : (strOf l).extract a b = strOf ((l.drop a).take (b - a)) := by
  rw [← strOf_list ((strOf l).extract a b), Lib.extract_data, strOf_data]
theorem idx_any (r : Ln) (k : Int) (h : Lib.indexByte r 10 = k) (w : World) : Calls Try.prog 45 #[.string (strOf r), .int .u8 10] w fun e w' => e = .returned (.int .i64 k) ∧ w = w' := by
  refine (Try.strings_IndexByte (strOf r) 10 w).mono ?_
  rintro e w' ⟨rfl, rfl⟩
  refine ⟨?_, rfl⟩
  rw [strOf_data]
  exact ret_int h
theorem split_nl (r : Ln) (hr : r ≠ []) :
    (∃ p rest, r = p ++ 10 :: rest ∧ Lib.indexByte r 10 = (p.length : Int) ∧ linesB r = (p ++ [10]) :: linesB rest) ∨ (Lib.indexByte r 10 = -1 ∧ linesB r = [r]) := by
  have hge := Lib.indexByte_ge r 10
  by_cases h : Lib.indexByte r 10 = -1
  · have hn := Lib.indexByte_none h
    refine .inr ⟨h, linesB_end r (fun c hc e => ?_) hr⟩
    obtain ⟨k, hk, rfl⟩ := List.mem_iff_getElem.1 hc
    exact hn k (by rw [List.getElem?_eq_getElem hk, e])
  · obtain ⟨o, ho⟩ : ∃ o : Nat, Lib.indexByte r 10 = o := ⟨(Lib.indexByte r 10).toNat, by omega⟩
    obtain ⟨h1, h2⟩ := Lib.indexByte_some ho
    obtain ⟨hlt, he⟩ := List.getElem?_eq_some_iff.1 h1
    have hp : (r.take o).length = o := by rw [List.length_take]; omega
    refine .inl ⟨r.take o, r.drop (o + 1), ?_, by rw [hp]; exact ho, ?_⟩
    · rw [← he, ← List.drop_eq_getElem_cons hlt, List.take_append_drop]
    · have e : r = r.take o ++ 10 :: r.drop (o + 1) := by rw [← he, ← List.drop_eq_getElem_cons hlt, List.take_append_drop]
      have e2 := linesB_nl (r.take o) (r.drop (o + 1)) (fun c hc ec => by
        obtain ⟨k, hk, rfl⟩ := List.mem_iff_getElem.1 hc
        rw [List.getElem_take] at ec
        exact h2 k (by omega) (by rw [List.getElem?_eq_getElem (by omega), ec]))
      rw [← e] at e2
      exact e2

set_option maxHeartbeats 4000000 in
theorem lines_iter (s : ByteArray) (Bn n0 m0 : Nat) (W : World) (hs : s.size ≤ 1048576) (hc : W.cell? ⟨Bn, 0, none⟩ = some (.string s)) (hfz : W.frozen? ⟨Bn, 0, none⟩ = false) (hBn : Bn < n0) (hm0 : m0 ≤ W.heap.size) (hBW : Bn < W.heap.size) :
    IterT (α := Ln) Try.prog 44 #[.pointer (some ⟨Bn, 0, none⟩)] (fun l => #[.string (strOf l)]) n0 m0 (fun b => b = Bn) (fun xs => xs = linesB s.data.toList) (fun pre => ∃ r, pre ++ r = linesB s.data.toList) W := by
  intro l J Jx hJ hJx hY h0
  have HJ := Lib.hid (hJ (fun _ => False))
  have HJX := Lib.hid hJx
  have HY := Lib.hid (hY (fun _ => False) (fun _ h => h.elim))
  have H0 := Lib.hid (h0 (fun _ => False) W (fun _ h => h.elim) (KX.refl _ _))
  clear hJ hJx hY h0
  go_enter Try.func44, Try.ntmps44
  go_wp2_with fail
  go_loopg [3, 4] s.size (fun k _ _ wr => ∃ (pre : List Ln) (r : Ln), pre ++ linesB r = linesB s.data.toList ∧ k = r.length ∧ r.length ≤ 1048576 ∧ wr.cell? ⟨Bn, 0, none⟩ = some (.string (strOf r)) ∧ wr.frozen? ⟨Bn, 0, none⟩ = false ∧ Bn < wr.heap.size ∧ J (fun _ => False) pre wr)
  case atStart =>
    have hsl : s.data.toList.length = s.size := by simp
    exact ⟨[], s.data.toList, rfl, hsl.symm, by omega, by rw [strOf_list]; exact hc, hfz, hBW, H0.out⟩
  case round =>
    obtain ⟨pre, r, hpre, hk, hrl, hcr, hfr, hbw, hj⟩ := hrel
    have HP := Lib.hid hpre
    have HK := Lib.hid hk
    have HJ0 := Lib.hid hj
    clear hpre hk hj hc hfz
    have hsz : (strOf r).size = r.length := strOf_size r
    by_cases hr : r = []
    · subst hr
      have HZ := Lib.hid hsz
      clear hsz
      have e0 : (strOf ([] : Ln)).size = 0 := rfl
      go_wp2_with fail
      go_end0
      exact ⟨⟨_, rfl⟩, .inl ⟨pre, _, by have := HP.out; simpa [linesB] using this, HJ0.out⟩⟩
    · have hr0 : 0 < r.length := List.length_pos_iff.2 hr
      rcases split_nl r hr with ⟨p, rest, hr2, hix, hl⟩ | ⟨hix, hl⟩
      · have hlen : r.length = p.length + 1 + rest.length := by rw [hr2]; simp; omega
        have hx1 : (strOf r).extract 0 (p.length + 1) = strOf (p ++ [10]) := by
          rw [strOf_extract, hr2, List.drop_zero, show p ++ 10 :: rest = (p ++ [10]) ++ rest by simp, List.take_left' (by simp)]
        have hx2 : (strOf r).extract (p.length + 1) r.length = strOf rest := by
          rw [strOf_extract, hr2, show p ++ 10 :: rest = (p ++ [10]) ++ rest by simp, List.drop_left' (by simp)]
          rw [List.take_of_length_le (by simp; omega)]
        have HIX := Lib.hid (idx_any r _ hix)
        have HL := Lib.hid hl
        have HR2 := Lib.hid hr2
        have HLEN := Lib.hid hlen
        have hpl : (p.length : Int) ≤ 1048576 := by omega
        have hp2 : (p.length : Int) + 1 ≤ (r.length : Int) := by omega
        clear hl hr2 hlen hix
        go_wp2_with (go_at_call 45; refine (HIX.out _).mono ?_; rintro e w1 ⟨rfl, rfl⟩)
        go_region
        have hj1 : J (fun _ => False) pre ((wr.setCell ⟨Bn, 0, none⟩ (.string (strOf rest))).drew) := HJ.out _ _ _ HJ0.out ((KX.setCell wr (X := fun b => b = Bn) (p := ⟨Bn, 0, none⟩) rfl _).drew)
        have hyx := HY.out pre (p ++ [10]) _ ⟨linesB rest, by rw [← HP.out, HL.out, List.append_assoc]; rfl⟩ hj1
        obtain ⟨fn, tmps, asg, bdy, hy, hR⟩ := hyx
        have HR := Lib.hid hR
        clear hR hj1
        go_upto_region 6 with (fail)
        refine (wpIn_wide (n := 4)).1 ?_
        gi_wp2_with fail
        refine HR.out.mono ?_
        rintro e W3 (⟨rfl, hJ3, hk3⟩ | ⟨rfl, hJx3⟩)
        · have hz3 : wr.heap.size ≤ W3.heap.size := by have := hk3.1; simp at this; omega
          have hc3 : W3.cell? ⟨Bn, 0, none⟩ = some (.string (strOf rest)) := (hk3.cell (p := ⟨Bn, 0, none⟩) (by simp; omega) (.inl hBn)).trans (by show (wr.setCell _ _).cell? _ = _; exact World.cell?_setCell_same _ _ _ hcr)
          have hf3 : W3.frozen? ⟨Bn, 0, none⟩ = false := (hk3.frozen (p := ⟨Bn, 0, none⟩) (by simp; omega) (.inl hBn)).trans (by simpa using hfr)
          have HJ3 := Lib.hid hJ3
          clear hJ3 hk3 hy
          gi_wp2_with fail
          go_wp2_with fail
          go_roundg rest.length
          case measure => rw [HK.out, HLEN.out]; omega
          case rel => exact ⟨pre ++ [p ++ [10]], rest, by rw [← HP.out, HL.out, List.append_assoc]; rfl, rfl, by have := HLEN.out; omega, hc3, hf3, by omega, HJ3.out⟩
        · have HJX3 := Lib.hid hJx3
          clear hJx3 hy
          gi_wp2_with fail
          go_wp2_with fail
          refine bodyPost_ret (results_none rfl _ _ _) rfl ?_
          exact ⟨⟨_, rfl⟩, .inr ⟨pre ++ [p ++ [10]], ⟨linesB rest, by rw [← HP.out, HL.out, List.append_assoc]; rfl⟩, HJX3.out⟩⟩
      · have HIX := Lib.hid (idx_any r _ hix)
        have HL := Lib.hid hl
        clear hl hix
        go_upto_region 6 with (go_at_call 45; refine (HIX.out _).mono ?_; rintro e w1 ⟨rfl, rfl⟩)
        have hj1 : J (fun _ => False) pre ((wr.setCell ⟨Bn, 0, none⟩ (.string ⟨#[]⟩))) := HJ.out _ _ _ HJ0.out (KX.setCell wr (X := fun b => b = Bn) (p := ⟨Bn, 0, none⟩) rfl _)
        have hyx := HY.out pre r _ ⟨[], by rw [← HP.out, HL.out, List.append_assoc]; rfl⟩ hj1
        obtain ⟨fn, tmps, asg, bdy, hy, hR⟩ := hyx
        have HR := Lib.hid hR
        clear hR hj1
        refine (wpIn_wide (n := 4)).1 ?_
        gi_wp2_with fail
        refine HR.out.mono ?_
        rintro e W3 (⟨rfl, hJ3, hk3⟩ | ⟨rfl, hJx3⟩)
        · have hz3 : wr.heap.size ≤ W3.heap.size := by have := hk3.1; simp at this; omega
          have hc3 : W3.cell? ⟨Bn, 0, none⟩ = some (.string (strOf [])) := (hk3.cell (p := ⟨Bn, 0, none⟩) (by simp; omega) (.inl hBn)).trans (by show (wr.setCell _ _).cell? _ = _; exact World.cell?_setCell_same _ _ _ hcr)
          have hf3 : W3.frozen? ⟨Bn, 0, none⟩ = false := (hk3.frozen (p := ⟨Bn, 0, none⟩) (by simp; omega) (.inl hBn)).trans (by simpa using hfr)
          have HJ3 := Lib.hid hJ3
          clear hJ3 hk3 hy
          gi_wp2_with fail
          go_wp2_with fail
          go_roundg 0
          case measure => rw [HK.out]; omega
          case rel => exact ⟨pre ++ [r], [], by rw [← HP.out, HL.out]; simp [linesB], rfl, by simp, hc3, hf3, by omega, HJ3.out⟩
        · have HJX3 := Lib.hid hJx3
          clear hJx3 hy
          gi_wp2_with fail
          go_wp2_with fail
          refine bodyPost_ret (results_none rfl _ _ _) rfl ?_
          exact ⟨⟨_, rfl⟩, .inr ⟨pre ++ [r], ⟨[], by rw [← HP.out, HL.out, List.append_assoc]; rfl⟩, HJX3.out⟩⟩

theorem A.infoStr : (Try.prog.info? 9).map (fun i => (i.zero, i.size, i.bytes)) = some (some (.string ⟨#[]⟩), 1, 16) := by kernel_rfl
theorem strE : ElemOf Try.prog 40 9 1 16 := .mk' (.string ⟨#[]⟩) Try.underlying40 (by kernel_rfl) rfl (by decide)

/-- What AppendSeq holds between two rounds. -/
structure SeqAt (w : World) (Bn : Nat) (T : Nat → Prop) (pre : List Ln) (W : World) : Prop where
  box : ∃ v, Blk W w.heap.size [v] 40 ∧ W.ownsRow (w.heap.size + 1) 9 1 v pre.length (pre.map strVal) ∧ ∀ g, v.ownBlock = some g → ¬ T g
  own : ∀ b, T b → w.heap.size + 1 ≤ b ∧ b < W.heap.size
  kept : KX (fun b => b = Bn) w W
theorem SeqAt.next {w : World} {Bn : Nat} {T : Nat → Prop} {pre : List Ln} {A B : World} (h : SeqAt w Bn T pre A) (hk : KX (fun b => b = Bn ∨ T b) A B) (hBn : Bn < w.heap.size) : SeqAt w Bn T pre B := by
  obtain ⟨⟨v, h1, h2, h3⟩, h4, h5⟩ := h
  have hz := h5.size
  refine ⟨⟨v, (hk.block _ h1.lt ?_).trans h1, own_kx h2 hk ?_, h3⟩, fun b hb => ⟨(h4 b hb).1, Nat.lt_of_lt_of_le (h4 b hb).2 hk.size⟩, ?_⟩
  · rintro (e | e)
    · omega
    · have := (h4 _ e).1; omega
  · intro g hg
    rintro (e | e)
    · have := (h2.lt g hg).1; omega
    · exact h3 g hg e
  · refine ⟨hk.os.trans h5.os, hk.tape.trans h5.tape, hk.output.trans h5.output, Nat.le_trans h5.size hk.size, fun b hb hx => (hk.block b (by omega) ?_).trans (h5.block b hb hx)⟩
    rintro (e | e)
    · exact hx e
    · have := (h4 _ e).1; omega

set_option maxHeartbeats 4000000 in
theorem appendSeq_lines (s : ByteArray) (Bn : Nat) (w : World) (hs : s.size ≤ 1048576) (hc : w.cell? ⟨Bn, 0, none⟩ = some (.string s)) (hfz : w.frozen? ⟨Bn, 0, none⟩ = false) (hBW : Bn < w.heap.size) :
    Calls Try.prog 43 #[.slice none 0 0, .func (.func 44) #[] #[.pointer (some ⟨Bn, 0, none⟩)]] w fun e w' => ∃ A c, e = .returned (.slice A (linesB s.data.toList).length c) ∧ w'.ownsRow (w.heap.size + 1) 9 1 (.slice A (linesB s.data.toList).length c) (linesB s.data.toList).length ((linesB s.data.toList).map strVal) ∧ KX (fun b => b = Bn) w w' := by
  refine callsIn_wide.1 (callsIn_of_wp_marks (F := Fence.wide) (n := 5) Try.func43 rfl trivial ?_ rfl)
  simp only [Try.ntmps43, List.size_toArray, List.length_cons, List.length_nil, Nat.reduceAdd, Nat.reduceSub, Array.replicate_succ, Array.replicate_zero, List.push_toArray, List.append_toArray, List.nil_append, List.cons_append]
  refine wpIn_wide.2 ?_
  have HC := Lib.hid hc
  have HF := Lib.hid hfz
  clear hc hfz
  go_wp2_with fail
  obtain ⟨W0, hW0⟩ : ∃ W0, w.alloc (.cells #[.slice none 0 0] 40) = W0 := ⟨_, rfl⟩
  rw [hW0]
  have hz0 : W0.heap.size = w.heap.size + 1 := by rw [← hW0]; simp
  have hb0 : Below w.heap.size w W0 := by rw [← hW0]; exact (Below.refl _ w).alloc (Nat.le_refl _) _
  have hblk0 : Blk W0 w.heap.size [.slice none 0 0] 40 := by rw [← hW0]; exact Blk.new w _ _
  have HB0 := Lib.hid hb0
  have HK0 := Lib.hid hblk0
  clear hW0 hb0 hblk0
  refine range_lawT (α := Ln) (n0 := w.heap.size) (m0 := w.heap.size + 1) (X := fun b => b = Bn) (S := fun xs => xs = linesB s.data.toList) (Sp := fun pre => ∃ r, pre ++ r = linesB s.data.toList) (gf := 44) (lb := #[.pointer (some ⟨Bn, 0, none⟩)]) rfl (enters_of Try.func44 (by kernel_rfl) rfl) (encs := fun l => #[.string (strOf l)]) (fun _ => rfl) (by omega) (fun b hb => by omega)
    (fun W hW => lines_iter s Bn w.heap.size (w.heap.size + 1) W hs ((hW.cell (p := ⟨Bn, 0, none⟩) (by simp; omega)).trans ((HB0.out.cell (p := ⟨Bn, 0, none⟩) hBW).trans HC.out)) ((hW.frozen (p := ⟨Bn, 0, none⟩) (by simp; omega)).trans ((HB0.out.frozen (p := ⟨Bn, 0, none⟩) hBW).trans HF.out)) hBW (by have := hW.size; omega) (by have := hW.size; omega))
    (fun T pre W => SeqAt w Bn T pre W) (fun _ _ _ => False)
    (fun T pre A B h hk => h.next hk hBW) (fun _ _ _ _ h _ => h)
    (fun T B hT hk => ⟨⟨_, (hk.block _ HK0.out.lt (by omega)).trans HK0.out, World.ownsRow_nil _ _ _ _, fun g hg => by cases hg⟩, hT, (KX.of_below HB0.out).trans hk⟩)
    (fun x => { tmps := #[.slice none 0 0, .func (.func 44) #[] #[.pointer (some ⟨Bn, 0, none⟩)], .pointer (some ⟨w.heap.size, 0, none⟩), undef, .slice none 0 0, .string (strOf x), .func (.func 44) #[] #[.pointer (some ⟨Bn, 0, none⟩)], .string (strOf x), undef, undef, undef, undef, undef], defers := [] }) ?assign ?body ?done ?stop
  case assign =>
    intro l x W K hK
    gi_wp2
    exact hK
  case body =>
    rintro T hT l pre x W ⟨r, hr⟩ ⟨⟨v, hv, hrow, hvT⟩, hown, hkept⟩
    have hlen : pre.length + 1 ≤ 1048576 := by
      have h1 := congrArg List.length hr
      have h2 := linesB_len s.data.toList
      have h3 : s.data.toList.length = s.size := by simp
      simp only [List.length_append, List.length_cons, List.length_nil] at h1
      omega
    have c0 := hv.cell 0
    have f0 := hv.frozen 0
    simp only [List.getElem?_cons_zero] at c0
    have hvlt := hv.lt
    obtain ⟨i0, z0, hT1, hi0, hz0', hz1, hzb, hz4, hz5⟩ := strE
    have HROW := Lib.hid hrow
    have HV := Lib.hid hv
    have HVT := Lib.hid hvT
    have HOWN := Lib.hid hown
    have HKP := Lib.hid hkept
    have HE := Lib.hid (And.intro hi0 (And.intro hz0' (And.intro hz1 (And.intro hzb hz4))))
    have HNE : Hid (v.ownBlock ≠ some w.heap.size) := Lib.hid (fun e => by have := (hrow.lt _ e).1; omega)
    clear hrow hv hvT hown hkept hi0 hz0' hz1 hzb hz4 hT1 hr
    gi_wp2_with (gi_at_builtin; refine wpListIn_append_lies _ rfl _ _ 40 rfl (w.heap.size + 1) 9 i0 z0 1 16 Try.underlying40 HE.out.1 HE.out.2.1 HE.out.2.2.1 HE.out.2.2.2.1 HE.out.2.2.2.2 (by omega) v pre.length (pre.map strVal) rfl (HROW.out.alloc _) ⟨W.heap.size, 0, none⟩ 1 1 [strVal x] rfl rfl (cell_one_new _ _ _) (by simp [Value.oneCell', strVal]) (by omega) (by unfold maxLen; omega) (by omega) (by simp; omega) (W.heap.size + 1) (by simp) ?_; intro g' cap' w1 hown' hgrow hat hglt; have c1 := (hgrow.cell_far ⟨w.heap.size, 0, none⟩ (by simp; omega) (Ne.symm HNE.out)).trans ((cell_alloc W _ _ hvlt).trans c0); have f1 := (hgrow.frozen_far ⟨w.heap.size, 0, none⟩ (by simp; omega) (Ne.symm HNE.out)).trans ((frozen_alloc W _ _ hvlt).trans f0))
    have hk1 : KX (fun b => b = Bn ∨ v.ownBlock = some b) W w1 := (KX.of_below ((Below.refl _ W).alloc (Nat.le_refl _) _)).trans ⟨hgrow.os, hgrow.tape, hgrow.output, hgrow.size, fun b hb hx => hgrow.block b hb (fun e => hx (.inr e.symm))⟩
    have hv1 : Blk w1 w.heap.size [v] 40 := (HV.out.alloc _).grown hgrow (Ne.symm HNE.out)
    have hT0 : ¬ T w.heap.size := fun h => by have := hT _ h; omega
    refine ⟨((KT.below ((Below.refl _ W).alloc (Nat.le_refl _) _)).trans (KT.grown hgrow (fun g hg => ⟨by have := (HROW.out.lt g hg).1; omega, HVT.out g hg⟩))).trans (KT.setCell _ _ (Nat.le_refl _) hT0), ⟨⟨_, hv1.set 0 _, ?_, ?_⟩, ?_, ?_⟩⟩
    · have := ownsRow_setCell_below hown' (a := ⟨w.heap.size, 0, none⟩) (by simp) (.slice (some ⟨g', 0, none⟩) (pre.length + 1) cap')
      simpa using this
    · intro g hg hTg
      have hg' : g = g' := by simpa [Value.ownBlock] using hg.symm
      subst hg'
      rcases hat with h | h
      · exact HVT.out _ h hTg
      · have := (HOWN.out _ hTg).2; omega
    · intro b hb
      have := HOWN.out b hb
      have h2 := hk1.size
      simp at h2 ⊢
      omega
    · have hz := HKP.out.size
      refine ⟨(hk1.os.trans HKP.out.os), (hk1.tape.trans HKP.out.tape), hk1.output.trans HKP.out.output, by have := hk1.size; simp at this ⊢; omega, fun b hb hx => ?_⟩
      refine (Below.heap_setCell w1 _ _ b (by simp; omega)).trans ((hk1.block b (by omega) ?_).trans (HKP.out.block b hb hx))
      rintro (e | e)
      · exact hx e
      · have := (HROW.out.lt _ e).1; omega
  case done =>
    rintro D T xs W hD hTD rfl ⟨⟨v, hv, hrow, hvT⟩, hown, hkept⟩ hK
    obtain ⟨A, c, rfl⟩ : ∃ A c, v = .slice A (linesB s.data.toList).length c := by
      rcases hrow.2 with ⟨h1, h2⟩ | ⟨g, cap, cur, h1, _⟩
      · exact ⟨_, _, by rw [h1, h2]⟩
      · exact ⟨_, _, h1⟩
    have c0 := hv.cell 0
    simp only [List.getElem?_cons_zero] at c0
    have HROW := Lib.hid hrow
    have HVT := Lib.hid hvT
    have HKP := Lib.hid hkept
    have HKD := Lib.hid hK
    have HD := Lib.hid hD
    have HTD := Lib.hid hTD
    clear hrow hv hvT hown hkept hK hD hTD
    go_wp2_with fail
    refine ⟨by simp, .inl ⟨_, _, rfl, run_takeDeferred HKD.out, ?_⟩⟩
    have hz := HKP.out.size
    have hD := HD.out
    refine ⟨.slice A (linesB s.data.toList).length c, by simp [results, Try.f43, go_sem], A, c, rfl, ?_, ?_⟩
    · exact own_kx HROW.out (KX.putObj W (X := fun b => b = D) rfl _) (fun g hg e => HVT.out g hg (e ▸ HTD.out))
    · exact ⟨HKP.out.os, HKP.out.tape, HKP.out.output, by simpa using HKP.out.size, fun b hb hx => (World.putObj_heap_other (by omega)).trans (HKP.out.block b hb hx)⟩
  case stop =>
    rintro D c pre W hD _ h
    exact h.elim

theorem linesGives (s : ByteArray) (w : World) : Calls Try.prog 37 #[.string s] w fun e w' => e = .returned (.func (.func 44) #[] #[.pointer (some ⟨w.heap.size, 0, none⟩)]) ∧ w.alloc (.cells #[.string s] 9) = w' := by
  go_enter Try.func37, Try.ntmps37
  go_wp2_with fail
  go_ret
  exact ⟨rfl, rfl⟩
theorem collect_of (Bn : Nat) (w : World) (R : Ending → World → Prop)
    (h : Calls Try.prog 43 #[.slice none 0 0, .func (.func 44) #[] #[.pointer (some ⟨Bn, 0, none⟩)]] w fun e w' => ∃ A n c, e = .returned (.slice A n c) ∧ R e w') :
    Calls Try.prog 36 #[.func (.func 44) #[] #[.pointer (some ⟨Bn, 0, none⟩)]] w R := by
  have H := Lib.hid h
  clear h
  go_enter Try.func36, Try.ntmps36
  go_wp2_with fail
  refine H.out.mono ?_
  rintro e w1 ⟨A, n, c, rfl, hr⟩
  have HR := Lib.hid hr
  clear hr
  go_wp2_with fail
  exact HR.out
/-- Texts handed out, in memory of the call's own. -/
def TxtOut (w : World) (ls : List Ln) (e : Ending) (w' : World) : Prop := ∃ A c, e = .returned (.slice A ls.length c) ∧ ls.length ≤ c ∧ TxtAt w' w.heap.size w'.heap.size A ls ∧ Below w.heap.size w w'
theorem lines_any (s : ByteArray) (w : World) (hs : s.size ≤ 1048576) : Calls Try.prog 25 #[.string s] w (TxtOut w (linesB s.data.toList)) := by
  go_enter Try.func25, Try.ntmps25
  have hc : (w.alloc (.cells #[.string s] 9)).cell? ⟨w.heap.size, 0, none⟩ = some (.string s) := (Blk.new w [.string s] 9).cell 0
  have hf : (w.alloc (.cells #[.string s] 9)).frozen? ⟨w.heap.size, 0, none⟩ = false := (Blk.new w [.string s] 9).frozen 0
  have HA := Lib.hid (collect_of w.heap.size _ (TxtOut w (linesB s.data.toList)) ((appendSeq_lines s w.heap.size _ hs hc hf (by simp)).mono (by
    rintro e w1 ⟨A, c, rfl, hown, hk⟩
    obtain ⟨h1, h2, h3⟩ := TxtAt.of_own hown
    refine ⟨A, _, c, rfl, A, c, rfl, h3, h1.wide (by simp; omega) (Nat.le_refl _), ?_⟩
    exact ⟨hk.os, hk.tape, hk.output, by have := hk.size; simp at this; omega, fun b hb => (hk.block b (by simp; omega) (by omega)).trans (Below.heap_alloc w _ b hb)⟩)))
  clear hc hf
  go_wp2_with fail
  refine (linesGives s _).mono ?_
  rintro e w1 ⟨rfl, rfl⟩
  go_wp2_with fail
  refine HA.out.mono ?_
  rintro e w1 ⟨A, c, rfl, h1, h2, h3⟩
  have H2 := Lib.hid h2
  have H3 := Lib.hid h3
  clear h2 h3
  go_wp2_with fail
  go_ret
  exact ⟨A, c, rfl, h1, H2.out, H3.out⟩
end Go.Proofs.Ytakolehlaejhfaa
