/- SpoilDoc: what is written over is one's own. -/
import Derived.Test.YtaojlnibkajfbaaDoorDocRow
import Derived.StillTailTactics
import Derived.Deep.RegionHeld3
namespace Go.Proofs.YtaojlnibkajfbaaDoor
section
open Go.RowKit
set_option maxRecDepth 100000
set_option linter.unusedVariables false
set_option linter.unusedSimpArgs false

def SamIn (d : Doc) : Prop := ∀ (kv1 kv2 : Value) (w : World), KV w 0 w.heap.size d kv1 → KV w 0 w.heap.size d kv2 → d.bulk ≤ 4194304 →
    Calls Tryd.prog 14 #[docV d kv1, docV d kv2] w fun e w' => e = .returned (.bool true) ∧ Below w.heap.size w w'

set_option maxHeartbeats 4000000 in
theorem sameDoc_any (d : Doc) : SamIn d := by
  refine Doc.ind (P := SamIn) (fun d ih => ?_) d
  intro kv1 kv2 w hk1 hk2 hb
  obtain ⟨a1, cap1, rfl⟩ := hk1.slice
  obtain ⟨a2, cap2, rfl⟩ := hk2.slice
  have hkid1 := fun j hj => hk1.kid (j := j) hj
  have hkid2 := fun j hj => hk2.kid (j := j) hj
  have hmem : ∀ j (hj : j < d.kids.length), SamIn d.kids[j] ∧ (d.kids[j]).bulk ≤ 4194304 := fun j hj => ⟨ih _ (List.getElem_mem hj), by have := Doc.kid_bulk (List.getElem_mem hj); omega⟩
  have hlen : d.kids.length < 4194304 := by have := d.kids_len; omega
  obtain ⟨len, hlen2⟩ : ∃ z, z = d.kids.length := ⟨_, rfl⟩
  rw [← hlen2] at hlen
  obtain ⟨B0, hB0⟩ : ∃ B0, B0 = w.heap.size := ⟨_, rfl⟩
  obtain ⟨W0, hW0⟩ : ∃ W0, W0 = (w.alloc (.cells (docCells d (.slice a1 len cap1)).toArray 24)).alloc (.cells (docCells d (.slice a2 len cap2)).toArray 24) := ⟨_, rfl⟩
  have hst : Blk W0 B0 (docCells d (.slice a1 len cap1)) 24 ∧ Blk W0 (B0 + 1) (docCells d (.slice a2 len cap2)) 24 ∧ Below w.heap.size w W0 := by
    rw [hW0]
    exact ⟨(Blk.new' _ _ hB0).alloc _, Blk.new' _ _ (by simp [hB0]), ((Below.refl _ w).alloc (Nat.le_refl _) _).alloc (by simp) _⟩
  have hn : ((d.text).toList != (d.text).toList) = false := by simp
  have HKID1 := Lib.hid hkid1
  have HKID2 := Lib.hid hkid2
  have HMEM := Lib.hid hmem
  have HLEN := Lib.hid hlen2
  have HST := Lib.hid hst
  have HW0 := Lib.hid hW0
  have HB0 := Lib.hid hB0
  clear hk1 hk2 hkid1 hkid2 hmem ih hst hW0
  rw [← hlen2]
  clear hlen2
  unfold docV
  go_enter Tryd.func14, Tryd.ntmps14
  go_wp2_with fail
  rw [← hB0]
  clear hB0
  go_loopw [5] (fun i wr => ∃ j : Nat, j ≤ len ∧ i = .int .i64 (j : Int) ∧ Blk wr B0 (docCells d (.slice a1 len cap1)) 24 ∧ Blk wr (B0 + 1) (docCells d (.slice a2 len cap2)) 24 ∧ Below w.heap.size w wr) (fun i _ => len - (intOf i).toNat)
  case atStart =>
    refine ⟨0, Nat.zero_le _, rfl, ?_⟩
    have h := HST.out
    rw [HW0.out] at h
    exact h
  case round =>
    obtain ⟨j, hj, rfl, hb0, hb1, hbw⟩ := hrel
    have c1 := hb0.cell 2
    have c2 := hb1.cell 2
    simp only [docCells, List.getElem?_cons_zero, List.getElem?_cons_succ] at c1 c2
    have HK0 := Lib.hid hb0
    have HK1 := Lib.hid hb1
    have HBW := Lib.hid hbw
    by_cases hlt : j < len
    · have hjm : (j : Int) < (len : Int) := by omega
      have hj2 : j < d.kids.length := by rw [← HLEN.out]; exact hlt
      obtain ⟨g1, off1, rfl, _, hg1, kv1, h61, hk1⟩ := HKID1.out j hj2
      obtain ⟨g2, off2, rfl, _, hg2, kv2, h62, hk2⟩ := HKID2.out j hj2
      have h1' := h61.of (hbw.block _ hg1)
      have h2' := h62.of (hbw.block _ hg2)
      have hkw1 : KV wr.drew 0 wr.heap.size (d.kids[j]'hj2) kv1 := (((hk1.below hbw (Nat.le_refl _)).wide (Nat.le_refl _) hbw.size)).of (W := wr) (W' := wr.drew) (Nat.le_refl _) (Nat.le_refl _) (fun _ _ _ => rfl)
      have hkw2 : KV wr.drew 0 wr.heap.size (d.kids[j]'hj2) kv2 := (((hk2.below hbw (Nat.le_refl _)).wide (Nat.le_refl _) hbw.size)).of (W := wr) (W' := wr.drew) (Nat.le_refl _) (Nat.le_refl _) (fun _ _ _ => rfl)
      have HC := Lib.hid ((HMEM.out j hj2).1 kv1 kv2 wr.drew hkw1 hkw2 (HMEM.out j hj2).2)
      have p0 := h1'.kind
      have p1 := h1'.text
      have p2 := h1'.kids
      have p3 := h1'.brk
      have p4 := h1'.id
      have p5 := h1'.width
      have q0 := h2'.kind
      have q1 := h2'.text
      have q2 := h2'.kids
      have q3 := h2'.brk
      have q4 := h2'.id
      have q5 := h2'.width
      clear h61 h62 h1' h2' hk1 hk2 hkw1 hkw2 hb0 hb1 hbw
      generalize d.kids[j]'hj2 = K at *
      go_wp2_with fail
      go_still_tail 10, (by kernel_rfl)
      change wpList _ _ _ _ _ wr.drew
      go_wp2_with fail
      refine HC.out.mono ?_
      rintro e w2 ⟨rfl, hb2⟩
      have hb2' : Below wr.heap.size wr w2 := ⟨hb2.os, hb2.tape, hb2.output, hb2.size, hb2.block⟩
      have HB2 := Lib.hid (HBW.out.call hb2')
      have HK02 := Lib.hid (HK0.out.below hb2')
      have HK12 := Lib.hid (HK1.out.below hb2')
      clear hb2 hb2' p0 p1 p2 p3 p4 p5 q0 q1 q2 q3 q4 q5 c1 c2
      go_wp2_with fail
      go_roundw
      case rel => exact ⟨j + 1, by omega, by go_num, HK02.out, HK12.out, HB2.out⟩
      case measure => simp [intOf]; omega
    · have hjm : (len : Int) ≤ (j : Int) := by omega
      clear hb0 hb1 hbw
      go_wp2_with fail
      go_ret
      exact ⟨rfl, HBW.out⟩
end

section
open Go.RowKit
set_option maxRecDepth 100000
set_option linter.unusedVariables false
set_option linter.unusedSimpArgs false

theorem add0_id : (fun x : Addr => x.add 0) = id := by funext x; unfold Addr.add; split <;> simp_all
def markD : Doc := eDoc (-7) []
def roomX : SlX := fun W g off n cap => n + 2 ≤ cap ∧ Six W g (off + n * 6) markD (.slice none 0 0) ∧ Six W g (off + (n + 1) * 6) markD (.slice none 0 0)
theorem roomX_stab : roomX.Stab := fun W W' g off n cap h e => ⟨h.1, h.2.1.of e, h.2.2.of e⟩
def KR := KG true roomX
theorem RowD.lent {W W1 W' : World} {B : Nat} {l : List (Doc × Value)} {v : Value} {D : Doc} {gg cap : Nat} (h : RowD true roomX W B l v) (hb : Below W.heap.size W W1) (o : Obj)
    (hown : W'.ownsRow B 24 6 (.slice (some ⟨gg, 0, none⟩) (l.length + 2) cap) (l.length + 2) (docsCells l ++ docsCells [(markD, .slice none 0 0), (markD, .slice none 0 0)])) (hg : (W1.alloc o).grownBy W' v.ownBlock) (hat : v.ownBlock = some gg ∨ gg = W1.heap.size + 1) (hD : D.kids = l.map Prod.fst) :
    KR W' B W'.heap.size D (.slice (some ⟨gg, 0, none⟩) l.length cap) := by
  have hk := h.grow roomX_stab hb o hg (v' := .slice (some ⟨gg, 0, none⟩) (l.length + 2) cap) (gg := gg) rfl hat
  have hlt := hown.lt gg rfl
  have hcap : l.length + 2 ≤ cap := by
    rcases hown.2 with ⟨e, _⟩ | ⟨g, c, cur, e, _, _, h4, _⟩
    · cases e
    · injection e with e1 e2 e3; omega
  have ho2 : W'.ownsRow B 24 6 (.slice (some ⟨gg, 0, none⟩) (l.length + 2) cap) (l.length + 2) (docsCells (l ++ [(markD, .slice none 0 0), (markD, .slice none 0 0)])) := by
    have e : docsCells (l ++ [(markD, .slice none 0 0), (markD, .slice none 0 0)]) = docsCells l ++ docsCells [(markD, .slice none 0 0), (markD, .slice none 0 0)] := by simp [docsCells]
    rw [e]; exact hown
  have hcell : ∀ (j : Nat) (hj : j < (l ++ [(markD, Value.slice none 0 0), (markD, .slice none 0 0)]).length) c, c < 6 → W'.cell? ⟨gg, 0 + j * 6 + c, none⟩ = (docCells ((l ++ [(markD, Value.slice none 0 0), (markD, .slice none 0 0)])[j]).1 ((l ++ [(markD, Value.slice none 0 0), (markD, .slice none 0 0)])[j]).2)[c]? := fun j hj c h6 => by
    have hj' : j < l.length + 2 := by simpa using hj
    rw [Nat.zero_add, ho2.cellAt (j * 6 + c) (by omega), docsCells_at _ j c hj h6]
  have hsix : ∀ (j : Nat) (hj : j < (l ++ [(markD, Value.slice none 0 0), (markD, .slice none 0 0)]).length), Six W' gg (0 + j * 6) ((l ++ [(markD, Value.slice none 0 0), (markD, .slice none 0 0)])[j]).1 ((l ++ [(markD, Value.slice none 0 0), (markD, .slice none 0 0)])[j]).2 := fun j hj =>
    ⟨hcell j hj 0 (by omega), hcell j hj 1 (by omega), hcell j hj 2 (by omega), hcell j hj 3 (by omega), hcell j hj 4 (by omega), hcell j hj 5 (by omega)⟩
  have hdl : D.kids.length = l.length := by rw [hD, List.length_map]
  unfold KR
  rw [KG_iff]
  refine ⟨_, _, by rw [hdl], by omega, fun _ => ⟨gg, 0, rfl, hlt.1, hlt.2, ⟨by omega, ?_, ?_⟩, EG_iff.2 fun j hj => ?_⟩⟩
  · have := hsix l.length (by simp)
    rw [hdl]
    simpa using this
  · have := hsix (l.length + 1) (by simp)
    rw [hdl]
    simpa using this
  · have hjl : j < l.length := by omega
    have e : D.kids[j] = (l[j]).1 := by simp [hD]
    rw [e]
    obtain ⟨lo, hi, h1, h2, h3, _⟩ := hk _ (List.getElem_mem hjl)
    have := hsix j (by simp; omega)
    rw [List.getElem_append_left hjl] at this
    exact ⟨(l[j]).2, this, h3.wide roomX_stab h1 h2⟩

def LenIn (d : Doc) : Prop := ∀ (kv : Value) (w : World), KV w 0 w.heap.size d kv → d.bulk ≤ 4194304 →
    Calls Tryd.prog 11 #[docV d kv] w fun e w' => ∃ kv', e = .returned (docV d kv') ∧ KR w' w.heap.size w'.heap.size d kv' ∧ Below w.heap.size w w'
set_option maxHeartbeats 8000000 in
theorem lendDoc_any (d : Doc) : LenIn d := by
  refine Doc.ind (P := LenIn) (fun d ih => ?_) d
  intro kv w hk hb
  obtain ⟨a, cap, rfl⟩ := hk.slice
  have hkid := fun j hj => hk.kid (j := j) hj
  have hmem : ∀ j (hj : j < d.kids.length), LenIn d.kids[j] ∧ (d.kids[j]).bulk ≤ 4194304 := fun j hj => ⟨ih _ (List.getElem_mem hj), by have := Doc.kid_bulk (List.getElem_mem hj); omega⟩
  have hlen : d.kids.length < 4194304 := by have := d.kids_len; omega
  obtain ⟨len, hlen2⟩ : ∃ z, z = d.kids.length := ⟨_, rfl⟩
  rw [← hlen2] at hlen
  obtain ⟨B0, hB0⟩ : ∃ B0, B0 = w.heap.size := ⟨_, rfl⟩
  obtain ⟨W0, hW0⟩ : ∃ W0, W0 = ((w.alloc (.cells (docCells d (.slice a len cap)).toArray 24)).alloc (.cells (docCells (eDoc 0 []) (.slice none 0 0)).toArray 24)).alloc (.cells (docCells d (.slice a len cap)).toArray 24) := ⟨_, rfl⟩
  have hst : Blk W0 B0 (docCells d (.slice a len cap)) 24 ∧ Blk W0 (B0 + 1) (docCells (eDoc 0 []) (.slice none 0 0)) 24 ∧ Blk W0 (B0 + 1 + 1) (docCells d (.slice a len cap)) 24 ∧ Below w.heap.size w W0 := by
    rw [hW0]
    exact ⟨((Blk.new' _ _ hB0).alloc _).alloc _, (Blk.new' _ _ (by simp [hB0])).alloc _, Blk.new' _ _ (by simp [hB0]), (((Below.refl _ w).alloc (Nat.le_refl _) _).alloc (by simp) _).alloc (by simp; omega) _⟩
  have HKID := Lib.hid hkid
  have HMEM := Lib.hid hmem
  have HLEN := Lib.hid hlen2
  have HST := Lib.hid hst
  have HW0 := Lib.hid hW0
  have HB0 := Lib.hid hB0
  clear hk hkid hmem ih hst hW0
  rw [← hlen2]
  clear hlen2
  unfold docV
  go_enter Tryd.func11, Tryd.ntmps11
  go_wp2_with fail
  rw [← hB0]
  clear hB0
  go_loopw [4, 5] (fun o i wr => ∃ (j : Nat) (l : List (Doc × Value)) (A : Option Addr) (c : Nat), j ≤ len ∧ i = .int .i64 (j : Int) ∧ o = .slice A l.length c ∧ l.map Prod.fst = d.kids.take j ∧
      Blk wr B0 (docCells d (.slice a len cap)) 24 ∧ Blk wr (B0 + 1) (docCells (eDoc 0 []) (.slice none 0 0)) 24 ∧ Blk wr (B0 + 1 + 1) (docCells d (.slice a len cap)) 24 ∧ RowD true roomX wr (B0 + 3) l (.slice A l.length c) ∧ Below w.heap.size w wr) (fun _ i _ => len - (intOf i).toNat)
  case atStart =>
    have h := HST.out
    rw [HW0.out] at h
    exact ⟨0, [], none, 0, Nat.zero_le _, rfl, rfl, by simp, h.1, h.2.1, h.2.2.1, RowD.nil _ _, h.2.2.2⟩
  case round =>
    obtain ⟨j, l, A, c, hj, rfl, rfl, hl, hb0, hb1, hb2, hrow, hbw⟩ := hrel
    have hll : l.length = j := by have := congrArg List.length hl; rw [List.length_map, List.length_take] at this; have := HLEN.out; omega
    have HL := Lib.hid hl
    have HLL := Lib.hid hll
    have hlb : l.length < 4194304 := by omega
    have HK0 := Lib.hid hb0
    have HK1 := Lib.hid hb1
    have HK2 := Lib.hid hb2
    have HROW := Lib.hid hrow
    have HBW := Lib.hid hbw
    have hB2w : B0 + 1 + 1 < wr.heap.size := hb2.lt
    have c2 := hb0.cell 2
    simp only [docCells, List.getElem?_cons_zero, List.getElem?_cons_succ] at c2
    obtain ⟨i0, z0, hT1, hi0, hz0, hz1, hzb, hz4, hz5⟩ := docE
    have HE := Lib.hid (And.intro hi0 (And.intro hz0 (And.intro hz1 (And.intro hzb hz4))))
    clear hi0 hz0 hz1 hzb hz4 hT1
    by_cases hlt : j < len
    · have hjm : (j : Int) < (len : Int) := by omega
      have hj2 : j < d.kids.length := by rw [← HLEN.out]; exact hlt
      obtain ⟨gk, offk, rfl, _, hgk, kvk, h6, hk2⟩ := HKID.out j hj2
      have h6' := h6.of (hbw.block _ hgk)
      have hkw : KV wr 0 wr.heap.size (d.kids[j]'hj2) kvk := (hk2.below hbw (Nat.le_refl _)).wide (Nat.le_refl _) hbw.size
      have HC := Lib.hid ((HMEM.out j hj2).1 kvk wr hkw (HMEM.out j hj2).2)
      have p0 := h6'.kind
      have p1 := h6'.text
      have p2 := h6'.kids
      have p3 := h6'.brk
      have p4 := h6'.id
      have p5 := h6'.width
      have hx := List.getElem?_eq_getElem hj2
      clear h6 h6' hk2 hkw hl hll hb0 hb1 hb2 hrow hbw
      generalize d.kids[j]'hj2 = K at *
      have HX := Lib.hid hx
      clear hx
      go_wp2_with (first
        | (at_builtin; refine wpList_append_lies _ rfl (.tmp 14) (.tmp 21) 22 rfl (B0 + 3) 24 i0 z0 6 72 Tryd.underlying22 HE.out.1 HE.out.2.1 HE.out.2.2.1 HE.out.2.2.2.1 HE.out.2.2.2.2 (by omega) (.slice A l.length c) l.length (docsCells l) rfl ((own_below HROW.out.own HB2.out).alloc _) ⟨w2.heap.size, 0, none⟩ 1 1 (docCells K (.slice a' K.kids.length c')) rfl rfl (World.news_of_block (cs := (docCells K (.slice a' K.kids.length c')).toArray) (t := 24) (fr := (0, 0)) (heap_alloc_new w2 _)) (by simp [Value.oneCell', docCells]) (by omega) (by unfold maxLen; omega) (by omega) (by simp; omega) (w2.heap.size + 1) (by simp) ?_; intro gg cap' w3 hown hgrow hat hgg; have HO3 := Lib.hid hown; have HG3 := Lib.hid hgrow; have HAT := Lib.hid hat; clear hown hgrow hat)
        | (go_at_call 11; refine HC.out.mono ?_; rintro e w2 ⟨kv2, rfl, hkr2, hb2⟩; have HKR2 := Lib.hid hkr2; have HB2 := Lib.hid hb2; have hz2 := hb2.size; obtain ⟨a', c', rfl⟩ := (KG.kv hkr2).slice; clear hkr2 hb2 c2 p0 p1 p2 p3 p4 p5; unfold docV))
      have hrow2 := HROW.out.push roomX_stab HB2.out (by omega) (Nat.le_refl _) (Nat.le_refl _) HKR2.out _ HO3.out HG3.out (gg := gg) rfl HAT.out
      have HROW2 := Lib.hid hrow2
      have hvne : ∀ x, (Value.slice A l.length c).ownBlock = some x → B0 + 3 ≤ x := fun x hx => (HROW.out.own.lt x hx).1
      have hK0 := ((HK0.out.below HB2.out).alloc (.cells (docCells K (.slice a' K.kids.length c')).toArray 24)).grown HG3.out (fun e => by have := hvne _ e.symm; omega)
      have hK1 := ((HK1.out.below HB2.out).alloc (.cells (docCells K (.slice a' K.kids.length c')).toArray 24)).grown HG3.out (fun e => by have := hvne _ e.symm; omega)
      have hK2 := ((HK2.out.below HB2.out).alloc (.cells (docCells K (.slice a' K.kids.length c')).toArray 24)).grown HG3.out (fun e => by have := hvne _ e.symm; omega)
      have hBB := ((HBW.out.call HB2.out).alloc (by have := HBW.out.size; omega) (.cells (docCells K (.slice a' K.kids.length c')).toArray 24)).grown HG3.out (by have := HBW.out.size; simp; omega) (fun x hx => by have := hvne _ hx; have := HB0.out; omega)
      have HK02 := Lib.hid hK0
      have HK12 := Lib.hid hK1
      have HK22 := Lib.hid hK2
      have HBB := Lib.hid hBB
      clear hrow2 hvne hK0 hK1 hK2 hBB
      go_roundw
      case rel => exact ⟨j + 1, l ++ [(K, .slice a' K.kids.length c')], some ⟨gg, 0, none⟩, cap', by omega, by go_num, by simp, by rw [List.map_append, HL.out, List.take_add_one, HX.out]; rfl, HK02.out, HK12.out, HK22.out, by rw [List.length_append]; exact HROW2.out, HBB.out⟩
      case measure => simp [intOf]; omega
    · have hjm : (len : Int) ≤ (j : Int) := by omega
      have hje : l.length = len := by omega
      have HJE := Lib.hid hje
      have hD : d.kids = l.map Prod.fst := by rw [hl, List.take_of_length_le (by have := HLEN.out; omega)]
      have HD := Lib.hid hD
      have HSL : Hid (∀ (g cc : Nat) (W : World), l.length + 2 ≤ cc → (Instr.slice 22 (.slice (some ⟨g, 0, none⟩) (l.length + 2) cc) none (some (.int .i64 (len : Int))) none).run Tryd.prog W = .ok (.slice (some ⟨g, 0, none⟩) l.length cc) W) := Lib.hid (by
        intro g cc W hcc
        rw [show ((len : Nat) : Int) = (l.length : Int) by omega]
        rw [run_slice_h _ _ _ _ _ (by kernel_rfl) _ _ (by omega) (by omega)]
        have hel : Tryd.prog.elem 22 = 24 := by kernel_rfl
        rw [hel, Tryd.sizeOf24]
        simp only [sliced, Result.andThen, add0_id, Int.toNat_natCast]
        simp)
      have hvne : ∀ x, (Value.slice A l.length c).ownBlock = some x → B0 + 3 ≤ x := fun x hx => (hrow.own.lt x hx).1
      have HVNE := Lib.hid hvne
      have hne : (Value.slice A l.length c).ownBlock ≠ some B0 := fun e => by have := hvne B0 e; omega
      have hne2 : (Value.slice A l.length c).ownBlock ≠ some (B0 + 1 + 1) := fun e => by have := hvne _ e; omega
      have HNE := Lib.hid hne
      have HNE2 := Lib.hid hne2
      have d2 := hb2.cell 2
      have f2 := hb2.frozen 2
      simp only [docCells, List.getElem?_cons_zero, List.getElem?_cons_succ] at d2
      have hB0w : B0 < wr.heap.size := by omega
      have h0 := fun o => (alloc_cell wr.drew o ⟨B0, 2, none⟩ (by simp; omega)).trans (show wr.drew.cell? _ = _ from c2)
      have k0 := fun o => (alloc_cell wr.drew o ⟨B0 + 1 + 1, 2, none⟩ (by simp; omega)).trans (show wr.drew.cell? _ = _ from d2)
      have e0 := fun o => (alloc_frozen wr.drew o ⟨B0 + 1 + 1, 2, none⟩ (by simp; omega)).trans (show wr.drew.frozen? _ = _ from f2)
      clear hl hll hb0 hb1 hb2 hrow hbw hje hD hvne hne hne2
      go_wp2_with fail
      go_region_held3 (fun w' => w'.cell? ⟨B0, 2, none⟩ = some (.slice a len cap))
        (first
          | go_keep
          | exact h0 _
          | exact m0
          | exact q0)
        ((refine step_append_lies _ (by rfl) _ _ _ (by rfl) (B0 + 3) 24 i0 z0 6 72 Tryd.underlying22 HE.out.1 HE.out.2.1 HE.out.2.2.1 HE.out.2.2.2.1 HE.out.2.2.2.2 (by omega) (.slice A l.length c) l.length (docsCells l) (by rfl) ((show wr.drew.ownsRow _ _ _ _ _ _ from HROW.out.own).alloc _) ⟨wr.heap.size, 0, none⟩ 2 2 (docsCells [(markD, .slice none 0 0), (markD, .slice none 0 0)]) (by rfl) (by rfl) (World.news_of_block (cs := (docsCells [(markD, .slice none 0 0), (markD, .slice none 0 0)]).toArray) (t := 24) (fr := (0, 0)) (heap_alloc_new wr.drew _)) (by simp [Value.oneCell', docsCells, docCells]) (by omega) (by unfold maxLen; omega) (by omega) (by simp; omega) (wr.heap.size + 1) (by simp) ?_; intro gg cap' w3 hown hgrow hat hgg; have HO3 := Lib.hid hown; have HG3 := Lib.hid hgrow; have HAT := Lib.hid hat; have m0 := (hgrow.cell_far ⟨B0, 2, none⟩ (by simp; omega) (Ne.symm HNE.out)).trans (h0 _); have m2 := (hgrow.cell_far ⟨B0 + 1 + 1, 2, none⟩ (by simp; omega) (Ne.symm HNE2.out)).trans (k0 _); have n2 := (hgrow.frozen_far ⟨B0 + 1 + 1, 2, none⟩ (by simp; omega) (Ne.symm HNE2.out)).trans (e0 _); have hcc : l.length + 2 ≤ cap' := (by rcases hown.2 with ⟨e, _⟩ | ⟨g, c, cur, e, _, _, h4, _⟩; cases e; injection e with e1 e2 e3; omega); have hsl := fun W => HSL.out gg cap' W hcc; have q0 := (World.cell?_setCell_other w3 ⟨B0 + 1 + 1, 2, none⟩ ⟨B0, 2, none⟩ (.slice (some ⟨gg, 0, none⟩) l.length cap') (by intro h; have g2 := congrArg Addr.block h; simp at g2; omega)).trans m0; clear hown hgrow hat))
      clear h0 k0 e0 hsl m0 q0 c2
      have hvnb : ∀ b, b < B0 + 3 → some b ≠ (Value.slice A l.length c).ownBlock := fun b hb e => by have := HVNE.out b e.symm; omega
      have hlent := HROW.out.lent ((Below.refl _ wr).drew) _ HO3.out HG3.out HAT.out HD.out
      have hK1 := ((((show Blk wr.drew _ _ _ from HK1.out).alloc (.cells (docsCells [(markD, .slice none 0 0), (markD, .slice none 0 0)]).toArray 24)).grown HG3.out (hvnb _ (by omega))).set_other (a := ⟨B0 + 1 + 1, 2, none⟩) (by simp) (.slice (some ⟨gg, 0, none⟩) l.length cap'))
      have hK2 := (((show Blk wr.drew _ _ _ from HK2.out).alloc (.cells (docsCells [(markD, .slice none 0 0), (markD, .slice none 0 0)]).toArray 24)).grown HG3.out (hvnb _ (by omega))).set 2 (.slice (some ⟨gg, 0, none⟩) l.length cap')
      simp only [docCells, List.set_cons_succ, List.set_cons_zero] at hK2
      have hBB : Below w.heap.size w (w3.setCell ⟨B0 + 1 + 1, 2, none⟩ (.slice (some ⟨gg, 0, none⟩) l.length cap')) := by
        have hs := HBW.out.size
        have h0 := HB0.out
        exact Below.setCell (p := ⟨B0 + 1 + 1, 2, none⟩) (((HBW.out.drew.alloc (by simp; omega) (.cells (docsCells [(markD, .slice none 0 0), (markD, .slice none 0 0)]).toArray 24)).grown HG3.out (by simp; omega) (fun x hx => by have := HVNE.out x hx; omega))) (by simp; omega) _
      have hlent2 : KR (w3.setCell ⟨B0 + 1 + 1, 2, none⟩ (.slice (some ⟨gg, 0, none⟩) l.length cap')) (B0 + 3) w3.heap.size d (.slice (some ⟨gg, 0, none⟩) l.length cap') := KG.of roomX_stab (Nat.le_refl _) (Nat.le_refl _) (fun b hb _ => Below.heap_setCell w3 _ _ b (by simp; omega)) hlent
      have hz5 : w3.heap.size ≤ (w3.setCell ⟨B0 + 1 + 1, 2, none⟩ (.slice (some ⟨gg, 0, none⟩) l.length cap')).heap.size := by simp
      have HKF1 := Lib.hid hK1
      have HKF2 := Lib.hid hK2
      have HBB := Lib.hid hBB
      have HLEN2 := Lib.hid hlent2
      have HZ5 := Lib.hid hz5
      clear hvnb hlent hK1 hK2 hBB hlent2 hz5 HK0 HK1 HK2 HROW HO3 HG3 HAT m2 n2 d2 f2
      generalize w3.setCell ⟨B0 + 1 + 1, 2, none⟩ (.slice (some ⟨gg, 0, none⟩) l.length cap') = W5 at *
      have q0 := HKF2.out.cell 0; have q1 := HKF2.out.cell 1; have q2 := HKF2.out.cell 2; have q3 := HKF2.out.cell 3; have q4 := HKF2.out.cell 4; have q5 := HKF2.out.cell 5
      have r0 := HKF1.out.cell 0; have r1 := HKF1.out.cell 1; have r2 := HKF1.out.cell 2; have r3 := HKF1.out.cell 3; have r4 := HKF1.out.cell 4; have r5 := HKF1.out.cell 5
      have s0 := HKF1.out.frozen 0; have s1 := HKF1.out.frozen 1; have s2 := HKF1.out.frozen 2; have s3 := HKF1.out.frozen 3; have s4 := HKF1.out.frozen 4; have s5 := HKF1.out.frozen 5
      simp only [docCells, List.getElem?_cons_zero, List.getElem?_cons_succ] at q0 q1 q2 q3 q4 q5
      simp only [docCells, eDoc, Doc.kind, Doc.text, Doc.brk, Doc.id, Doc.width, List.getElem?_cons_zero, List.getElem?_cons_succ] at r0 r1 r2 r3 r4 r5
      go_wp2_with fail
      refine bodyPost_ret (v := docV d (.slice (some ⟨gg, 0, none⟩) l.length cap')) (by simp [results, Tryd.f11, go_sem, docV, r0, r1, r2, r3, r4, r5]) rfl ⟨_, rfl, ?_, ?_⟩
      · have h0 := HB0.out
        refine KG.of roomX_stab (by omega) ?_ (fun b hb hb2 => set6_heap W5 (B0 + 1) b _ _ _ _ _ _ (by omega)) HLEN2.out
        have := HZ5.out
        simpa using this
      · exact set6_below HBB.out (B0 + 1) _ _ _ _ _ _ (by have := HB0.out; omega)
end

section
open Go.RowKit
set_option maxRecDepth 100000
set_option linter.unusedVariables false
set_option linter.unusedSimpArgs false

def RooIn (d : Doc) : Prop := ∀ (kv : Value) (w : World), KR w 0 w.heap.size d kv → d.bulk ≤ 4194304 →
    Calls Tryd.prog 32 #[docV d kv] w fun e w' => e = .returned (.bool true) ∧ Below w.heap.size w w'
theorem markSame (w : World) : Calls Tryd.prog 14 #[.agg #[.int .i64 (-7), .string ⟨#[]⟩, .slice none 0 0, .bool false, .int .i64 0, .int .i64 0], .agg #[.int .i64 (-7), .string ⟨#[]⟩, .slice none 0 0, .bool false, .int .i64 0, .int .i64 0]] w fun e w' => e = .returned (.bool true) ∧ Below w.heap.size w w' :=
  sameDoc_any markD (.slice none 0 0) (.slice none 0 0) w (kv_nil rfl) (kv_nil rfl) (by decide +kernel)
set_option maxHeartbeats 8000000 in
theorem roomDoc_any (d : Doc) : RooIn d := by
  refine Doc.ind (P := RooIn) (fun d ih => ?_) d
  intro kv w hk hb
  have hk' := hk
  unfold KR at hk'
  rw [KG_iff] at hk'
  obtain ⟨a, cap, rfl, hcap, hk2⟩ := hk'
  obtain ⟨g, off, rfl, _, hg, ⟨hroom, m1, m2⟩, heg⟩ := hk2 (.inl rfl)
  rw [EG_iff] at heg
  have hmem : ∀ j (hj : j < d.kids.length), RooIn d.kids[j] ∧ (d.kids[j]).bulk ≤ 4194304 := fun j hj => ⟨ih _ (List.getElem_mem hj), by have := Doc.kid_bulk (List.getElem_mem hj); omega⟩
  have hlen : d.kids.length < 4194304 := by have := d.kids_len; omega
  obtain ⟨len, hlen2⟩ : ∃ z, z = d.kids.length := ⟨_, rfl⟩
  rw [← hlen2] at hlen hroom m1 m2
  obtain ⟨B0, hB0⟩ : ∃ B0, B0 = w.heap.size := ⟨_, rfl⟩
  obtain ⟨W0, hW0⟩ : ∃ W0, W0 = w.alloc (.cells (docCells d (.slice (some ⟨g, off, none⟩) len cap)).toArray 24) := ⟨_, rfl⟩
  have hst : Blk W0 B0 (docCells d (.slice (some ⟨g, off, none⟩) len cap)) 24 ∧ Below w.heap.size w W0 := by
    rw [hW0]
    exact ⟨Blk.new' _ _ hB0, (Below.refl _ w).alloc (Nat.le_refl _) _⟩
  have HM1 := Lib.hid m1
  have HM2 := Lib.hid m2
  have HEG := Lib.hid heg
  have HMEM := Lib.hid hmem
  have HLEN := Lib.hid hlen2
  have HST := Lib.hid hst
  have HW0 := Lib.hid hW0
  have HB0 := Lib.hid hB0
  have hsl : ∀ W, (Instr.slice 22 (.slice (some ⟨g, off, none⟩) len cap) none (some (.int .i64 ((len : Int) + 2))) none).run Tryd.prog W = .ok (.slice (some ⟨g, off, none⟩) (len + 2) cap) W := by
    intro W
    rw [run_slice_h _ _ _ _ _ (by kernel_rfl) _ _ (by omega) (by omega)]
    have hel : Tryd.prog.elem 22 = 24 := by kernel_rfl
    rw [hel, Tryd.sizeOf24]
    have e2 : ((len : Int) + 2).toNat = len + 2 := by omega
    simp only [sliced, Result.andThen, add0_id, e2]
    simp
  have s3 : ((len : Int) + 1).toNat = len + 1 := by omega
  have s4 : (len : Int) < (len : Int) + 2 := by omega
  have s5 : (len : Int) + 1 < (len : Int) + 2 := by omega
  have q := m1.of (hst.2.block g hg)
  have q0 := q.kind; have q1 := q.text; have q2 := q.kids; have q3 := q.brk; have q4 := q.id; have q5 := q.width
  simp only [markD, eDoc, Doc.kind, Doc.text, Doc.brk, Doc.id, Doc.width] at q0 q1 q2 q3 q4 q5
  rw [hW0] at q0 q1 q2 q3 q4 q5
  simp only [docCells] at q0 q1 q2 q3 q4 q5
  clear hk hk2 hmem ih hst hW0 m1 m2 heg q hcap
  rw [← hlen2]
  clear hlen2
  unfold docV
  go_enter Tryd.func32, Tryd.ntmps32
  go_wp2_with fail
  refine (markSame _).mono ?_
  rintro e w1 ⟨rfl, hb1⟩
  have hb1' : Below W0.heap.size W0 w1 := by rw [HW0.out]; exact hb1
  have HX1 := Lib.hid (HST.out.1.below hb1')
  have HB1 := Lib.hid (HST.out.2.call hb1')
  have r := HM2.out.of (HB1.out.block g hg)
  have r0 := r.kind; have r1 := r.text; have r2 := r.kids; have r3 := r.brk; have r4 := r.id; have r5 := r.width
  simp only [markD, eDoc, Doc.kind, Doc.text, Doc.brk, Doc.id, Doc.width] at r0 r1 r2 r3 r4 r5
  have c2 := HX1.out.cell 2
  simp only [docCells, List.getElem?_cons_zero, List.getElem?_cons_succ] at c2
  rw [HB0.out] at c2
  clear hb1 hb1' q0 q1 q2 q3 q4 q5 r
  go_wp2_with fail
  refine (markSame _).mono ?_
  rintro e w2 ⟨rfl, hb2⟩
  have HX2 := Lib.hid (HX1.out.below hb2)
  have HB2 := Lib.hid (HB1.out.call hb2)
  clear hb2 r0 r1 r2 r3 r4 r5 c2 hsl s3 s4 s5
  have hB0w := HB0.out
  subst hB0w
  go_wp2_with fail
  go_loopw [4] (fun i wr => ∃ j : Nat, j ≤ len ∧ i = .int .i64 (j : Int) ∧ Blk wr w.heap.size (docCells d (.slice (some ⟨g, off, none⟩) len cap)) 24 ∧ Below w.heap.size w wr) (fun i _ => len - (intOf i).toNat)
  case atStart => exact ⟨0, Nat.zero_le _, rfl, HX2.out, HB2.out⟩
  case round =>
    obtain ⟨j, hj, rfl, hbk, hbw⟩ := hrel
    have c2 := hbk.cell 2
    simp only [docCells, List.getElem?_cons_zero, List.getElem?_cons_succ] at c2
    have HB := Lib.hid hbk
    have HBW := Lib.hid hbw
    by_cases hlt : j < len
    · have hjm : (j : Int) < (len : Int) := by omega
      have hj2 : j < d.kids.length := by rw [← HLEN.out]; exact hlt
      obtain ⟨kv2, h6, hk2⟩ := HEG.out j hj2
      have h6' := h6.of (hbw.block _ hg)
      have g0 := h6'.kind
      have g1 := h6'.text
      have g2 := h6'.kids
      have g3 := h6'.brk
      have g4 := h6'.id
      have g5 := h6'.width
      have hkw : KR wr 0 wr.heap.size (d.kids[j]'hj2) kv2 := KG.wide roomX_stab (KG.below roomX_stab hk2 hbw (Nat.le_refl _)) (Nat.le_refl _) hbw.size
      have HC := Lib.hid ((HMEM.out j hj2).1 kv2 wr hkw (HMEM.out j hj2).2)
      generalize d.kids[j]'hj2 = K at *
      clear h6 h6' hk2 hbk hbw hkw
      go_wp2_with fail
      refine HC.out.mono ?_
      rintro e w3 ⟨rfl, hb3⟩
      have HB3 := Lib.hid (HBW.out.call hb3)
      have HBK3 := Lib.hid (HB.out.below hb3)
      clear hb3 c2 g0 g1 g2 g3 g4 g5
      go_wp2_with fail
      go_roundw
      case rel => exact ⟨j + 1, by omega, by go_num, HBK3.out, HB3.out⟩
      case measure => simp [intOf]; omega
    · have hjm : (len : Int) ≤ (j : Int) := by omega
      clear hbk hbw
      go_wp2_with fail
      go_ret
      exact ⟨rfl, HBW.out⟩

set_option maxHeartbeats 2000000 in
theorem keptDoc_any (d : Doc) (kv1 kv2 : Value) (w : World) (hk1 : KR w 0 w.heap.size d kv1) (hk2 : KV w 0 w.heap.size d kv2) (hb : d.bulk ≤ 4194304) :
    Calls Tryd.prog 15 #[docV d kv1, docV d kv2] w fun e w' => e = .returned (.bool true) ∧ Below w.heap.size w w' := by
  obtain ⟨a1, cap1, rfl⟩ := (KG.kv hk1).slice
  obtain ⟨a2, cap2, rfl⟩ := hk2.slice
  obtain ⟨len, hlen⟩ : ∃ len, len = d.kids.length := ⟨_, rfl⟩
  rw [← hlen] at hk1 hk2 ⊢
  clear hlen
  obtain ⟨W0, hW0⟩ : ∃ W0, W0 = (w.alloc (.cells (docCells d (.slice a1 len cap1)).toArray 24)).alloc (.cells (docCells d (.slice a2 len cap2)).toArray 24) := ⟨_, rfl⟩
  have hst : Blk W0 w.heap.size (docCells d (.slice a1 len cap1)) 24 ∧ Below w.heap.size w W0 := by
    rw [hW0]
    exact ⟨(Blk.new _ _ _).alloc _, ((Below.refl _ w).alloc (Nat.le_refl _) _).alloc (by simp) _⟩
  have hr0 : KR W0 0 W0.heap.size d (.slice a1 len cap1) := KG.wide roomX_stab (KG.below roomX_stab hk1 hst.2 (Nat.le_refl _)) (Nat.le_refl _) hst.2.size
  have hv0 := (hk2.below hst.2 (Nat.le_refl _)).wide (Nat.le_refl _) hst.2.size
  have HC := Lib.hid (sameDoc_any d _ _ W0 (KG.kv hr0) hv0 hb)
  have HR0 := Lib.hid hr0
  have HST := Lib.hid hst
  have HW0 := Lib.hid hW0
  clear hr0 hv0 hst hW0 hk1 hk2
  unfold docV at HC
  unfold docV
  go_enter Tryd.func15, Tryd.ntmps15
  go_wp2_with fail
  refine (Calls.at_world (by rw [HW0.out]; rfl) HC.out).mono ?_
  rintro e w1 ⟨rfl, hb1⟩
  have hb1' : Below W0.heap.size W0 w1 := hb1
  have bk := HST.out.1.below hb1'
  have c0 := bk.cell 0; have c1 := bk.cell 1; have c2 := bk.cell 2; have c3 := bk.cell 3; have c4 := bk.cell 4; have c5 := bk.cell 5
  simp only [docCells, List.getElem?_cons_zero, List.getElem?_cons_succ] at c0 c1 c2 c3 c4 c5
  have HB1 := Lib.hid (HST.out.2.call hb1')
  have HR1 := Lib.hid (roomDoc_any d _ w1 (KG.wide roomX_stab (KG.below roomX_stab HR0.out hb1' (Nat.le_refl _)) (Nat.le_refl _) hb1'.size) hb)
  clear hb1 hb1' bk HC
  unfold docV at HR1
  go_wp2_with fail
  refine HR1.out.mono ?_
  rintro e w2 ⟨rfl, hb2⟩
  have HB2 := Lib.hid (HB1.out.call hb2)
  clear hb2
  go_wp2_with fail
  go_ret
  exact ⟨rfl, HB2.out⟩
end

section
open Go.RowKit
set_option maxRecDepth 100000
set_option linter.unusedVariables false
set_option linter.unusedSimpArgs false

mutual
/-- A document's lists, whose kinds may be written: all blocks from lo on, below hi. -/
def SW (W : World) (lo hi : Nat) : Doc → Value → Prop
  | .mk _ _ ks _ _ _, kv => ∃ a cap, kv = .slice a ks.length cap ∧ (0 < ks.length → ∃ g off, a = some ⟨g, off, none⟩ ∧ lo ≤ g ∧ g < hi ∧ SE W lo hi g ks off)
def SE (W : World) (lo hi g : Nat) : List Doc → Nat → Prop
  | [], _ => True
  | d :: ds, off => (∃ z kv, W.cell? ⟨g, off, none⟩ = some (.int .i64 z) ∧ W.frozen? ⟨g, off, none⟩ = false ∧ W.cell? ⟨g, off + 2, none⟩ = some kv ∧ SW W lo hi d kv) ∧ SE W lo hi g ds (off + 6)
end
theorem SW_iff {W : World} {lo hi : Nat} {d : Doc} {kv : Value} : SW W lo hi d kv ↔ ∃ a cap, kv = .slice a d.kids.length cap ∧ (0 < d.kids.length → ∃ g off, a = some ⟨g, off, none⟩ ∧ lo ≤ g ∧ g < hi ∧ SE W lo hi g d.kids off) := by
  cases d
  rw [SW]
  rfl
theorem SE_iff {W : World} {lo hi g : Nat} : ∀ {ks : List Doc} {off : Nat}, SE W lo hi g ks off ↔ ∀ j, (h : j < ks.length) → ∃ z kv, W.cell? ⟨g, off + j * 6, none⟩ = some (.int .i64 z) ∧ W.frozen? ⟨g, off + j * 6, none⟩ = false ∧ W.cell? ⟨g, off + j * 6 + 2, none⟩ = some kv ∧ SW W lo hi ks[j] kv
  | [], off => by simp [SE]
  | d :: ds, off => by
    rw [SE, SE_iff]
    constructor
    · rintro ⟨h0, h1⟩ j hj
      cases j with
      | zero => rw [Nat.zero_mul, Nat.add_zero]; exact h0
      | succ j =>
        have := h1 j (by simpa using hj)
        rw [show off + 6 + j * 6 = off + (j + 1) * 6 by omega] at this
        simpa using this
    · intro h
      refine ⟨by have := h 0 (by simp); rw [Nat.zero_mul, Nat.add_zero] at this; exact this, fun j hj => ?_⟩
      have := h (j + 1) (by simpa using hj)
      rw [show off + (j + 1) * 6 = off + 6 + j * 6 by omega] at this
      simpa using this
/-- Written over from lo on, below hi: ints stay ints, slices stay. -/
structure Spd (lo hi : Nat) (w w' : World) : Prop where
  below : Below lo w w'
  high : ∀ b, hi ≤ b → w'.heap[b]? = w.heap[b]?
  int : ∀ g k z, w.cell? ⟨g, k, none⟩ = some (.int .i64 z) → ∃ z', w'.cell? ⟨g, k, none⟩ = some (.int .i64 z')
  slc : ∀ g k A m c, w.cell? ⟨g, k, none⟩ = some (.slice A m c) → w'.cell? ⟨g, k, none⟩ = some (.slice A m c)
  frz : ∀ p, w'.frozen? p = w.frozen? p
theorem Spd.refl (lo hi : Nat) (w : World) : Spd lo hi w w := ⟨Below.refl _ _, fun _ _ => rfl, fun _ _ z h => ⟨z, h⟩, fun _ _ _ _ _ h => h, fun _ => rfl⟩
theorem Spd.trans {lo hi : Nat} {a b c : World} (h : Spd lo hi a b) (k : Spd lo hi b c) : Spd lo hi a c :=
  ⟨h.below.trans k.below, fun x hx => (k.high x hx).trans (h.high x hx), fun g q z e => by
    obtain ⟨z1, e1⟩ := h.int g q z e
    exact k.int g q z1 e1, fun g q A m c e => k.slc g q A m c (h.slc g q A m c e), fun p => (k.frz p).trans (h.frz p)⟩
theorem Spd.set {lo hi b o : Nat} {w : World} {z y : Int} (hl : lo ≤ b) (hh : b < hi) (hc : w.cell? ⟨b, o, none⟩ = some (.int .i64 z)) : Spd lo hi w (w.setCell ⟨b, o, none⟩ (.int .i64 y)) := by
  have key : ∀ g k v, w.cell? ⟨g, k, none⟩ = some v → (g = b ∧ k = o) ∨ (w.setCell ⟨b, o, none⟩ (.int .i64 y)).cell? ⟨g, k, none⟩ = some v := fun g k v h => by
    by_cases e : g = b ∧ k = o
    · exact .inl e
    · refine .inr ?_
      rw [World.cell?_setCell_other _ _ _ _ (by intro h; have e1 := congrArg Addr.block h; have e2 := congrArg Addr.off h; exact e ⟨e1.symm, e2.symm⟩)]
      exact h
  refine ⟨(Below.refl lo w).setCell (p := ⟨b, o, none⟩) hl _, fun x hx => Below.heap_setCell w ⟨b, o, none⟩ _ x (by show x ≠ b; omega), fun g k x h => ?_, fun g k A m c h => ?_, fun p => by simp⟩
  · rcases key g k _ h with ⟨rfl, rfl⟩ | h'
    · exact ⟨y, World.cell?_setCell_same _ _ _ hc⟩
    · exact ⟨x, h'⟩
  · rcases key g k _ h with ⟨rfl, rfl⟩ | h'
    · rw [hc] at h; cases h
    · exact h'
theorem SW.slice {W : World} {lo hi : Nat} {d : Doc} {kv : Value} (h : SW W lo hi d kv) : ∃ a cap, kv = .slice a d.kids.length cap := by
  rw [SW_iff] at h
  obtain ⟨a, cap, e, _⟩ := h
  exact ⟨a, cap, e⟩
theorem SW.spd {W W' : World} {lo hi : Nat} (hs : Spd lo hi W W') : ∀ {d : Doc} {kv : Value}, SW W lo hi d kv → SW W' lo hi d kv := by
  intro d kv
  revert kv
  refine Doc.ind (P := fun d => ∀ {kv}, SW W lo hi d kv → SW W' lo hi d kv) (fun d ih => ?_) d
  intro kv h
  rw [SW_iff] at h ⊢
  obtain ⟨a, cap, rfl, h⟩ := h
  refine ⟨a, cap, rfl, fun h0 => ?_⟩
  obtain ⟨g, off, rfl, h1, h2, h3⟩ := h h0
  refine ⟨g, off, rfl, h1, h2, ?_⟩
  rw [SE_iff] at h3 ⊢
  intro j hj
  obtain ⟨z, kv, e1, e2, e3, e4⟩ := h3 j hj
  obtain ⟨z', e1'⟩ := hs.int _ _ _ e1
  obtain ⟨a2, cap2, rfl⟩ := e4.slice
  exact ⟨z', _, e1', by rw [hs.frz]; exact e2, hs.slc _ _ _ _ _ e3, ih _ (List.getElem_mem hj) e4⟩
theorem KG.sw {W : World} {lo hi : Nat} : ∀ {d : Doc} {kv : Value}, KW W lo hi d kv → SW W lo hi d kv := by
  intro d kv
  revert kv
  refine Doc.ind (P := fun d => ∀ {kv}, KW W lo hi d kv → SW W lo hi d kv) (fun d ih => ?_) d
  intro kv h
  unfold KW at h
  rw [KG_iff] at h
  rw [SW_iff]
  obtain ⟨a, cap, rfl, hcap, h⟩ := h
  refine ⟨a, cap, rfl, fun h0 => ?_⟩
  obtain ⟨g, off, rfl, h1, h2, hx, h3⟩ := h (.inr h0)
  refine ⟨g, off, rfl, h1, h2, ?_⟩
  rw [EG_iff] at h3
  rw [SE_iff]
  intro j hj
  obtain ⟨kv, h4, h5⟩ := h3 j hj
  exact ⟨_, kv, h4.kind, hx _, h4.kids, ih _ (List.getElem_mem hj) h5⟩

def SplIn (d : Doc) : Prop := ∀ (g off lo hi : Nat) (z : Int) (kv : Value) (w : World), w.cell? ⟨g, off, none⟩ = some (.int .i64 z) → w.frozen? ⟨g, off, none⟩ = false → w.cell? ⟨g, off + 2, none⟩ = some kv → SW w lo hi d kv → lo ≤ g → g < hi → d.bulk ≤ 4194304 →
    Calls Tryd.prog 16 #[.pointer (some ⟨g, off, none⟩)] w fun e w' => e = .returned (.tuple #[]) ∧ Spd lo hi w w'
set_option maxHeartbeats 4000000 in
theorem spoilDoc_any (d : Doc) : SplIn d := by
  refine Doc.ind (P := SplIn) (fun d ih => ?_) d
  intro g off lo hi z kv w c0 f0 c2 hsw hlo hhi hb
  obtain ⟨a, cap, rfl⟩ := hsw.slice
  have hmem : ∀ j (hj : j < d.kids.length), SplIn d.kids[j] ∧ (d.kids[j]).bulk ≤ 4194304 := fun j hj => ⟨ih _ (List.getElem_mem hj), by have := Doc.kid_bulk (List.getElem_mem hj); omega⟩
  have hlen : d.kids.length < 4194304 := by have := d.kids_len; omega
  obtain ⟨len, hlen2⟩ : ∃ z, z = d.kids.length := ⟨_, rfl⟩
  rw [← hlen2] at hlen c2
  have HMEM := Lib.hid hmem
  have HLEN := Lib.hid hlen2
  have HSW := Lib.hid hsw
  have S0 := Lib.hid (fun y : Int => Spd.set (w := w) (lo := lo) (hi := hi) (y := y) hlo hhi c0)
  have c2' := fun v => (World.cell?_setCell_other w ⟨g, off, none⟩ ⟨g, off + 2, none⟩ v (by intro h; have g2 := congrArg Addr.off h; simp at g2)).trans c2
  clear hsw hmem ih hlen2
  have C2 := Lib.hid c2
  clear c2
  go_enter Tryd.func16, Tryd.ntmps16
  go_wp2_with fail
  go_loopw [2] (fun i wr => ∃ k : Nat, k ≤ len ∧ i = .int .i64 (k : Int) ∧ Spd lo hi w wr) (fun i _ => len - (intOf i).toNat)
  case atStart => exact ⟨0, Nat.zero_le _, rfl, S0.out _⟩
  case round =>
    obtain ⟨k, hk, rfl, hsp⟩ := hrel
    have c2 := hsp.slc _ _ _ _ _ C2.out
    have HSP := Lib.hid hsp
    clear hsp c2'
    by_cases hlt : k < len
    · have hkm : (k : Int) < (len : Int) := by omega
      have hk2 : k < d.kids.length := by rw [← HLEN.out]; exact hlt
      have hsw := SW.spd HSP.out HSW.out
      rw [SW_iff] at hsw
      obtain ⟨a', cap', e, hs⟩ := hsw
      injection e with e1 e2 e3
      subst e1 e3
      obtain ⟨gk, offk, rfl, h1, h2, h3⟩ := hs (by omega)
      rw [SE_iff] at h3
      obtain ⟨zk, kvk, k1, k2, k3, k4⟩ := h3 k hk2
      have HC := Lib.hid ((HMEM.out k hk2).1 gk (offk + k * 6) lo hi zk kvk wr k1 k2 k3 k4 h1 h2 (HMEM.out k hk2).2)
      clear h3 k1 k2 k3 k4 hs e2
      go_wp2_with fail
      refine HC.out.mono ?_
      rintro e w2 ⟨rfl, hs2⟩
      have HS2 := Lib.hid (HSP.out.trans hs2)
      clear hs2 c2
      go_wp2_with fail
      go_roundw
      case rel => exact ⟨k + 1, by omega, by go_num, HS2.out⟩
      case measure => simp [intOf]; omega
    · have hkm : (len : Int) ≤ (k : Int) := by omega
      go_wp2_with fail
      go_end0
      exact ⟨rfl, HSP.out⟩
end
end Go.Proofs.YtaojlnibkajfbaaDoor
