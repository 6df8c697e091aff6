/- platenref16.spread. -/
import Derived.Test.YtaojlnibkajfbaaDoorRefForced
import Derived.Deep.RegionLaw
namespace Go.Proofs.YtaojlnibkajfbaaDoor
open Go.RowKit
set_option maxRecDepth 100000
set_option linter.unusedVariables false
set_option linter.unusedSimpArgs false

def RspIn (d : Doc) : Prop := ∀ (kv : Value) (w : World), KV w 0 w.heap.size d kv → d.shape = true → d.bulk ≤ 4194304 →
    Calls Tryd.prog 31 #[docV d kv] w fun e w' => ∃ kv', e = .returned (docV (d.sprD true) kv') ∧ KW w' w.heap.size w'.heap.size (d.sprD true) kv' ∧ Below w.heap.size w w'
set_option maxHeartbeats 16000000 in
theorem refSpr_any (d : Doc) : RspIn d := by
  refine Doc.ind (P := RspIn) (fun d ih => ?_) d
  intro kv w hk hsh hb
  obtain ⟨sh1, sh2⟩ := shape_parts hsh
  obtain ⟨a, cap, rfl⟩ := hk.slice
  have hkid := fun j hj => hk.kid (j := j) hj
  have hmem : ∀ j (hj : j < d.kids.length), RspIn d.kids[j] ∧ (d.kids[j]).bulk ≤ 4194304 ∧ (d.kids[j]).shape = true := fun j hj => ⟨ih _ (List.getElem_mem hj), by have := Doc.kid_bulk (List.getElem_mem hj); omega, sh2 _ (List.getElem_mem hj)⟩
  have hgrp : d.kind = 7 → d.kids.length = 1 := formed_group sh1
  have hlen : d.kids.length < 4194304 := by have := d.kids_len; omega
  obtain ⟨len, hlen2⟩ : ∃ z, z = d.kids.length := ⟨_, rfl⟩
  rw [← hlen2] at hlen hgrp
  obtain ⟨B0, hB0⟩ : ∃ B0, B0 = w.heap.size := ⟨_, rfl⟩
  obtain ⟨W0, hW0⟩ : ∃ W0, W0 = ((w.alloc (.cells (docCells d (.slice a len cap)).toArray 24)).alloc (.cells (docCells (eDoc 0 []) (.slice none 0 0)).toArray 24)).alloc (.cells (docCells d (.slice none 0 0)).toArray 24) := ⟨_, rfl⟩
  have hst : Blk W0 B0 (docCells d (.slice a len cap)) 24 ∧ Blk W0 (B0 + 1) (docCells (eDoc 0 []) (.slice none 0 0)) 24 ∧ Blk W0 (B0 + 1 + 1) (docCells d (.slice none 0 0)) 24 ∧ Below w.heap.size w W0 := by
    rw [hW0]
    exact ⟨((Blk.new' _ _ hB0).alloc _).alloc _, (Blk.new' _ _ (by simp [hB0])).alloc _, Blk.new' _ _ (by simp [hB0]), (((Below.refl _ w).alloc (Nat.le_refl _) _).alloc (by simp) _).alloc (by simp; omega) _⟩
  have HKID := Lib.hid hkid
  have HMEM := Lib.hid hmem
  have HLEN := Lib.hid hlen2
  have HST := Lib.hid hst
  have HW0 := Lib.hid hW0
  have HB0 := Lib.hid hB0
  clear hk hkid hmem ih hst hW0 sh1 sh2 hsh
  rw [← hlen2]
  clear hlen2
  unfold docV
  go_enter Tryd.func31, Tryd.ntmps31
  go_wp2_with fail
  rw [← hB0]
  clear hB0
  go_loopw [4] (fun i wr => ∃ (j : Nat) (l : List (Doc × Value)) (A : Option Addr) (c : Nat), j ≤ len ∧ i = .int .i64 (j : Int) ∧ l.map Prod.fst = (d.kids.take j).map (Doc.sprD true) ∧
      Blk wr B0 (docCells d (.slice a len cap)) 24 ∧ Blk wr (B0 + 1) (docCells (eDoc 0 []) (.slice none 0 0)) 24 ∧ Blk wr (B0 + 1 + 1) (docCells d (.slice A l.length c)) 24 ∧ RowD false thawX wr (B0 + 3) l (.slice A l.length c) ∧ Below w.heap.size w wr) (fun i _ => len - (intOf i).toNat)
  case atStart =>
    have h := HST.out
    rw [HW0.out] at h
    exact ⟨0, [], none, 0, Nat.zero_le _, rfl, by simp, h.1, h.2.1, h.2.2.1, RowD.nil _ _, h.2.2.2⟩
  case round =>
    obtain ⟨j, l, A, c, hj, rfl, hl, hb0, hb1, hb2, hrow, hbw⟩ := hrel
    have hll : l.length = j := by have := congrArg List.length hl; simp only [List.length_map, List.length_take] at this; have := HLEN.out; omega
    have HL := Lib.hid hl
    have HLL := Lib.hid hll
    have hlb : l.length < 4194304 := by omega
    have HK0 := Lib.hid hb0
    have HK1 := Lib.hid hb1
    have HK2 := Lib.hid hb2
    have HROW := Lib.hid hrow
    have HBW := Lib.hid hbw
    have hB2w : B0 + 1 + 1 < wr.heap.size := hb2.lt
    have c0 := hb0.cell 2
    have c2 := hb2.cell 2
    have f2 := hb2.frozen 2
    simp only [docCells, List.getElem?_cons_zero, List.getElem?_cons_succ] at c0 c2
    have hvne : ∀ x, (Value.slice A l.length c).ownBlock = some x → B0 + 3 ≤ x := fun x hx => (hrow.own.lt x hx).1
    have HVNE := Lib.hid hvne
    have hne2 : (Value.slice A l.length c).ownBlock ≠ some (B0 + 1 + 1) := fun e => by have := hvne _ e; omega
    have HNE2 := Lib.hid hne2
    obtain ⟨i0, z0, hT1, hi0, hz0, hz1, hzb, hz4, hz5⟩ := docE
    have HE := Lib.hid (And.intro hi0 (And.intro hz0 (And.intro hz1 (And.intro hzb hz4))))
    clear hi0 hz0 hz1 hzb hz4 hT1 hvne hne2
    by_cases hlt : j < len
    · have hjm : (j : Int) < (len : Int) := by omega
      have hj2 : j < d.kids.length := by rw [← HLEN.out]; exact hlt
      obtain ⟨gk, offk, rfl, _, hgk, kvk, h6, hk2⟩ := HKID.out j hj2
      have h6' := h6.of (hbw.block _ hgk)
      have hkw : KV wr.drew 0 wr.heap.size (d.kids[j]'hj2) kvk := ((hk2.below hbw (Nat.le_refl _)).wide (Nat.le_refl _) hbw.size).of (W := wr) (W' := wr.drew) (Nat.le_refl _) (Nat.le_refl _) (fun _ _ _ => rfl)
      have HC := Lib.hid ((HMEM.out j hj2).1 kvk wr.drew hkw (HMEM.out j hj2).2.2 (HMEM.out j hj2).2.1)
      have p0 := h6'.kind
      have p1 := h6'.text
      have p2 := h6'.kids
      have p3 := h6'.brk
      have p4 := h6'.id
      have p5 := h6'.width
      have hx := List.getElem?_eq_getElem hj2
      clear h6 h6' hk2 hkw hl hll hb0 hb1 hb2 hrow hbw
      generalize d.kids[j]'hj2 = K at *
      have HX := Lib.hid hx
      clear hx
      obtain ⟨K', hK'⟩ : ∃ K', K' = K.sprD true := ⟨_, rfl⟩
      rw [← hK'] at HC
      have HKK := Lib.hid hK'
      clear hK'
      go_wp2_with fail
      go_region_law (first
        | (go_simp; go_at_call 31; refine HC.out.mono ?_; rintro e w2 ⟨kv', rfl, hkw2, hb2⟩; obtain ⟨a', c', rfl⟩ := (KG.kv hkw2).slice; have hb2' : Below wr.heap.size wr w2 := ⟨hb2.os, hb2.tape, hb2.output, hb2.size, hb2.block⟩; have HKW2 := Lib.hid hkw2; have HB2 := Lib.hid hb2'; have hz2 : wr.heap.size ≤ w2.heap.size := hb2'.size; have ct := (hb2'.cell (p := ⟨B0 + 1 + 1, 2, none⟩) hB2w).trans c2; have ft := (hb2'.frozen (p := ⟨B0 + 1 + 1, 2, none⟩) hB2w).trans f2; have ctt : ∀ o, (w2.alloc o).cell? ⟨B0 + 1 + 1, 2, none⟩ = some (.slice A l.length c) := fun o => (alloc_cell w2 o _ (by simp at hz2 ⊢; omega)).trans ct; have ftt : ∀ o, (w2.alloc o).frozen? ⟨B0 + 1 + 1, 2, none⟩ = false := fun o => (alloc_frozen w2 o _ (by simp at hz2 ⊢; omega)).trans ft; clear hkw2 hb2 hb2'; unfold docV)
        | (refine step_append_lies _ (by rfl) _ _ _ (by rfl) (B0 + 3) 24 i0 z0 6 72 Tryd.underlying22 HE.out.1 HE.out.2.1 HE.out.2.2.1 HE.out.2.2.2.1 HE.out.2.2.2.2 (by omega) (.slice A l.length c) l.length (docsCells l) (by rfl) ((own_below HROW.out.own HB2.out).alloc _) ⟨w2.heap.size, 0, none⟩ 1 1 (docCells K' (.slice a' K'.kids.length c')) (by rfl) (by rfl) (World.news_of_block (cs := (docCells K' (.slice a' K'.kids.length c')).toArray) (t := 24) (fr := (0, 0)) (heap_alloc_new w2 _)) (by simp [Value.oneCell', docCells]) (by omega) (by unfold maxLen; omega) (by omega) (by simp; omega) (w2.heap.size + 1) (by simp) ?_; intro gg cap' w3 hown hgrow hat hgg; have HO3 := Lib.hid hown; have HG3 := Lib.hid hgrow; have HAT := Lib.hid hat; have m2 := (hgrow.cell_far ⟨B0 + 1 + 1, 2, none⟩ (by simp; omega) (Ne.symm HNE2.out)).trans (ctt _); have n2 := (hgrow.frozen_far ⟨B0 + 1 + 1, 2, none⟩ (by simp; omega) (Ne.symm HNE2.out)).trans (ftt _); clear hown hgrow hat))
      all_goals
        have hvnb : ∀ b, b < B0 + 3 → some b ≠ (Value.slice A l.length c).ownBlock := fun b hb e => by have := HVNE.out b e.symm; omega
        have hK0 := (((HK0.out.below HB2.out).alloc (.cells (docCells K' (.slice a' K'.kids.length c')).toArray 24)).grown HG3.out (hvnb _ (by omega))).set_other (a := ⟨B0 + 1 + 1, 2, none⟩) (by simp; omega) (.slice (some ⟨gg, 0, none⟩) (l.length + 1) cap')
        have hK1 := (((HK1.out.below HB2.out).alloc (.cells (docCells K' (.slice a' K'.kids.length c')).toArray 24)).grown HG3.out (hvnb _ (by omega))).set_other (a := ⟨B0 + 1 + 1, 2, none⟩) (by simp) (.slice (some ⟨gg, 0, none⟩) (l.length + 1) cap')
        have hK2 := (((HK2.out.below HB2.out).alloc (.cells (docCells K' (.slice a' K'.kids.length c')).toArray 24)).grown HG3.out (hvnb _ (by omega))).set 2 (.slice (some ⟨gg, 0, none⟩) (l.length + 1) cap')
        simp only [docCells, List.set_cons_succ, List.set_cons_zero] at hK2
        have hrow2 := (HROW.out.push thawX_stab HB2.out (by omega) (Nat.le_refl _) (Nat.le_refl _) HKW2.out _ HO3.out HG3.out (gg := gg) rfl HAT.out).set thawX_stab (a := ⟨B0 + 1 + 1, 2, none⟩) (by simp) (.slice (some ⟨gg, 0, none⟩) (l.length + 1) cap')
        have hBB : Below w.heap.size w (w3.setCell ⟨B0 + 1 + 1, 2, none⟩ (.slice (some ⟨gg, 0, none⟩) (l.length + 1) cap')) := by
          have hs := HBW.out.size
          have h0 := HB0.out
          exact Below.setCell (p := ⟨B0 + 1 + 1, 2, none⟩) (((HBW.out.call HB2.out).alloc (by omega) (.cells (docCells K' (.slice a' K'.kids.length c')).toArray 24)).grown HG3.out (by simp; omega) (fun x hx => by have := HVNE.out x hx; omega)) (by simp; omega) _
        have HK02 := Lib.hid hK0
        have HK12 := Lib.hid hK1
        have HK22 := Lib.hid (show Blk _ (B0 + 1 + 1) (docCells d (.slice (some ⟨gg, 0, none⟩) (l.length + 1) cap')) 24 from hK2)
        have HROW2 := Lib.hid hrow2
        have HBB := Lib.hid hBB
        clear hvnb hK0 hK1 hK2 hrow2 hBB HG3 HO3 HAT HROW HK0 HK1 HK2 HKW2 HB2 m2 n2 ct ft ctt ftt c0 c2 f2 p0 p1 p2 p3 p4 p5
        generalize w3.setCell ⟨B0 + 1 + 1, 2, none⟩ (.slice (some ⟨gg, 0, none⟩) (l.length + 1) cap') = W5 at *
        go_wp2_with fail
        go_roundw
        case rel => exact ⟨j + 1, l ++ [(K', .slice a' K'.kids.length c')], some ⟨gg, 0, none⟩, cap', by omega, by go_num, by rw [List.map_append, HL.out, List.take_add_one, HX.out, List.map_append]; show _ = _ ++ [K.sprD true]; rw [← HKK.out]; rfl, HK02.out, HK12.out, by rw [List.length_append]; exact HK22.out, by rw [List.length_append]; exact HROW2.out, HBB.out⟩
        case measure => simp [intOf]; omega
    · have hjm : (len : Int) ≤ (j : Int) := by omega
      have hD : (d.sprD true).kids = l.map Prod.fst := by
        rw [hl, List.take_of_length_le (by have := HLEN.out; omega), Doc.sprD_eq]
        rfl
      have hdv : ∀ kv b, sprBrk true d.kind d.brk (d.kidsMust true) = b → Value.agg #[.int .i64 (d.sprD true).kind, .string (d.sprD true).text, kv, .bool (d.sprD true).brk, .int .i64 (d.sprD true).id, .int .i64 (d.sprD true).width] = .agg #[.int .i64 d.kind, .string d.text, kv, .bool b, .int .i64 d.id, .int .i64 d.width] := fun kv b h => by rw [Doc.sprD_eq, ← h]; rfl
      have HD := Lib.hid hD
      have HDV := Lib.hid hdv
      have d0 := hb0.cell 0
      have d3 := hb0.cell 3
      have d2k := hb2.cell 3
      have f3 := hb2.frozen 3
      simp only [docCells, List.getElem?_cons_zero, List.getElem?_cons_succ] at d0 d3 d2k
      clear hD hdv hl hll hb0 hb1 hb2 hrow hbw f2
      by_cases h7 : d.kind = 7
      case neg =>
        have e7 : (d.kind == 7) = false := by simpa using h7
        have HSB : Hid (sprBrk true d.kind d.brk (d.kidsMust true) = d.brk) := Lib.hid (by unfold sprBrk; rw [if_neg h7])
        have HF2 := HK2
        have HF1 := HK1
        have HRW := HROW
        have HBX := HBW
        clear h7
        go_upto_region 9 with fail
        clear c0 c2 d0 d3 d2k f3
        have q0 := HF2.out.cell 0; have q1 := HF2.out.cell 1; have q2 := HF2.out.cell 2; have q3 := HF2.out.cell 3; have q4 := HF2.out.cell 4; have q5 := HF2.out.cell 5
        have r0 := HF1.out.cell 0; have r1 := HF1.out.cell 1; have r2 := HF1.out.cell 2; have r3 := HF1.out.cell 3; have r4 := HF1.out.cell 4; have r5 := HF1.out.cell 5
        have s0 := HF1.out.frozen 0; have s1 := HF1.out.frozen 1; have s2 := HF1.out.frozen 2; have s3 := HF1.out.frozen 3; have s4 := HF1.out.frozen 4; have s5 := HF1.out.frozen 5
        simp only [docCells, List.getElem?_cons_zero, List.getElem?_cons_succ] at q0 q1 q2 q3 q4 q5
        simp only [docCells, eDoc, Doc.kind, Doc.text, Doc.brk, Doc.id, Doc.width, List.getElem?_cons_zero, List.getElem?_cons_succ] at r0 r1 r2 r3 r4 r5
        go_wp2_with fail
        refine bodyPost_ret (v := .agg #[.int .i64 d.kind, .string d.text, .slice A l.length c, .bool d.brk, .int .i64 d.id, .int .i64 d.width]) (by simp [results, Tryd.f31, go_sem, r0, r1, r2, r3, r4, r5]) rfl ⟨.slice A l.length c, by rw [HDV.out _ _ HSB.out], ?_, ?_⟩
        · have h0 := HB0.out
          refine KG.of thawX_stab (by omega) ?_ (fun b hb hb2 => set6_heap wr (B0 + 1) b _ _ _ _ _ _ (by omega)) (HRW.out.kw HD.out)
          simp
        · exact set6_below HBX.out (B0 + 1) _ _ _ _ _ _ (by have := HB0.out; omega)
      have hl1 : l.length = 1 := by have := hgrp h7; have := HLL.out; omega
      have e7 : (d.kind == 7) = true := by simpa using h7
      have HH7 := Lib.hid h7
      clear h7
      obtain ⟨bb, hbb⟩ : ∃ bb, bb = d.brk := ⟨_, rfl⟩
      rw [← hbb] at d3
      have HBBK := Lib.hid hbb
      clear hbb
      cases bb with
      | true =>
        have HSB : Hid (sprBrk true d.kind d.brk (d.kidsMust true) = d.brk) := Lib.hid (by unfold sprBrk; rw [if_pos HH7.out, ← HBBK.out]; rfl)
        have HF2 := HK2
        have HF1 := HK1
        have HRW := HROW
        have HBX := HBW
        clear hl1
        go_upto_region 9 with fail
        clear c0 c2 d0 d3 d2k f3
        have q0 := HF2.out.cell 0; have q1 := HF2.out.cell 1; have q2 := HF2.out.cell 2; have q3 := HF2.out.cell 3; have q4 := HF2.out.cell 4; have q5 := HF2.out.cell 5
        have r0 := HF1.out.cell 0; have r1 := HF1.out.cell 1; have r2 := HF1.out.cell 2; have r3 := HF1.out.cell 3; have r4 := HF1.out.cell 4; have r5 := HF1.out.cell 5
        have s0 := HF1.out.frozen 0; have s1 := HF1.out.frozen 1; have s2 := HF1.out.frozen 2; have s3 := HF1.out.frozen 3; have s4 := HF1.out.frozen 4; have s5 := HF1.out.frozen 5
        simp only [docCells, List.getElem?_cons_zero, List.getElem?_cons_succ] at q0 q1 q2 q3 q4 q5
        simp only [docCells, eDoc, Doc.kind, Doc.text, Doc.brk, Doc.id, Doc.width, List.getElem?_cons_zero, List.getElem?_cons_succ] at r0 r1 r2 r3 r4 r5
        go_wp2_with fail
        refine bodyPost_ret (v := .agg #[.int .i64 d.kind, .string d.text, .slice A l.length c, .bool d.brk, .int .i64 d.id, .int .i64 d.width]) (by simp [results, Tryd.f31, go_sem, r0, r1, r2, r3, r4, r5]) rfl ⟨.slice A l.length c, by rw [HDV.out _ _ HSB.out], ?_, ?_⟩
        · have h0 := HB0.out
          refine KG.of thawX_stab (by omega) ?_ (fun b hb hb2 => set6_heap wr (B0 + 1) b _ _ _ _ _ _ (by omega)) (HRW.out.kw HD.out)
          simp
        · exact set6_below HBX.out (B0 + 1) _ _ _ _ _ _ (by have := HB0.out; omega)
      | false =>
        have hkwo := HROW.out.kw HD.out
        have hj0 : 0 < (d.sprD true).kids.length := by rw [HD.out, List.length_map]; omega
        obtain ⟨g1, o1, eA, _, hg1, kv1, h6, hk1⟩ := (KG.kv hkwo).kid (j := 0) hj0
        subst eA
        have hkd : 0 < d.kids.length := by have := HLEN.out; have := hgrp HH7.out; omega
        have hke : (d.sprD true).kids = d.kids.map (Doc.sprD true) := by rw [Doc.sprD_eq]; rfl
        have hK0e : (d.sprD true).kids[0]'hj0 = (d.kids[0]'hkd).sprD true := by rw [List.getElem_of_eq hke hj0, List.getElem_map]
        have hshk := (HMEM.out 0 hkd).2.2
        have hbk0 : ((d.kids[0]'hkd).sprD true).bulk ≤ 4194304 := by rw [sprD_bulk]; exact (HMEM.out 0 hkd).2.1
        have hfm := frc_must _ hshk
        have hkv0 : KV wr 0 wr.heap.size ((d.sprD true).kids[0]'hj0) kv1 := hk1.wide (Nat.zero_le _) (Nat.le_refl _)
        rw [hK0e] at h6 hkv0
        have HC := Lib.hid (forced_any _ kv1 wr hkv0 (sprD_shape _ hshk) hbk0)
        rw [hfm] at HC
        have hms : sprBrk true d.kind d.brk (d.kidsMust true) = (d.kids[0]'hkd).must true := by
          unfold sprBrk Doc.kidsMust mustL
          rw [if_pos HH7.out, ← HBBK.out, if_neg (by rw [HH7.out]; decide)]
          have e : d.kids = [d.kids[0]'hkd] := by
            have h1 := hgrp HH7.out
            have h2 := HLEN.out
            match hkx : d.kids, hkd with
            | [x], _ => rfl
            | x :: y :: r, _ => rw [hkx] at h2; simp at h2; omega
          conv => lhs; rw [e]
          simp
        have HMS := Lib.hid hms
        obtain ⟨mb, hmb⟩ : ∃ mb, mb = (d.kids[0]'hkd).must true := ⟨_, rfl⟩
        rw [← hmb] at HC HMS
        generalize (d.kids[0]'hkd).sprD true = K0 at *
        have p0 := h6.kind
        have p1 := h6.text
        have p2 := h6.kids
        have p3 := h6.brk
        have p4 := h6.id
        have p5 := h6.width
        simp only [Nat.zero_mul, Nat.add_zero] at p0 p1 p2 p3 p4 p5
        unfold docV at HC
        have hl0 : (0 : Int) < (l.length : Int) := by omega
        have hl00 : 0 < l.length := by omega
        clear hkwo h6 hk1 hshk hbk0 hfm hkv0 hms hmb hK0e hke hl1
        go_wp2_with fail
        refine HC.out.mono ?_
        rintro e w2 ⟨rfl, hb2⟩
        have HK02 := Lib.hid (HK0.out.below hb2)
        have HF1 := Lib.hid ((HK1.out.below hb2).set_other (a := ⟨B0 + 1 + 1, 3, none⟩) (by simp) (.bool mb))
        have hF2 := (HK2.out.below hb2).set 3 (.bool mb)
        simp only [docCells, List.set_cons_succ, List.set_cons_zero] at hF2
        have HF2 := Lib.hid hF2
        have HRW := Lib.hid ((HROW.out.below thawX_stab hb2).set thawX_stab (a := ⟨B0 + 1 + 1, 3, none⟩) (by simp) (.bool mb))
        have HBX := Lib.hid ((HBW.out.call hb2).setCell (p := ⟨B0 + 1 + 1, 3, none⟩) (by have := HB0.out; simp; omega) (.bool mb))
        have e3 := (hb2.cell (p := ⟨B0 + 1 + 1, 3, none⟩) hB2w).trans d2k
        have x3 := (hb2.frozen (p := ⟨B0 + 1 + 1, 3, none⟩) hB2w).trans f3
        clear hb2 hF2 c0 c2 d0 d3 d2k f3 p0 p1 p2 p3 p4 p5 HK0 HK1 HK2 HROW HC
        go_upto_region 9 with fail
        clear e3 x3
        generalize w2.setCell ⟨B0 + 1 + 1, 3, none⟩ (.bool mb) = WX at *
        have q0 := HF2.out.cell 0; have q1 := HF2.out.cell 1; have q2 := HF2.out.cell 2; have q3 := HF2.out.cell 3; have q4 := HF2.out.cell 4; have q5 := HF2.out.cell 5
        have r0 := HF1.out.cell 0; have r1 := HF1.out.cell 1; have r2 := HF1.out.cell 2; have r3 := HF1.out.cell 3; have r4 := HF1.out.cell 4; have r5 := HF1.out.cell 5
        have s0 := HF1.out.frozen 0; have s1 := HF1.out.frozen 1; have s2 := HF1.out.frozen 2; have s3 := HF1.out.frozen 3; have s4 := HF1.out.frozen 4; have s5 := HF1.out.frozen 5
        simp only [docCells, List.getElem?_cons_zero, List.getElem?_cons_succ] at q0 q1 q2 q3 q4 q5
        simp only [docCells, eDoc, Doc.kind, Doc.text, Doc.brk, Doc.id, Doc.width, List.getElem?_cons_zero, List.getElem?_cons_succ] at r0 r1 r2 r3 r4 r5
        go_wp2_with fail
        refine bodyPost_ret (v := .agg #[.int .i64 d.kind, .string d.text, .slice (some ⟨g1, o1, none⟩) l.length c, .bool mb, .int .i64 d.id, .int .i64 d.width]) (by simp [results, Tryd.f31, go_sem, r0, r1, r2, r3, r4, r5]) rfl ⟨.slice (some ⟨g1, o1, none⟩) l.length c, by rw [HDV.out _ _ HMS.out], ?_, ?_⟩
        · have h0 := HB0.out
          refine KG.of thawX_stab (by omega) ?_ (fun b hb hb2 => set6_heap WX (B0 + 1) b _ _ _ _ _ _ (by omega)) (HRW.out.kw HD.out)
          simp
        · exact set6_below HBX.out (B0 + 1) _ _ _ _ _ _ (by have := HB0.out; omega)
end Go.Proofs.YtaojlnibkajfbaaDoor
