/- Package layout: cond (printed by gen_cond.py). -/
import Derived.Test.YthljgiimdcbfpaaDoorMOne
namespace Go.Proofs.YthljgiimdcbfpaaDoor
open Go.RowKit
set_option maxRecDepth 100000
set_option linter.unusedVariables false
set_option linter.unusedSimpArgs false
set_option maxHeartbeats 16000000 in
theorem cond_is {B0 b mb : Nat} {ov : OptV} {s : MS} {w : World} (h : MAt B0 b mb ov s w) {ind : Ind} {p : Option Addr} (hi : IndAt w (s.F b mb w) ind p) (flat : Bool) {d : Doc} {a : Addr} (hd : DocAt w B0 (s.F b mb w) d a) (hok : CmOk ind d) (hk : d.kind = 8) (hw : s.weight + d.wt ≤ 16777216) :
    Calls Tryd.prog 51 #[.pointer (some ⟨b, 0, none⟩), .agg #[.pointer p, .bool flat, .pointer (some a)]] w fun e w' => Ends B0 b mb ov s w (some (condM ov.o s.mach ind d.brk d.kids)) e w' := by
  have hd0 := hd
  obtain ⟨g, off, kv, rfl, hFg, h6, hkv⟩ := hd
  obtain ⟨A, cap, hkvs⟩ := hkv.slice
  rw [hkvs] at hkv
  obtain ⟨hn0, hnc, kg, koff, hA, hds⟩ := docs_kids h hkv
  have hn1 := kids_8 hok.shape hk
  obtain rfl := hA (by omega)
  have hnl := kids_len_bulk hok.bulk
  obtain ⟨n, hn⟩ : ∃ n, d.kids.length = n + 1 := ⟨d.kids.length - 1, by omega⟩
  have hbW : Below w.heap.size w (w.alloc (.cells #[.pointer p, .bool flat, .pointer (some ⟨g, off, none⟩)] 69)) := (Below.refl _ w).alloc (Nat.le_refl _) _
  have hcW : Blk (w.alloc (.cells #[.pointer p, .bool flat, .pointer (some ⟨g, off, none⟩)] 69)) w.heap.size [.pointer p, .bool flat, .pointer (some ⟨g, off, none⟩)] 69 := Blk.new' (W := w) _ _ rfl
  obtain ⟨W, hW⟩ : ∃ W, W = w.alloc (.cells #[.pointer p, .bool flat, .pointer (some ⟨g, off, none⟩)] 69) := ⟨_, rfl⟩
  rw [← hW] at hbW hcW
  have hgl : g < w.heap.size := hFg.1
  have k2 := (hbW.cell (p := ⟨g, off + 2, none⟩) hgl).trans h6.kids
  have k3 := (hbW.cell (p := ⟨g, off + 3, none⟩) hgl).trans h6.brk
  rw [hkvs, hn] at k2
  rw [hn] at hnc hnl
  have x0 := hcW.cell 0
  have x2 := hcW.cell 2
  simp only [List.getElem?_cons_zero, List.getElem?_cons_succ] at x0 x2
  have hWs := hcW.lt
  have HWW := Lib.hid hW
  have HM := Lib.hid h
  have HI := Lib.hid hi
  have HOK := Lib.hid hok
  have HDS := Lib.hid hds
  have HBW := Lib.hid hbW
  have HN := Lib.hid hn
  have HWT := Lib.hid hw
  have HSIX := Lib.hid hd0
  have hlt0 : (n : Int) < (n : Int) + 1 := by omega
  have hwn : IntKind.i64.wrap (n : Int) = (n : Int) := by rw [IntKind.wrap_i64]; omega
  clear h hi hok hds hbW hW hw hcW h6 hkv hFg hkvs hA hd0 hn1
  cases hbk : d.brk
  · rw [hbk] at k3
    clear hbk
    go_enter Tryd.func51, Tryd.ntmps51
    go_upto_region 1 with fail
    rw [← HWW.out]
    have hkd := docs_below HM.out HBW.out (docs_nth HDS.out 0 (by have := HN.out; omega))
    obtain ⟨g0, off0, kv0, hae, hF0, h60, hk0⟩ := hkd.2 0 (by simp) (by simp)
    have hg0 : kg = g0 := congrArg Addr.block hae
    have ho0 : koff = off0 := congrArg Addr.off hae
    subst hg0
    subst ho0
    have hbk0 := kid_ok HOK.out.shape HOK.out.bulk (d.kids[0]'(by have := HN.out; omega)) (List.getElem_mem _)
    have HID := Lib.hid (idle_is (d.kids[0]'(by have := HN.out; omega)) kv0 kg koff W.heap.size W h60 (hk0.wide (Nat.le_refl _) (by have := HM.out.low; omega)) (Nat.le_refl _) hbk0.2 hbk0.1)
    clear hkd hae hF0 h60 hk0
    go_wp2_with fail
    refine HID.out.mono ?_
    rintro e w1 ⟨rfl, hb1⟩
    have HB1 := Lib.hid hb1
    have hb1s := hb1.size
    have x01 := (hb1.cell (p := ⟨w.heap.size, 0, none⟩) hWs).trans x0
    clear hb1
    cases hy1 : (d.kids[0]'(by have := HN.out; omega)).flat.isSome
    · have HNO : Hid (((d.kids[0]'(by have := HN.out; omega)).flat.isSome && fitsM ov.o s.mach true false [d.kids[0]'(by have := HN.out; omega)]) = false) := Lib.hid (by rw [hy1]; rfl)
      clear hy1
      go_wp2_with fail
      go_loopw [5, 6] (fun v5 v6 wr => ∃ i : Nat, 1 ≤ i ∧ i ≤ n + 1 ∧ v6 = .int .i64 (i : Int) ∧ v5 = .int .i64 (n : Int) ∧ Below W.heap.size W wr ∧ (i ≤ n → pickD ov.o s.mach (d.kids.drop 1) = pickD ov.o s.mach (d.kids.drop i)) ∧ (i = n + 1 → 1 ≤ n → pickD ov.o s.mach (d.kids.drop 1) = some (d.kids[n]'(by have := HN.out; omega)))) (fun _ v6 _ => n + 1 - (intOf v6).toNat)
      case atStart => exact ⟨1, Nat.le_refl _, by omega, rfl, rfl, HB1.out, fun _ => rfl, fun h1 h2 => by omega⟩
      case round =>
        obtain ⟨i, hi1, hi2, rfl, rfl, hbw, hp1, hp2⟩ := hrel
        have HBR := Lib.hid hbw
        have HP1 := Lib.hid hp1
        have HP2 := Lib.hid hp2
        have xr := (hbw.cell (p := ⟨w.heap.size, 0, none⟩) hWs).trans x0
        have xr2 := (hbw.cell (p := ⟨w.heap.size, 2, none⟩) hWs).trans x2
        have hbsz := hbw.size
        clear hbw hp1 hp2
        by_cases hlt : i ≤ n
        · have hltI : (i : Int) ≤ (n : Int) := by omega
          have hltJ : (i : Int) < (n : Int) + 1 := by omega
          have hge0 : (0 : Int) ≤ (i : Int) := by omega
          cases hy : fitsM ov.o s.mach false false [d.kids[i]'(by have := HN.out; omega)]
          · have HY := Lib.hid hy
            clear hy
            go_wp2_with fail
            refine (fits_some HM.out ((HBW.out.trans (HBR.out.mono (by omega))).trans (((Below.refl wr.heap.size wr).alloc (Nat.le_refl _) (.cells #[.pointer (some ⟨kg, koff + i * 6, none⟩)] 66)).mono ((HBW.out.trans (HBR.out.mono (by omega))).size))) false false (docs_nth HDS.out i (by have := HN.out; omega)) (ok_nth HOK.out.shape HOK.out.bulk i (by have := HN.out; omega)) (la := [⟨kg, koff + i * 6, none⟩]) (by exact Blk.new' (W := wr) (g := wr.heap.size) [.pointer (some ⟨kg, koff + i * 6, none⟩)] 66 rfl) rfl (by have := wt_nth d i (by have := HN.out; omega); have := HWT.out; omega)).mono ?_
            rintro e w4 ⟨rfl, hb4⟩
            have HB4 := Lib.hid (HBR.out.trans (((((Below.refl wr.heap.size wr).alloc (Nat.le_refl _) (.cells #[.pointer (some ⟨kg, koff + i * 6, none⟩)] 66)).trans (hb4.mono (by simp))).mono HBR.out.size)))
            clear hb4
            rw [HY.out]
            go_wp2_with fail
            go_roundw
            case rel =>
              refine ⟨i + 1, by omega, by omega, by go_num, rfl, HB4.out, fun h1 => ?_, fun h1 h2 => ?_⟩
              · rw [HP1.out hlt, pick_step (by have := HN.out; omega) HY.out]
              · obtain rfl : i = n := by omega
                rw [HP1.out hlt, pick_last HN.out]
            case measure => simp [intOf]; omega
          · have HY := Lib.hid hy
            clear hy
            have HR : Hid (condM ov.o s.mach ind false d.kids = pushM s.mach ind false [d.kids[i]'(by have := HN.out; omega)]) := Lib.hid (cond_else (by have := HN.out; omega) HNO.out (.inr ⟨by have := HN.out; omega, by rw [HP1.out hlt, pick_hit _ HY.out]⟩))
            go_wp2_with fail
            refine (fits_some HM.out ((HBW.out.trans (HBR.out.mono (by omega))).trans (((Below.refl wr.heap.size wr).alloc (Nat.le_refl _) (.cells #[.pointer (some ⟨kg, koff + i * 6, none⟩)] 66)).mono ((HBW.out.trans (HBR.out.mono (by omega))).size))) false false (docs_nth HDS.out i (by have := HN.out; omega)) (ok_nth HOK.out.shape HOK.out.bulk i (by have := HN.out; omega)) (la := [⟨kg, koff + i * 6, none⟩]) (by exact Blk.new' (W := wr) (g := wr.heap.size) [.pointer (some ⟨kg, koff + i * 6, none⟩)] 66 rfl) rfl (by have := wt_nth d i (by have := HN.out; omega); have := HWT.out; omega)).mono ?_
            rintro e w4 ⟨rfl, hb4⟩
            have HB4 := Lib.hid (HBR.out.trans (((((Below.refl wr.heap.size wr).alloc (Nat.le_refl _) (.cells #[.pointer (some ⟨kg, koff + i * 6, none⟩)] 66)).trans (hb4.mono (by simp))).mono HBR.out.size)))
            clear hb4
            rw [HY.out]
            have xs := (HB4.out.cell (p := ⟨w.heap.size, 0, none⟩) hWs).trans x0
            have hs4 := HB4.out.size
            have HBB := Lib.hid (HBW.out.trans (HB4.out.mono (by omega)))
            go_wp2_with fail
            go_upto_region 11 with fail
            refine wp_region_seq (fun w' => w'.cell? ⟨w.heap.size, 0, none⟩ = some (.pointer p)) 6 2 (by kernel_rfl) rfl (by kernel_rfl) (by intro _ _ d _ _ h; cases d <;> exact h) xs ?_
            simp only [List.take_succ_cons, List.take_zero, List.drop_succ_cons, List.drop_zero, List.cons_append, List.nil_append]
            repeat (refine wpHeld_step rfl ?_; apply Exists.intro; refine ⟨fun wq hq => ?_, ?_⟩; (have q1 := hq; go_simp; first | done | rfl); simp only [Act.put, List.setIfInBounds_toArray, List.set_cons_zero, List.set_cons_succ])
            change wpSeq _ _ _ _ _ _ _
            refine wpSeq_step rfl (fun K hK => ?_)
            go_simp
            have y0 := (((Below.refl w4.heap.size w4).alloc (Nat.le_refl _) (.cells #[.pointer (some ⟨kg, koff + i * 6, none⟩)] 66)).drew.cell (p := ⟨w.heap.size, 0, none⟩) (by show w.heap.size < w4.heap.size; omega)).trans xs
            refine hK _ _ y0 ?_
            clear hK K
            try simp only [Act.put, List.setIfInBounds_toArray, List.set_cons_zero, List.set_cons_succ]
            refine wpSeq_step rfl (fun K hK => ?_)
            go_simp
            have hbp := HBB.out.trans (((Below.refl w4.heap.size w4).alloc (Nat.le_refl _) (.cells #[.pointer (some ⟨kg, koff + i * 6, none⟩)] 66)).drew.mono (by omega))
            refine (push_some HM.out hbp HI.out false (docs_nth HDS.out i (by have := HN.out; omega)) (fun x hx => by rw [List.mem_singleton] at hx; rw [hx]; exact HOK.out.kid (List.getElem_mem _)) (la := [⟨kg, koff + i * 6, none⟩]) (by exact Blk.new' (W := w4) (g := w4.heap.size) [.pointer (some ⟨kg, koff + i * 6, none⟩)] 66 rfl) (by omega) rfl (by have := wt_nth d i (by have := HN.out; omega); have := HWT.out; omega)).mono ?_
            intro e w9 he
            have HE := Lib.hid he
            have HBP := Lib.hid hbp
            have hbs := hbp.size
            clear he hbp
            have he2 := HE.out
            obtain ⟨rfl, s9, m9, a9, g9⟩ := he2
            have z0 := (World.cell?_of_block (a := ⟨w.heap.size, 0, none⟩) (g9.1.block w.heap.size (Nat.lt_of_lt_of_le (by omega) (((Below.refl w4.heap.size w4).alloc (Nat.le_refl _) (.cells #[.pointer (some ⟨kg, koff + i * 6, none⟩)] 66)).drew.size)) (fun hx => by have := HM.out.X_lt hx; omega))).trans y0
            have HM9 := Lib.hid m9
            have HA9 := Lib.hid a9
            have HG9 := Lib.hid g9
            refine hK _ _ z0 ?_
            clear hK K m9 a9 g9 y0 HE
            try simp only [Act.put, List.setIfInBounds_toArray, List.set_cons_zero, List.set_cons_succ]
            first
              | change Exit.then _ _ Exit.normal _ _
              | change Exit.inBlock _ _ Exit.normal _ _
              | unfold wpSeq
            go_wp2_with fail
            go_end0
            rw [HR.out]
            exact ⟨rfl, s9, HM9.out, HA9.out, (Goes.of_below HBP.out).trans HG9.out⟩
        · obtain rfl : i = n + 1 := by omega
          have HR : Hid (condM ov.o s.mach ind false d.kids = pushM s.mach ind false [d.kids[n]'(by have := HN.out; omega)]) := Lib.hid (cond_else (by have := HN.out; omega) HNO.out (by
            by_cases hn0 : n = 0
            · left
              have := HN.out
              subst hn0
              exact ⟨by omega, rfl⟩
            · right
              exact ⟨by have := HN.out; omega, HP2.out rfl (by omega)⟩))
          have HBB := Lib.hid (HBW.out.trans (HBR.out.mono (by omega)))
          go_wp2_with fail
          go_upto_region 11 with fail
          refine wp_region_seq (fun w' => w'.cell? ⟨w.heap.size, 0, none⟩ = some (.pointer p)) 6 2 (by kernel_rfl) rfl (by kernel_rfl) (by intro _ _ d _ _ h; cases d <;> exact h) xr ?_
          simp only [List.take_succ_cons, List.take_zero, List.drop_succ_cons, List.drop_zero, List.cons_append, List.nil_append]
          repeat (refine wpHeld_step rfl ?_; apply Exists.intro; refine ⟨fun wq hq => ?_, ?_⟩; (have q1 := hq; go_simp; first | done | rfl); simp only [Act.put, List.setIfInBounds_toArray, List.set_cons_zero, List.set_cons_succ])
          change wpSeq _ _ _ _ _ _ _
          refine wpSeq_step rfl (fun K hK => ?_)
          go_simp
          have y0 := (((Below.refl wr.heap.size wr).alloc (Nat.le_refl _) (.cells #[.pointer (some ⟨kg, koff + n * 6, none⟩)] 66)).drew.cell (p := ⟨w.heap.size, 0, none⟩) (by show w.heap.size < wr.heap.size; omega)).trans xr
          refine hK _ _ y0 ?_
          clear hK K
          try simp only [Act.put, List.setIfInBounds_toArray, List.set_cons_zero, List.set_cons_succ]
          refine wpSeq_step rfl (fun K hK => ?_)
          go_simp
          have hbp := HBB.out.trans (((Below.refl wr.heap.size wr).alloc (Nat.le_refl _) (.cells #[.pointer (some ⟨kg, koff + n * 6, none⟩)] 66)).drew.mono (by omega))
          refine (push_some HM.out hbp HI.out false (docs_nth HDS.out n (by have := HN.out; omega)) (fun x hx => by rw [List.mem_singleton] at hx; rw [hx]; exact HOK.out.kid (List.getElem_mem _)) (la := [⟨kg, koff + n * 6, none⟩]) (by exact Blk.new' (W := wr) (g := wr.heap.size) [.pointer (some ⟨kg, koff + n * 6, none⟩)] 66 rfl) (by omega) rfl (by have := wt_nth d n (by have := HN.out; omega); have := HWT.out; omega)).mono ?_
          intro e w9 he
          have HE := Lib.hid he
          have HBP := Lib.hid hbp
          have hbs := hbp.size
          clear he hbp
          have he2 := HE.out
          obtain ⟨rfl, s9, m9, a9, g9⟩ := he2
          have z0 := (World.cell?_of_block (a := ⟨w.heap.size, 0, none⟩) (g9.1.block w.heap.size (Nat.lt_of_lt_of_le (by omega) (((Below.refl wr.heap.size wr).alloc (Nat.le_refl _) (.cells #[.pointer (some ⟨kg, koff + n * 6, none⟩)] 66)).drew.size)) (fun hx => by have := HM.out.X_lt hx; omega))).trans y0
          have HM9 := Lib.hid m9
          have HA9 := Lib.hid a9
          have HG9 := Lib.hid g9
          refine hK _ _ z0 ?_
          clear hK K m9 a9 g9 y0 HE
          try simp only [Act.put, List.setIfInBounds_toArray, List.set_cons_zero, List.set_cons_succ]
          first
            | change Exit.then _ _ Exit.normal _ _
            | change Exit.inBlock _ _ Exit.normal _ _
            | unfold wpSeq
          go_wp2_with fail
          go_end0
          rw [HR.out]
          exact ⟨rfl, s9, HM9.out, HA9.out, (Goes.of_below HBP.out).trans HG9.out⟩
    · have HY1 := Lib.hid hy1
      clear hy1
      go_wp2_with fail
      refine (fits_some HM.out ((HBW.out.trans (HB1.out.mono (by omega))).trans (((Below.refl w1.heap.size w1).alloc (Nat.le_refl _) (.cells #[.pointer (some ⟨kg, koff, none⟩)] 66)).mono ((HBW.out.trans (HB1.out.mono (by omega))).size))) true false (docs_nth HDS.out 0 (by have := HN.out; omega)) (ok_nth HOK.out.shape HOK.out.bulk 0 (by have := HN.out; omega)) (la := [⟨kg, koff, none⟩]) (by exact Blk.new' (W := w1) (g := w1.heap.size) [.pointer (some ⟨kg, koff, none⟩)] 66 rfl) rfl (by have := wt_nth d 0 (by have := HN.out; omega); have := HWT.out; omega)).mono ?_
      rintro e w2 ⟨rfl, hb2⟩
      have HB2 := Lib.hid (HB1.out.trans (((((Below.refl w1.heap.size w1).alloc (Nat.le_refl _) (.cells #[.pointer (some ⟨kg, koff, none⟩)] 66)).trans (hb2.mono (by simp))).mono HB1.out.size)))
      clear hb2
      have hb2s := HB2.out.size
      cases hy2 : fitsM ov.o s.mach true false [d.kids[0]'(by have := HN.out; omega)]
      · have HNO : Hid (((d.kids[0]'(by have := HN.out; omega)).flat.isSome && fitsM ov.o s.mach true false [d.kids[0]'(by have := HN.out; omega)]) = false) := Lib.hid (by rw [hy2, Bool.and_false])
        clear hy2
        go_wp2_with fail
        go_loopw [5, 6] (fun v5 v6 wr => ∃ i : Nat, 1 ≤ i ∧ i ≤ n + 1 ∧ v6 = .int .i64 (i : Int) ∧ v5 = .int .i64 (n : Int) ∧ Below W.heap.size W wr ∧ (i ≤ n → pickD ov.o s.mach (d.kids.drop 1) = pickD ov.o s.mach (d.kids.drop i)) ∧ (i = n + 1 → 1 ≤ n → pickD ov.o s.mach (d.kids.drop 1) = some (d.kids[n]'(by have := HN.out; omega)))) (fun _ v6 _ => n + 1 - (intOf v6).toNat)
        case atStart => exact ⟨1, Nat.le_refl _, by omega, rfl, rfl, HB2.out, fun _ => rfl, fun h1 h2 => by omega⟩
        case round =>
          obtain ⟨i, hi1, hi2, rfl, rfl, hbw, hp1, hp2⟩ := hrel
          have HBR := Lib.hid hbw
          have HP1 := Lib.hid hp1
          have HP2 := Lib.hid hp2
          have xr := (hbw.cell (p := ⟨w.heap.size, 0, none⟩) hWs).trans x0
          have xr2 := (hbw.cell (p := ⟨w.heap.size, 2, none⟩) hWs).trans x2
          have hbsz := hbw.size
          clear hbw hp1 hp2
          by_cases hlt : i ≤ n
          · have hltI : (i : Int) ≤ (n : Int) := by omega
            have hltJ : (i : Int) < (n : Int) + 1 := by omega
            have hge0 : (0 : Int) ≤ (i : Int) := by omega
            cases hy : fitsM ov.o s.mach false false [d.kids[i]'(by have := HN.out; omega)]
            · have HY := Lib.hid hy
              clear hy
              go_wp2_with fail
              refine (fits_some HM.out ((HBW.out.trans (HBR.out.mono (by omega))).trans (((Below.refl wr.heap.size wr).alloc (Nat.le_refl _) (.cells #[.pointer (some ⟨kg, koff + i * 6, none⟩)] 66)).mono ((HBW.out.trans (HBR.out.mono (by omega))).size))) false false (docs_nth HDS.out i (by have := HN.out; omega)) (ok_nth HOK.out.shape HOK.out.bulk i (by have := HN.out; omega)) (la := [⟨kg, koff + i * 6, none⟩]) (by exact Blk.new' (W := wr) (g := wr.heap.size) [.pointer (some ⟨kg, koff + i * 6, none⟩)] 66 rfl) rfl (by have := wt_nth d i (by have := HN.out; omega); have := HWT.out; omega)).mono ?_
              rintro e w4 ⟨rfl, hb4⟩
              have HB4 := Lib.hid (HBR.out.trans (((((Below.refl wr.heap.size wr).alloc (Nat.le_refl _) (.cells #[.pointer (some ⟨kg, koff + i * 6, none⟩)] 66)).trans (hb4.mono (by simp))).mono HBR.out.size)))
              clear hb4
              rw [HY.out]
              go_wp2_with fail
              go_roundw
              case rel =>
                refine ⟨i + 1, by omega, by omega, by go_num, rfl, HB4.out, fun h1 => ?_, fun h1 h2 => ?_⟩
                · rw [HP1.out hlt, pick_step (by have := HN.out; omega) HY.out]
                · obtain rfl : i = n := by omega
                  rw [HP1.out hlt, pick_last HN.out]
              case measure => simp [intOf]; omega
            · have HY := Lib.hid hy
              clear hy
              have HR : Hid (condM ov.o s.mach ind false d.kids = pushM s.mach ind false [d.kids[i]'(by have := HN.out; omega)]) := Lib.hid (cond_else (by have := HN.out; omega) HNO.out (.inr ⟨by have := HN.out; omega, by rw [HP1.out hlt, pick_hit _ HY.out]⟩))
              go_wp2_with fail
              refine (fits_some HM.out ((HBW.out.trans (HBR.out.mono (by omega))).trans (((Below.refl wr.heap.size wr).alloc (Nat.le_refl _) (.cells #[.pointer (some ⟨kg, koff + i * 6, none⟩)] 66)).mono ((HBW.out.trans (HBR.out.mono (by omega))).size))) false false (docs_nth HDS.out i (by have := HN.out; omega)) (ok_nth HOK.out.shape HOK.out.bulk i (by have := HN.out; omega)) (la := [⟨kg, koff + i * 6, none⟩]) (by exact Blk.new' (W := wr) (g := wr.heap.size) [.pointer (some ⟨kg, koff + i * 6, none⟩)] 66 rfl) rfl (by have := wt_nth d i (by have := HN.out; omega); have := HWT.out; omega)).mono ?_
              rintro e w4 ⟨rfl, hb4⟩
              have HB4 := Lib.hid (HBR.out.trans (((((Below.refl wr.heap.size wr).alloc (Nat.le_refl _) (.cells #[.pointer (some ⟨kg, koff + i * 6, none⟩)] 66)).trans (hb4.mono (by simp))).mono HBR.out.size)))
              clear hb4
              rw [HY.out]
              have xs := (HB4.out.cell (p := ⟨w.heap.size, 0, none⟩) hWs).trans x0
              have hs4 := HB4.out.size
              have HBB := Lib.hid (HBW.out.trans (HB4.out.mono (by omega)))
              go_wp2_with fail
              go_upto_region 11 with fail
              refine wp_region_seq (fun w' => w'.cell? ⟨w.heap.size, 0, none⟩ = some (.pointer p)) 6 2 (by kernel_rfl) rfl (by kernel_rfl) (by intro _ _ d _ _ h; cases d <;> exact h) xs ?_
              simp only [List.take_succ_cons, List.take_zero, List.drop_succ_cons, List.drop_zero, List.cons_append, List.nil_append]
              repeat (refine wpHeld_step rfl ?_; apply Exists.intro; refine ⟨fun wq hq => ?_, ?_⟩; (have q1 := hq; go_simp; first | done | rfl); simp only [Act.put, List.setIfInBounds_toArray, List.set_cons_zero, List.set_cons_succ])
              change wpSeq _ _ _ _ _ _ _
              refine wpSeq_step rfl (fun K hK => ?_)
              go_simp
              have y0 := (((Below.refl w4.heap.size w4).alloc (Nat.le_refl _) (.cells #[.pointer (some ⟨kg, koff + i * 6, none⟩)] 66)).drew.cell (p := ⟨w.heap.size, 0, none⟩) (by show w.heap.size < w4.heap.size; omega)).trans xs
              refine hK _ _ y0 ?_
              clear hK K
              try simp only [Act.put, List.setIfInBounds_toArray, List.set_cons_zero, List.set_cons_succ]
              refine wpSeq_step rfl (fun K hK => ?_)
              go_simp
              have hbp := HBB.out.trans (((Below.refl w4.heap.size w4).alloc (Nat.le_refl _) (.cells #[.pointer (some ⟨kg, koff + i * 6, none⟩)] 66)).drew.mono (by omega))
              refine (push_some HM.out hbp HI.out false (docs_nth HDS.out i (by have := HN.out; omega)) (fun x hx => by rw [List.mem_singleton] at hx; rw [hx]; exact HOK.out.kid (List.getElem_mem _)) (la := [⟨kg, koff + i * 6, none⟩]) (by exact Blk.new' (W := w4) (g := w4.heap.size) [.pointer (some ⟨kg, koff + i * 6, none⟩)] 66 rfl) (by omega) rfl (by have := wt_nth d i (by have := HN.out; omega); have := HWT.out; omega)).mono ?_
              intro e w9 he
              have HE := Lib.hid he
              have HBP := Lib.hid hbp
              have hbs := hbp.size
              clear he hbp
              have he2 := HE.out
              obtain ⟨rfl, s9, m9, a9, g9⟩ := he2
              have z0 := (World.cell?_of_block (a := ⟨w.heap.size, 0, none⟩) (g9.1.block w.heap.size (Nat.lt_of_lt_of_le (by omega) (((Below.refl w4.heap.size w4).alloc (Nat.le_refl _) (.cells #[.pointer (some ⟨kg, koff + i * 6, none⟩)] 66)).drew.size)) (fun hx => by have := HM.out.X_lt hx; omega))).trans y0
              have HM9 := Lib.hid m9
              have HA9 := Lib.hid a9
              have HG9 := Lib.hid g9
              refine hK _ _ z0 ?_
              clear hK K m9 a9 g9 y0 HE
              try simp only [Act.put, List.setIfInBounds_toArray, List.set_cons_zero, List.set_cons_succ]
              first
                | change Exit.then _ _ Exit.normal _ _
                | change Exit.inBlock _ _ Exit.normal _ _
                | unfold wpSeq
              go_wp2_with fail
              go_end0
              rw [HR.out]
              exact ⟨rfl, s9, HM9.out, HA9.out, (Goes.of_below HBP.out).trans HG9.out⟩
          · obtain rfl : i = n + 1 := by omega
            have HR : Hid (condM ov.o s.mach ind false d.kids = pushM s.mach ind false [d.kids[n]'(by have := HN.out; omega)]) := Lib.hid (cond_else (by have := HN.out; omega) HNO.out (by
              by_cases hn0 : n = 0
              · left
                have := HN.out
                subst hn0
                exact ⟨by omega, rfl⟩
              · right
                exact ⟨by have := HN.out; omega, HP2.out rfl (by omega)⟩))
            have HBB := Lib.hid (HBW.out.trans (HBR.out.mono (by omega)))
            go_wp2_with fail
            go_upto_region 11 with fail
            refine wp_region_seq (fun w' => w'.cell? ⟨w.heap.size, 0, none⟩ = some (.pointer p)) 6 2 (by kernel_rfl) rfl (by kernel_rfl) (by intro _ _ d _ _ h; cases d <;> exact h) xr ?_
            simp only [List.take_succ_cons, List.take_zero, List.drop_succ_cons, List.drop_zero, List.cons_append, List.nil_append]
            repeat (refine wpHeld_step rfl ?_; apply Exists.intro; refine ⟨fun wq hq => ?_, ?_⟩; (have q1 := hq; go_simp; first | done | rfl); simp only [Act.put, List.setIfInBounds_toArray, List.set_cons_zero, List.set_cons_succ])
            change wpSeq _ _ _ _ _ _ _
            refine wpSeq_step rfl (fun K hK => ?_)
            go_simp
            have y0 := (((Below.refl wr.heap.size wr).alloc (Nat.le_refl _) (.cells #[.pointer (some ⟨kg, koff + n * 6, none⟩)] 66)).drew.cell (p := ⟨w.heap.size, 0, none⟩) (by show w.heap.size < wr.heap.size; omega)).trans xr
            refine hK _ _ y0 ?_
            clear hK K
            try simp only [Act.put, List.setIfInBounds_toArray, List.set_cons_zero, List.set_cons_succ]
            refine wpSeq_step rfl (fun K hK => ?_)
            go_simp
            have hbp := HBB.out.trans (((Below.refl wr.heap.size wr).alloc (Nat.le_refl _) (.cells #[.pointer (some ⟨kg, koff + n * 6, none⟩)] 66)).drew.mono (by omega))
            refine (push_some HM.out hbp HI.out false (docs_nth HDS.out n (by have := HN.out; omega)) (fun x hx => by rw [List.mem_singleton] at hx; rw [hx]; exact HOK.out.kid (List.getElem_mem _)) (la := [⟨kg, koff + n * 6, none⟩]) (by exact Blk.new' (W := wr) (g := wr.heap.size) [.pointer (some ⟨kg, koff + n * 6, none⟩)] 66 rfl) (by omega) rfl (by have := wt_nth d n (by have := HN.out; omega); have := HWT.out; omega)).mono ?_
            intro e w9 he
            have HE := Lib.hid he
            have HBP := Lib.hid hbp
            have hbs := hbp.size
            clear he hbp
            have he2 := HE.out
            obtain ⟨rfl, s9, m9, a9, g9⟩ := he2
            have z0 := (World.cell?_of_block (a := ⟨w.heap.size, 0, none⟩) (g9.1.block w.heap.size (Nat.lt_of_lt_of_le (by omega) (((Below.refl wr.heap.size wr).alloc (Nat.le_refl _) (.cells #[.pointer (some ⟨kg, koff + n * 6, none⟩)] 66)).drew.size)) (fun hx => by have := HM.out.X_lt hx; omega))).trans y0
            have HM9 := Lib.hid m9
            have HA9 := Lib.hid a9
            have HG9 := Lib.hid g9
            refine hK _ _ z0 ?_
            clear hK K m9 a9 g9 y0 HE
            try simp only [Act.put, List.setIfInBounds_toArray, List.set_cons_zero, List.set_cons_succ]
            first
              | change Exit.then _ _ Exit.normal _ _
              | change Exit.inBlock _ _ Exit.normal _ _
              | unfold wpSeq
            go_wp2_with fail
            go_end0
            rw [HR.out]
            exact ⟨rfl, s9, HM9.out, HA9.out, (Goes.of_below HBP.out).trans HG9.out⟩
      · have HR : Hid (condM ov.o s.mach ind false d.kids = pushM s.mach ind true [d.kids[0]'(by have := HN.out; omega)]) := Lib.hid (cond_flat _ HY1.out hy2)
        clear hy2
        have xs := (HB2.out.cell (p := ⟨w.heap.size, 0, none⟩) hWs).trans x0
        have HBB := Lib.hid (HBW.out.trans (HB2.out.mono (by omega)))
        go_upto_region 5 with fail
        refine wp_region_seq (fun w' => w'.cell? ⟨w.heap.size, 0, none⟩ = some (.pointer p)) 5 2 (by kernel_rfl) rfl (by kernel_rfl) (by intro _ _ d _ _ h; cases d <;> exact h) xs ?_
        simp only [List.take_succ_cons, List.take_zero, List.drop_succ_cons, List.drop_zero, List.cons_append, List.nil_append]
        repeat (refine wpHeld_step rfl ?_; apply Exists.intro; refine ⟨fun wq hq => ?_, ?_⟩; (have q1 := hq; go_simp; first | done | rfl); simp only [Act.put, List.setIfInBounds_toArray, List.set_cons_zero, List.set_cons_succ])
        change wpSeq _ _ _ _ _ _ _
        refine wpSeq_step rfl (fun K hK => ?_)
        go_simp
        have y0 := (((Below.refl w2.heap.size w2).alloc (Nat.le_refl _) (.cells #[.pointer (some ⟨kg, koff, none⟩)] 66)).drew.cell (p := ⟨w.heap.size, 0, none⟩) (by show w.heap.size < w2.heap.size; omega)).trans xs
        refine hK _ _ y0 ?_
        clear hK K
        try simp only [Act.put, List.setIfInBounds_toArray, List.set_cons_zero, List.set_cons_succ]
        refine wpSeq_step rfl (fun K hK => ?_)
        go_simp
        have hbp := HBB.out.trans (((Below.refl w2.heap.size w2).alloc (Nat.le_refl _) (.cells #[.pointer (some ⟨kg, koff, none⟩)] 66)).drew.mono (by omega))
        refine (push_some HM.out hbp HI.out true (docs_nth HDS.out 0 (by have := HN.out; omega)) (fun x hx => by rw [List.mem_singleton] at hx; rw [hx]; exact HOK.out.kid (List.getElem_mem _)) (la := [⟨kg, koff + 0 * 6, none⟩]) (by exact Blk.new' (W := w2) (g := w2.heap.size) [.pointer (some ⟨kg, koff, none⟩)] 66 rfl) (by omega) rfl (by have := wt_nth d 0 (by have := HN.out; omega); have := HWT.out; omega)).mono ?_
        intro e w9 he
        have HE := Lib.hid he
        have HBP := Lib.hid hbp
        have hbs := hbp.size
        clear he hbp
        have he2 := HE.out
        obtain ⟨rfl, s9, m9, a9, g9⟩ := he2
        have z0 := (World.cell?_of_block (a := ⟨w.heap.size, 0, none⟩) (g9.1.block w.heap.size (Nat.lt_of_lt_of_le (by omega) (((Below.refl w2.heap.size w2).alloc (Nat.le_refl _) (.cells #[.pointer (some ⟨kg, koff, none⟩)] 66)).drew.size)) (fun hx => by have := HM.out.X_lt hx; omega))).trans y0
        have HM9 := Lib.hid m9
        have HA9 := Lib.hid a9
        have HG9 := Lib.hid g9
        refine hK _ _ z0 ?_
        clear hK K m9 a9 g9 y0 HE
        try simp only [Act.put, List.setIfInBounds_toArray, List.set_cons_zero, List.set_cons_succ]
        first
          | change Exit.then _ _ Exit.normal _ _
          | change Exit.inBlock _ _ Exit.normal _ _
          | unfold wpSeq
        go_wp2_with fail
        go_end0
        rw [HR.out]
        exact ⟨rfl, s9, HM9.out, HA9.out, (Goes.of_below HBP.out).trans HG9.out⟩
  · rw [hbk] at k3
    clear hbk
    have HR : Hid (condM ov.o s.mach ind true d.kids = pushM s.mach ind false [d.kids[n]'(by omega)]) := Lib.hid (cond_brk hn)
    go_enter Tryd.func51, Tryd.ntmps51
    go_upto_region 1 with fail
    rw [← HWW.out]
    go_upto_region 11 with fail
    refine wp_region_seq (fun w' => w'.cell? ⟨w.heap.size, 0, none⟩ = some (.pointer p)) 6 2 (by kernel_rfl) rfl (by kernel_rfl) (by intro _ _ d _ _ h; cases d <;> exact h) x0 ?_
    simp only [List.take_succ_cons, List.take_zero, List.drop_succ_cons, List.drop_zero, List.cons_append, List.nil_append]
    repeat (refine wpHeld_step rfl ?_; apply Exists.intro; refine ⟨fun wq hq => ?_, ?_⟩; (have q1 := hq; go_simp; first | done | rfl); simp only [Act.put, List.setIfInBounds_toArray, List.set_cons_zero, List.set_cons_succ])
    change wpSeq _ _ _ _ _ _ _
    refine wpSeq_step rfl (fun K hK => ?_)
    go_simp
    have y0 := (((Below.refl W.heap.size W).alloc (Nat.le_refl _) (.cells #[.pointer (some ⟨kg, koff + n * 6, none⟩)] 66)).drew.cell (p := ⟨w.heap.size, 0, none⟩) (by show w.heap.size < W.heap.size; omega)).trans x0
    refine hK _ _ y0 ?_
    clear hK K
    try simp only [Act.put, List.setIfInBounds_toArray, List.set_cons_zero, List.set_cons_succ]
    refine wpSeq_step rfl (fun K hK => ?_)
    go_simp
    have hbp := HBW.out.trans (((Below.refl W.heap.size W).alloc (Nat.le_refl _) (.cells #[.pointer (some ⟨kg, koff + n * 6, none⟩)] 66)).drew.mono (by exact HBW.out.size))
    refine (push_some HM.out hbp HI.out false (docs_nth HDS.out n (by have := HN.out; omega)) (fun x hx => by rw [List.mem_singleton] at hx; rw [hx]; exact HOK.out.kid (List.getElem_mem _)) (la := [⟨kg, koff + n * 6, none⟩]) (by exact Blk.new' (W := W) (g := W.heap.size) [.pointer (some ⟨kg, koff + n * 6, none⟩)] 66 rfl) (by exact HBW.out.size) rfl (by have := wt_nth d n (by have := HN.out; omega); have := HWT.out; omega)).mono ?_
    intro e w9 he
    have HE := Lib.hid he
    have HBP := Lib.hid hbp
    have hbs := hbp.size
    clear he hbp
    have he2 := HE.out
    obtain ⟨rfl, s9, m9, a9, g9⟩ := he2
    have z0 := (World.cell?_of_block (a := ⟨w.heap.size, 0, none⟩) (g9.1.block w.heap.size (Nat.lt_of_lt_of_le (by omega) (((Below.refl W.heap.size W).alloc (Nat.le_refl _) (.cells #[.pointer (some ⟨kg, koff + n * 6, none⟩)] 66)).drew.size)) (fun hx => by have := HM.out.X_lt hx; omega))).trans y0
    have HM9 := Lib.hid m9
    have HA9 := Lib.hid a9
    have HG9 := Lib.hid g9
    refine hK _ _ z0 ?_
    clear hK K m9 a9 g9 y0 HE
    try simp only [Act.put, List.setIfInBounds_toArray, List.set_cons_zero, List.set_cons_succ]
    first
      | change Exit.then _ _ Exit.normal _ _
      | change Exit.inBlock _ _ Exit.normal _ _
      | unfold wpSeq
    go_wp2_with fail
    go_end0
    rw [HR.out]
    exact ⟨rfl, s9, HM9.out, HA9.out, (Goes.of_below HBP.out).trans HG9.out⟩
end Go.Proofs.YthljgiimdcbfpaaDoor
