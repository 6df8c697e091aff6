/- KeptTexts, KeptEdits; EditsApplies: the walk. -/
import Derived.Test.YtakolehlaejhfaaEdLend
import Derived.Test.YtakolehlaejhfaaRefApply
import Derived.Test.YtakolehlaejhfaaEdAwake
namespace Go.Proofs.Ytakolehlaejhfaa
open Go.RowKit
set_option maxRecDepth 100000
set_option linter.unusedVariables false
set_option linter.unusedSimpArgs false

set_option maxHeartbeats 2000000 in
theorem keptTexts_any (g c : Nat) (A2 : Option Addr) (c2 : Nat) (ls : List Ln) (lo2 hi2 : Nat) (w : World) (hc : ls.length + 2 ≤ c) (hcell : ∀ q, q < ls.length + 2 → w.cell? ⟨g, q, none⟩ = ((ls ++ roomB).map strVal)[q]?) (hT : TxtAt w lo2 hi2 A2 ls) (hl : ls.length ≤ 2000000) :
    Calls Try.prog 35 #[.slice (some ⟨g, 0, none⟩) ls.length c, .slice A2 ls.length c2] w fun e w' => e = .returned (.bool true) ∧ ∃ n, w' = w.drewN n := by
  have h1 : TxtAt w 0 (g + 1) (some ⟨g, 0, none⟩) ls := fun _ => ⟨g, 0, rfl, Nat.zero_le _, by omega, fun j hj => by
    rw [Nat.zero_add, hcell j (by omega), List.getElem?_map, List.getElem?_append_left hj, List.getElem?_eq_getElem hj]; rfl⟩
  have hself : decide (ls = ls) = true := by simp
  have hs := same_texts (some ⟨g, 0, none⟩) A2 c c2 ls ls 0 (g + 1) lo2 hi2 w h1 hT hl
  rw [hself] at hs
  have HS := Lib.hid hs
  have k0 : w.cell? ⟨g, ls.length, none⟩ = some (.string ⟨#[126, 114, 111, 111, 109]⟩) := by
    rw [hcell _ (by omega), List.getElem?_map, List.getElem?_append_right (Nat.le_refl _), Nat.sub_self]; rfl
  have k1 : w.cell? ⟨g, ls.length + 1, none⟩ = some (.string ⟨#[126, 98, 101, 104, 105, 110, 100]⟩) := by
    rw [hcell _ (by omega), List.getElem?_map, List.getElem?_append_right (by omega), show ls.length + 1 - ls.length = 1 by omega]; rfl
  have hsl : ∀ W, (Instr.slice 40 (.slice (some ⟨g, 0, none⟩) ls.length c) none (some (.int .i64 ((ls.length : Int) + 2))) none).run Try.prog W = .ok (.slice (some ⟨g, 0, none⟩) (ls.length + 2) c) W := by
    intro W
    rw [run_slice_h _ _ _ _ _ (by kernel_rfl) _ _ (by omega) (by omega)]
    have hel : Try.prog.elem 40 = 9 := by kernel_rfl
    rw [hel, Try.sizeOf9]
    have e1 : (fun x : Addr => x.add 0) = id := by funext x; unfold Addr.add; split <;> simp_all
    have e2 : ((ls.length : Int) + 2).toNat = ls.length + 2 := by omega
    simp [sliced, Result.andThen, e1, e2]
  have s1 : (ls.length : Int) < (ls.length : Int) + 2 := by omega
  have s2 : (ls.length : Int) + 1 < (ls.length : Int) + 2 := by omega
  have s3 : ((ls.length : Int) + 1).toNat = ls.length + 1 := by omega
  clear hself hs h1 hcell hT
  go_enter Try.func35, Try.ntmps35
  go_wp2_with fail
  refine HS.out.mono ?_
  rintro e w1 ⟨rfl, n, rfl⟩
  go_wp2_with fail
  go_ret
  exact ⟨rfl, n, rfl⟩

def KeptAt (w : World) (A : Option Addr) (es : List Ed) : Prop := ∀ j (hj : j < es.length), ∃ b o g cg, A = some ⟨b, o, none⟩ ∧ w.cell? ⟨b, o + j * 3 + 2, none⟩ = some (.slice (some ⟨g, 0, none⟩) es[j].put.length cg) ∧
  es[j].put.length + 2 ≤ cg ∧ ∀ q, q < es[j].put.length + 2 → w.cell? ⟨g, q, none⟩ = ((es[j].put ++ roomB).map strVal)[q]?
set_option maxHeartbeats 2000000 in
theorem keptEdits_any (A1 A2 : Option Addr) (c1 c2 : Nat) (es : List Ed) (lo1 hi1 lo2 hi2 : Nat) (w : World) (h1 : EdsAt w lo1 hi1 A1 es) (hK : KeptAt w A1 es) (h2 : EdsAt w lo2 hi2 A2 es) (hl : es.length ≤ 2000000) (hp : ∀ e ∈ es, e.put.length ≤ 2000000) :
    Calls Try.prog 18 #[.slice A1 es.length c1, .slice A2 es.length c2] w fun e w' => e = .returned (.bool true) ∧ ∃ n, w' = w.drewN n := by
  have hself : decide (es = es) = true := by simp
  have hs := same_eds A1 A2 c1 c2 es es lo1 hi1 lo2 hi2 w h1 h2 hl hp
  rw [hself] at hs
  have HS := Lib.hid hs
  have H2 := Lib.hid h2
  have HK := Lib.hid hK
  have HP := Lib.hid hp
  clear hself hs h1 h2 hK hp
  go_enter Try.func18, Try.ntmps18
  go_wp2_with fail
  refine HS.out.mono ?_
  rintro e w1 ⟨rfl, n0, rfl⟩
  go_wp2_with fail
  go_loopw [5] (fun i wr => ∃ k n : Nat, k ≤ es.length ∧ i = .int .i64 (k : Int) ∧ wr = w.drewN n) (fun i _ => es.length - (intOf i).toNat)
  case atStart => exact ⟨0, n0, Nat.zero_le _, rfl, rfl⟩
  case round =>
    obtain ⟨k, n, hk, rfl, rfl⟩ := hrel
    by_cases hlt : k < es.length
    · obtain ⟨b1, o1, g, cg, e1, m1, m2, m3⟩ := HK.out k hlt
      obtain ⟨b2, o2, e2, _, _, _, _, P2, p2, k3, _, t2⟩ := H2.out.at_ hlt
      have hpx := HP.out _ (List.getElem_mem hlt)
      generalize es[k]'hlt = x at *
      subst e1 e2
      have HKT := Lib.hid (fun q => keptTexts_any g cg P2 p2 x.put lo2 hi2 (w.drewN q) m2 m3 t2 hpx)
      have hki : (k : Int) < (es.length : Int) := by omega
      clear m3 t2
      go_wp2_with fail
      go_quiet ((go_at_call 35; refine (HKT.out _).mono ?_; rintro e w'' ⟨rfl, q, rfl⟩; exact ⟨rfl, _, by rw [World.drewN_drewN, Nat.add_assoc]⟩))
      go_wp2_with fail
      go_roundw
      case rel => exact ⟨k + 1, n + nq, by omega, by go_num, by first | rfl | rw [World.drewN_drewN]⟩
      case measure => simp [intOf]; omega
    · have hki : (es.length : Int) ≤ (k : Int) := by omega
      go_wp2_with fail
      go_ret
      exact ⟨rfl, n, rfl⟩
theorem LendSt.keptAt {w W : World} {lv : List EdV} {A : Option Addr} {c : Nat} (h : LendSt w lv (.slice A lv.length c) W) : KeptAt W A (lv.map (·.1)) := by
  intro j hj
  rw [List.length_map] at hj
  obtain ⟨g, cg, e, ho⟩ := h.lent _ (List.getElem_mem hj)
  obtain ⟨b, cap, hv, hb, hlt⟩ := own_form h.own (by omega)
  injection hv with e1 e2 e3
  subst e1
  have h1 := h.own.cellAt (j * 3 + 2) (by omega)
  rw [(edsCells_at lv j hj).2.2, e] at h1
  refine ⟨b, 0, g, cg, rfl, ?_, ?_, fun q hq => ?_⟩
  · rw [Nat.zero_add, h1, List.getElem_map]
  · rw [List.getElem_map]
    rcases ho.2 with ⟨h, _⟩ | ⟨g', cap, cur, h, _, _, h4, _⟩
    · cases h
    · cases h; exact h4
  · rw [List.getElem_map] at hq ⊢
    exact ho.cellAt q (by omega)
theorem KeptAt.below {w w' : World} {A : Option Addr} {es : List Ed} (h : KeptAt w A es) (hb : Below w.heap.size w w') : KeptAt w' A es := by
  intro j hj
  obtain ⟨b, o, g, cg, e, h1, h2, h3⟩ := h j hj
  have hlt : b < w.heap.size := World.block_lt_of_cell? w ⟨b, o + j * 3 + 2, none⟩ h1
  refine ⟨b, o, g, cg, e, (hb.cell (p := ⟨b, o + j * 3 + 2, none⟩) hlt).trans h1, h2, fun q hq => ?_⟩
  have h4 := h3 q hq
  have hq2 : q < ((es[j].put ++ roomB).map strVal).length := by simp [roomB]; omega
  rw [List.getElem?_eq_getElem hq2] at h4 ⊢
  have hlt2 : g < w.heap.size := World.block_lt_of_cell? w ⟨g, q, none⟩ h4
  exact (hb.cell (p := ⟨g, q, none⟩) hlt2).trans h4

set_option maxHeartbeats 4000000 in
theorem editsApplies_call (s : ByteArray) (A : Option Addr) (c : Nat) (es : List Ed) (w : World) (hE : EdsAt w 0 w.heap.size A es) (hs : s.size ≤ 1048576) (hps : putSum es ≤ 1048576) (hes : es.length ≤ 1048576) (hpl : ∀ e ∈ es, e.put.length ≤ 1048576) :
    Calls Try.prog 4 #[.string s, .slice A es.length c] w fun e w' => e = .returned (.bool true) ∧ Below w.heap.size w w' := by
  have HE := Lib.hid hE
  have HL := Lib.hid (lendEdits_any A c es w hE (by omega) (fun e he => by have := hpl e he; omega))
  have ls : s.data.toList.length = s.size := by simp
  obtain ⟨S, z, hz⟩ : ∃ S z, applyV (applyB (linesB s.data.toList) es) = .tuple #[.string S, .int .i64 z] := ⟨_, _, rfl⟩
  have hAP : ∀ A c W, EdsAt W 0 W.heap.size A es → Calls Try.prog 16 #[.string s, .slice A es.length c] W fun e w' => e = .returned (.tuple #[.string S, .int .i64 z]) ∧ Below W.heap.size W w' := fun A c W h => by
    rw [← hz]; exact apply_any s A c es W h hs hps hes hpl
  have hRP : ∀ A c W, EdsAt W 0 W.heap.size A es → Calls Try.prog 17 #[.string s, .slice A es.length c] W fun e w' => e = .returned (.tuple #[.string S, .int .i64 z]) ∧ Below W.heap.size W w' := fun A c W h => by
    rw [← hz]
    have := refApply_any s.data.toList A c es W h (by omega) hps hes hpl
    rwa [strOf_list] at this
  have HAP := Lib.hid hAP
  have HRP := Lib.hid hRP
  have HKE := Lib.hid (fun A1 A2 c1 c2 lo1 hi1 lo2 hi2 W h1 hK h2 => keptEdits_any A1 A2 c1 c2 es lo1 hi1 lo2 hi2 W h1 hK h2 (by omega) (fun e he => by have := hpl e he; omega))
  have hSS : (S.toList == S.toList) = true := by simp
  clear hE hAP hRP hz hpl ls
  go_enter Try.func4, Try.ntmps4
  go_wp2_with fail
  refine HL.out.mono ?_
  rintro e w1 ⟨lv, A1, c1, rfl, hlv, hst⟩
  have hll : lv.length = es.length := by rw [← hlv, List.length_map]
  rw [← hll] at hst
  have hK1 := hst.keptAt
  have hA1 : EdsAt w1 w.heap.size w1.heap.size A1 es := by
    have h := EdsAt.of_own (hi := w1.heap.size) hst.own (fun p hp => (hst.lent p hp).putAt (Nat.le_refl _)) (Nat.le_refl _)
    rw [hlv] at h
    exact h.1
  rw [hlv] at hK1
  have HB1 := Lib.hid hst.below
  have HK1 := Lib.hid hK1
  have HA1 := Lib.hid hA1
  clear hK1 hA1 hst hlv hll HL
  go_wp2_with fail
  refine (HAP.out A1 c1 w1 (HA1.out.wide (Nat.zero_le _) (Nat.le_refl _))).mono ?_
  rintro e w2 ⟨rfl, hb2⟩
  have HA2 := Lib.hid (HA1.out.below hb2 (Nat.le_refl _))
  have HK2 := Lib.hid (HK1.out.below hb2)
  have HB2 := Lib.hid (HB1.out.call hb2)
  have HSZ := Lib.hid hb2.size
  clear hb2 HA1 HK1 HB1
  have HE2 := Lib.hid ((HE.out.below HB2.out (Nat.le_refl _)).wide (Nat.le_refl _) HB2.out.size)
  go_wp2_with fail
  refine (HRP.out A c w2 HE2.out).mono ?_
  rintro e w3 ⟨rfl, hb3⟩
  have HA3 := Lib.hid (HA2.out.of (w' := w3) fun b _ hb => hb3.block b (by have := HSZ.out; omega))
  have HK3 := Lib.hid (HK2.out.below hb3)
  have HE3 := Lib.hid (HE2.out.below hb3 (Nat.le_refl _))
  have HB3 := Lib.hid (HB2.out.call hb3)
  clear hb3 HA2 HK2 HB2 HE2
  have HKK := Lib.hid (HKE.out A1 A c1 c _ _ _ _ w3 HA3.out HK3.out HE3.out)
  go_wp2_with (go_at_call 12; refine (num_any _ _).mono ?_; rintro e w9 ⟨rfl, rfl⟩)
  refine HKK.out.mono ?_
  rintro e w4 ⟨rfl, n4, rfl⟩
  go_wp2_with (go_at_call 14; refine (awake_any _).mono ?_; rintro e wk ⟨rfl, hbk⟩; have HBK := Lib.hid hbk; clear hbk)
  go_ret
  exact ⟨rfl, (below_drewN HB3.out n4).call HBK.out⟩
end Go.Proofs.Ytakolehlaejhfaa
