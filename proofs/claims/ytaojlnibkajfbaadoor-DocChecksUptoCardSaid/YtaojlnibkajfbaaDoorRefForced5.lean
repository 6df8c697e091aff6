/- platenref15.forced. PRINTED by gen_forced5.py. -/
import Derived.Test.YtaojlnibkajfbaaDoorFrc5Plain
import Derived.Test.YtaojlnibkajfbaaDoorDocRow
namespace Go.Proofs.YtaojlnibkajfbaaDoor
open Go.RowKit
set_option maxRecDepth 100000
set_option linter.unusedVariables false
set_option linter.unusedSimpArgs false

theorem any5_none {ks : List Doc} (h : ∀ x (hx : x < ks.length), (ks[x]).frc5 = false) : ks.any Doc.frc5 = false := by
  rw [List.any_eq_false]
  intro d hd
  obtain ⟨i, hi, rfl⟩ := List.getElem_of_mem hd
  simp [h i hi]
theorem any5_some {ks : List Doc} {j : Nat} (hj : j < ks.length) (h : (ks[j]).frc5 = true) : ks.any Doc.frc5 = true := by
  rw [List.any_eq_true]
  exact ⟨_, List.getElem_mem hj, h⟩
def Frc5In (d : Doc) : Prop := ∀ (kv : Value) (w : World), KV w 0 w.heap.size d kv → d.shape = true → d.bulk ≤ 4194304 →
    Calls Tryd.prog 38 #[docV d kv] w fun e w' => e = .returned (.bool d.frc5) ∧ Below w.heap.size w w'
set_option maxHeartbeats 8000000 in
theorem forced5_any (d : Doc) : Frc5In d := by
  refine Doc.ind (P := Frc5In) (fun d ih => ?_) d
  intro kv w hk hsh hb
  obtain ⟨h1, h2⟩ := shape_bare hsh
  obtain ⟨_, _, f8, f10, _⟩ := formed_bare h1
  obtain ⟨a, cap, rfl⟩ := hk.slice
  have hcap := hk.cap
  have hkid : ∀ j (hj : j < d.kids.length), ∃ g off, a = some ⟨g, off, none⟩ ∧ g < w.heap.size ∧ ∃ kv, Six w g (off + j * 6) d.kids[j] kv ∧ KV w 0 w.heap.size d.kids[j] kv := fun j hj => by
    obtain ⟨g, off, h1, _, h2, h3⟩ := hk.kid (j := j) hj
    exact ⟨g, off, h1, h2, h3⟩
  have hmem0 : ∀ x ∈ d.kids, Frc5In x ∧ x.bulk ≤ 4194304 ∧ x.shape = true := fun x hx => ⟨ih x hx, by have := Doc.kid_bulk hx; omega, h2 x hx⟩
  have hlen : d.kids.length < 4194304 := by have := d.kids_len; omega
  have hfe := d.frc5_eq hsh
  have hst : Below w.heap.size w (w.alloc (.cells (docCells d (.slice a d.kids.length cap)).toArray 24)) := (Below.refl _ w).alloc (Nat.le_refl _) _
  have hd5 : d.kids5 = if d.kind = 8 then d.kids.take 1 else if d.kind = 10 then d.kids.drop 1 else d.kids := rfl
  obtain ⟨len, hlen2⟩ : ∃ z, z = d.kids.length := ⟨_, rfl⟩
  rw [← hlen2] at hlen hst f8 f10 hcap
  obtain ⟨fr, hfr⟩ : ∃ fr, fr = d.frc5 := ⟨_, rfl⟩
  rw [← hfr] at hfe
  rw [← hlen2, ← hfr]
  obtain ⟨ks, hks⟩ : ∃ ks, ks = d.kids := ⟨_, rfl⟩
  rw [← hks] at hkid hmem0 hd5 hlen2
  obtain ⟨kk, hkk⟩ : ∃ kk, kk = d.kind := ⟨_, rfl⟩
  obtain ⟨bb, hbb⟩ : ∃ bb, bb = d.brk := ⟨_, rfl⟩
  unfold docV
  simp only [docCells] at hst
  rw [← hkk] at hfe hd5 f8 f10 hst ⊢
  rw [← hbb] at hfe f10 hst ⊢
  have hmem : ∀ (L : List Doc), (∀ x ∈ L, x ∈ ks) → ∀ j (hj : j < L.length), Frc5In L[j] ∧ (L[j]).bulk ≤ 4194304 ∧ (L[j]).shape = true := fun L hL j hj => hmem0 _ (hL _ (List.getElem_mem hj))
  have HFE := Lib.hid hfe
  have HM0 := Lib.hid hmem
  have HD5 := Lib.hid hd5
  have HKID0 := Lib.hid hkid
  have HLEN := Lib.hid hlen2
  have HST := Lib.hid hst
  clear hk hkid hmem hmem0 ih hst hfe h1 h2 hsh hd5 hkk hbb hks hfr hlen2
  have hkc : ((kk == 14) = true ∧ kk = 14) ∨ (((kk == 14) = false ∧ (kk == 5) = true) ∧ kk = 5) ∨ (((kk == 14) = false ∧ (kk == 5) = false ∧ (kk == 6) = true) ∧ kk = 6) ∨
      (((kk == 14) = false ∧ (kk == 5) = false ∧ (kk == 6) = false ∧ (kk == 16) = true) ∧ kk = 16) ∨ (((kk == 14) = false ∧ (kk == 5) = false ∧ (kk == 6) = false ∧ (kk == 16) = false ∧ (kk == 8) = true) ∧ kk = 8) ∨
      (((kk == 14) = false ∧ (kk == 5) = false ∧ (kk == 6) = false ∧ (kk == 16) = false ∧ (kk == 8) = false ∧ (kk == 10) = true) ∧ kk = 10) ∨
      (((kk == 14) = false ∧ (kk == 5) = false ∧ (kk == 6) = false ∧ (kk == 16) = false ∧ (kk == 8) = false ∧ (kk == 10) = false) ∧ (kk ≠ 14 ∧ kk ≠ 5 ∧ kk ≠ 6 ∧ kk ≠ 16 ∧ kk ≠ 8 ∧ kk ≠ 10)) := by
    simp only [beq_iff_eq, beq_eq_false_iff_ne, ne_eq]
    omega
  rcases hkc with ⟨e1, ek⟩ | ⟨⟨e1, e2⟩, ek⟩ | ⟨⟨e1, e2, e3⟩, ek⟩ | ⟨⟨e1, e2, e3, e4⟩, ek⟩ | ⟨⟨e1, e2, e3, e4, e5⟩, ek⟩ | ⟨⟨e1, e2, e3, e4, e5, e6⟩, ek⟩ | ⟨⟨e1, e2, e3, e4, e5, e6⟩, ek⟩
  case inl =>
    have hfr : fr = false := by rw [HFE.out, if_pos ek]
    subst hfr
    clear ek f8 f10
    go_enter Tryd.func38, Tryd.ntmps38
    go_wp2_with fail
    go_ret
    exact ⟨rfl, (Below.refl _ w).alloc (Nat.le_refl _) _⟩
  case inr.inr.inr.inr.inl =>
    have h0 := f8 ek
    have hsl0 : ∀ W, (Instr.slice 22 (.slice a len cap) none (some (.int .i64 1)) none).run Tryd.prog W = .ok (.slice a 1 cap) W := by
      intro W
      obtain ⟨g0, off0, rfl, _⟩ := HKID0.out 0 (by rw [← HLEN.out]; omega)
      rw [run_slice_h _ _ _ _ _ (by kernel_rfl) _ _ (by omega) (by omega)]
      have hel : Tryd.prog.elem 22 = 24 := by kernel_rfl
      rw [hel, Tryd.sizeOf24]
      simp only [sliced, Result.andThen, (show (fun x : Addr => x.add 0) = id by funext x; unfold Addr.add; split <;> simp_all)]
      simp
    cases bb with
    | true =>
      have hfr : fr = true := by rw [HFE.out, if_neg (by omega), if_neg (by omega), if_pos rfl]
      subst hfr
      clear ek f8 f10
      go_enter Tryd.func38, Tryd.ntmps38
      go_wp2_with fail
      go_ret
      exact ⟨rfl, (Below.refl _ w).alloc (Nat.le_refl _) _⟩
    | false =>
      obtain ⟨L, hL⟩ : ∃ L, d.kids5 = L := ⟨_, rfl⟩
      have hL8 : L = ks.take 1 := by rw [← hL, HD5.out, if_pos ek]
      have hsub : ∀ x ∈ L, x ∈ ks := fun x hx => by rw [hL8] at hx; exact List.mem_of_mem_take hx
      have hl1 : L.length = 1 := by rw [hL8, List.length_take]; have := HLEN.out; omega
      have HKID : Hid (∀ j (hj : j < L.length), ∃ g off, a = some ⟨g, off, none⟩ ∧ g < w.heap.size ∧ ∃ kv, Six w g (off + j * 6) L[j] kv ∧ KV w 0 w.heap.size L[j] kv) := Lib.hid (by
        intro j hj
        have e : L[j] = ks[j]'(by have := HLEN.out; omega) := by simp [hL8]
        rw [e]
        exact HKID0.out j _)
      obtain ⟨n, hn⟩ : ∃ n, n = 1 := ⟨_, rfl⟩
      have HLN : Hid (L.length = n) := Lib.hid (by rw [hn]; exact hl1)
      have hnb : n < 4194304 := by omega
      have hsl : ∀ W, (Instr.slice 22 (.slice a len cap) none (some (.int .i64 1)) none).run Tryd.prog W = .ok (.slice a n cap) W := by rw [hn]; exact hsl0
      clear hsl0
      clear hn hl1 hL8
      have hfr : fr = L.any Doc.frc5 := by rw [HFE.out, if_neg (by omega), if_neg (by omega), if_neg (by simp), hL]
      have HFR := Lib.hid hfr
      have HMEM := Lib.hid (HM0.out L hsub)
      clear hfr hL hsub ek f8 f10 HM0 HFE HD5 HKID0
      go_enter Tryd.func38, Tryd.ntmps38
      go_wp2_with fail
      go_loopw [4] (fun i wr => ∃ j : Nat, j ≤ n ∧ i = .int .i64 (j : Int) ∧ (∀ x (hx : x < L.length), x < j → (L[x]).frc5 = false) ∧ Below w.heap.size w wr) (fun i _ => n - (intOf i).toNat)
      case atStart => exact ⟨0, Nat.zero_le _, rfl, fun x _ h => absurd h (Nat.not_lt_zero x), HST.out⟩
      case round =>
        obtain ⟨j, hj, rfl, hall, hbw⟩ := hrel
        have HALL := Lib.hid hall
        have HBW := Lib.hid hbw
        by_cases hlt : j < n
        · have hjm : (j : Int) < (n : Int) := by omega
          have hj2 : j < L.length := by rw [HLN.out]; exact hlt
          obtain ⟨g, off, rfl, hg, kv2, h6, hk2⟩ := HKID.out j hj2
          have h6' := h6.of (hbw.block _ hg)
          have g0 := h6'.kind
          have g1 := h6'.text
          have g2 := h6'.kids
          have g3 := h6'.brk
          have g4 := h6'.id
          have g5 := h6'.width
          have hkw : KV wr 0 wr.heap.size (L[j]'hj2) kv2 := (hk2.below hbw (Nat.le_refl _)).wide (Nat.le_refl _) hbw.size
          have HC := Lib.hid ((HMEM.out j hj2).1 kv2 wr hkw (HMEM.out j hj2).2.2 (HMEM.out j hj2).2.1)
          have HONE := Lib.hid (fun h => any5_some (ks := L) hj2 h)
          obtain ⟨K, hK⟩ : ∃ K, K = L[j]'hj2 := ⟨_, rfl⟩
          rw [← hK] at g0 g1 g3 g4 g5 HC HONE
          have HKK := Lib.hid hK
          clear h6 h6' hk2 hbw hkw hall hK
          obtain ⟨kf, hkf⟩ : ∃ kf, kf = K.frc5 := ⟨_, rfl⟩
          rw [← hkf] at HC HONE
          have HKF := Lib.hid hkf
          clear hkf
          go_wp2_with fail
          refine HC.out.mono ?_
          rintro e w2 ⟨rfl, hb2⟩
          have HB2 := Lib.hid (HBW.out.call hb2)
          clear hb2 g0 g1 g2 g3 g4 g5
          cases kf with
          | false =>
            go_wp2_with fail
            go_roundw
            case rel =>
              refine ⟨j + 1, by omega, by go_num, fun x hx hxj => ?_, HB2.out⟩
              rcases Nat.lt_or_ge x j with h | h
              · exact HALL.out x hx h
              · obtain rfl : x = j := by omega
                rw [← HKK.out]
                exact HKF.out.symm
            case measure => simp [intOf]; omega
          | true =>
            have hfr : fr = true := by rw [HFR.out]; exact HONE.out rfl
            subst hfr
            go_wp2_with fail
            go_ret
            exact ⟨rfl, HB2.out⟩
        · have hjm : (n : Int) ≤ (j : Int) := by omega
          have hfr : fr = false := by rw [HFR.out]; exact any5_none (fun x hx => hall x hx (by have := HLN.out; omega))
          subst hfr
          clear hall hbw
          go_wp2_with fail
          go_ret
          exact ⟨rfl, HBW.out⟩
  case inr.inr.inr.inr.inr.inl =>
    obtain ⟨hl2, hbf⟩ := f10 ek
    subst hbf
    obtain ⟨L, hL⟩ : ∃ L, d.kids5 = L := ⟨_, rfl⟩
    have hL8 : L = ks.drop 1 := by rw [← hL, HD5.out, if_neg (by omega), if_pos ek]
    have hsub : ∀ x ∈ L, x ∈ ks := fun x hx => by rw [hL8] at hx; exact List.mem_of_mem_drop hx
    have hl1 : L.length = 1 := by rw [hL8, List.length_drop]; have := HLEN.out; omega
    obtain ⟨g0, off0, rfl, hg0, hzz⟩ := HKID0.out 0 (by rw [← HLEN.out]; omega)
    clear hzz
    obtain ⟨A, hA⟩ : ∃ A : Option Addr, A = some ⟨g0, off0 + 6, none⟩ := ⟨_, rfl⟩
    have HKID : Hid (∀ j (hj : j < L.length), ∃ g off, A = some ⟨g, off, none⟩ ∧ g < w.heap.size ∧ ∃ kv, Six w g (off + j * 6) L[j] kv ∧ KV w 0 w.heap.size L[j] kv) := Lib.hid (by
      intro j hj
      have e : L[j] = ks[j + 1]'(by have := HLEN.out; omega) := by simp [hL8, Nat.add_comm]
      rw [e]
      obtain ⟨g, off, he, h1, h2⟩ := HKID0.out (j + 1) (by have := HLEN.out; omega)
      cases he
      refine ⟨g0, off0 + 6, hA, h1, ?_⟩
      rw [show off0 + 6 + j * 6 = off0 + (j + 1) * 6 by omega]
      exact h2)
    obtain ⟨n, hn⟩ : ∃ n, n = 1 := ⟨_, rfl⟩
    have HLN : Hid (L.length = n) := Lib.hid (by rw [hn]; exact hl1)
    have hnb : n < 4194304 := by omega
    have hsl : ∀ W, (Instr.slice 22 (.slice (some ⟨g0, off0, none⟩) len cap) (some (.int .i64 1)) none none).run Tryd.prog W = .ok (.slice A n (cap - 1)) W := by
      intro W
      rw [run_slice_l _ _ _ _ _ (by kernel_rfl) _ _ (by omega) (by omega)]
      have hel : Tryd.prog.elem 22 = 24 := by kernel_rfl
      rw [hel, Tryd.sizeOf24, hA, hn, hl2]
      simp only [sliced, Result.andThen]
      simp [Addr.add]
      omega
    clear hn hl1 hL8 hA hl2 hcap
    have hfr : fr = L.any Doc.frc5 := by rw [HFE.out, if_neg (by omega), if_neg (by omega), if_neg (by simp), hL]
    have HFR := Lib.hid hfr
    have HMEM := Lib.hid (HM0.out L hsub)
    clear hfr hL hsub ek f8 f10 HM0 HFE HD5 HKID0
    go_enter Tryd.func38, Tryd.ntmps38
    go_wp2_with fail
    go_loopw [4] (fun i wr => ∃ j : Nat, j ≤ n ∧ i = .int .i64 (j : Int) ∧ (∀ x (hx : x < L.length), x < j → (L[x]).frc5 = false) ∧ Below w.heap.size w wr) (fun i _ => n - (intOf i).toNat)
    case atStart => exact ⟨0, Nat.zero_le _, rfl, fun x _ h => absurd h (Nat.not_lt_zero x), HST.out⟩
    case round =>
      obtain ⟨j, hj, rfl, hall, hbw⟩ := hrel
      have HALL := Lib.hid hall
      have HBW := Lib.hid hbw
      by_cases hlt : j < n
      · have hjm : (j : Int) < (n : Int) := by omega
        have hj2 : j < L.length := by rw [HLN.out]; exact hlt
        obtain ⟨g, off, rfl, hg, kv2, h6, hk2⟩ := HKID.out j hj2
        have h6' := h6.of (hbw.block _ hg)
        have g0 := h6'.kind
        have g1 := h6'.text
        have g2 := h6'.kids
        have g3 := h6'.brk
        have g4 := h6'.id
        have g5 := h6'.width
        have hkw : KV wr 0 wr.heap.size (L[j]'hj2) kv2 := (hk2.below hbw (Nat.le_refl _)).wide (Nat.le_refl _) hbw.size
        have HC := Lib.hid ((HMEM.out j hj2).1 kv2 wr hkw (HMEM.out j hj2).2.2 (HMEM.out j hj2).2.1)
        have HONE := Lib.hid (fun h => any5_some (ks := L) hj2 h)
        obtain ⟨K, hK⟩ : ∃ K, K = L[j]'hj2 := ⟨_, rfl⟩
        rw [← hK] at g0 g1 g3 g4 g5 HC HONE
        have HKK := Lib.hid hK
        clear h6 h6' hk2 hbw hkw hall hK
        obtain ⟨kf, hkf⟩ : ∃ kf, kf = K.frc5 := ⟨_, rfl⟩
        rw [← hkf] at HC HONE
        have HKF := Lib.hid hkf
        clear hkf
        go_wp2_with fail
        refine HC.out.mono ?_
        rintro e w2 ⟨rfl, hb2⟩
        have HB2 := Lib.hid (HBW.out.call hb2)
        clear hb2 g0 g1 g2 g3 g4 g5
        cases kf with
        | false =>
          go_wp2_with fail
          go_roundw
          case rel =>
            refine ⟨j + 1, by omega, by go_num, fun x hx hxj => ?_, HB2.out⟩
            rcases Nat.lt_or_ge x j with h | h
            · exact HALL.out x hx h
            · obtain rfl : x = j := by omega
              rw [← HKK.out]
              exact HKF.out.symm
          case measure => simp [intOf]; omega
        | true =>
          have hfr : fr = true := by rw [HFR.out]; exact HONE.out rfl
          subst hfr
          go_wp2_with fail
          go_ret
          exact ⟨rfl, HB2.out⟩
      · have hjm : (n : Int) ≤ (j : Int) := by omega
        have hfr : fr = false := by rw [HFR.out]; exact any5_none (fun x hx => hall x hx (by have := HLN.out; omega))
        subst hfr
        clear hall hbw
        go_wp2_with fail
        go_ret
        exact ⟨rfl, HBW.out⟩
  case inr.inr.inr.inr.inr.inr =>
    cases bb with
    | true =>
      have hfr : fr = true := by rw [HFE.out, if_neg (by omega), if_neg (by omega), if_pos rfl]
      subst hfr
      clear ek f8 f10
      go_enter Tryd.func38, Tryd.ntmps38
      go_wp2_with fail
      go_ret
      exact ⟨rfl, (Below.refl _ w).alloc (Nat.le_refl _) _⟩
    | false =>
      obtain ⟨L, hL⟩ : ∃ L, d.kids5 = L := ⟨_, rfl⟩
      have hL8 : L = ks := by rw [← hL, HD5.out, if_neg (by omega), if_neg (by omega)]
      have hsub : ∀ x ∈ L, x ∈ ks := fun x hx => by rw [hL8] at hx; exact hx
      have HKID : Hid (∀ j (hj : j < L.length), ∃ g off, a = some ⟨g, off, none⟩ ∧ g < w.heap.size ∧ ∃ kv, Six w g (off + j * 6) L[j] kv ∧ KV w 0 w.heap.size L[j] kv) := Lib.hid (by
        intro j hj
        subst hL8
        exact HKID0.out j hj)
      obtain ⟨n, hn⟩ : ∃ n, n = len := ⟨_, rfl⟩
      subst hn
      have HLN : Hid (L.length = n) := Lib.hid (by rw [hL8]; exact HLEN.out.symm)
      clear hL8
      have hfr : fr = L.any Doc.frc5 := by rw [HFE.out, if_neg (by omega), if_neg (by omega), if_neg (by simp), hL]
      have HFR := Lib.hid hfr
      have HMEM := Lib.hid (HM0.out L hsub)
      clear hfr hL hsub ek f8 f10 HM0 HFE HD5 HKID0
      go_enter Tryd.func38, Tryd.ntmps38
      go_wp2_with fail
      go_loopw [4] (fun i wr => ∃ j : Nat, j ≤ n ∧ i = .int .i64 (j : Int) ∧ (∀ x (hx : x < L.length), x < j → (L[x]).frc5 = false) ∧ Below w.heap.size w wr) (fun i _ => n - (intOf i).toNat)
      case atStart => exact ⟨0, Nat.zero_le _, rfl, fun x _ h => absurd h (Nat.not_lt_zero x), HST.out⟩
      case round =>
        obtain ⟨j, hj, rfl, hall, hbw⟩ := hrel
        have HALL := Lib.hid hall
        have HBW := Lib.hid hbw
        by_cases hlt : j < n
        · have hjm : (j : Int) < (n : Int) := by omega
          have hj2 : j < L.length := by rw [HLN.out]; exact hlt
          obtain ⟨g, off, rfl, hg, kv2, h6, hk2⟩ := HKID.out j hj2
          have h6' := h6.of (hbw.block _ hg)
          have g0 := h6'.kind
          have g1 := h6'.text
          have g2 := h6'.kids
          have g3 := h6'.brk
          have g4 := h6'.id
          have g5 := h6'.width
          have hkw : KV wr 0 wr.heap.size (L[j]'hj2) kv2 := (hk2.below hbw (Nat.le_refl _)).wide (Nat.le_refl _) hbw.size
          have HC := Lib.hid ((HMEM.out j hj2).1 kv2 wr hkw (HMEM.out j hj2).2.2 (HMEM.out j hj2).2.1)
          have HONE := Lib.hid (fun h => any5_some (ks := L) hj2 h)
          obtain ⟨K, hK⟩ : ∃ K, K = L[j]'hj2 := ⟨_, rfl⟩
          rw [← hK] at g0 g1 g3 g4 g5 HC HONE
          have HKK := Lib.hid hK
          clear h6 h6' hk2 hbw hkw hall hK
          obtain ⟨kf, hkf⟩ : ∃ kf, kf = K.frc5 := ⟨_, rfl⟩
          rw [← hkf] at HC HONE
          have HKF := Lib.hid hkf
          clear hkf
          go_wp2_with fail
          refine HC.out.mono ?_
          rintro e w2 ⟨rfl, hb2⟩
          have HB2 := Lib.hid (HBW.out.call hb2)
          clear hb2 g0 g1 g2 g3 g4 g5
          cases kf with
          | false =>
            go_wp2_with fail
            go_roundw
            case rel =>
              refine ⟨j + 1, by omega, by go_num, fun x hx hxj => ?_, HB2.out⟩
              rcases Nat.lt_or_ge x j with h | h
              · exact HALL.out x hx h
              · obtain rfl : x = j := by omega
                rw [← HKK.out]
                exact HKF.out.symm
            case measure => simp [intOf]; omega
          | true =>
            have hfr : fr = true := by rw [HFR.out]; exact HONE.out rfl
            subst hfr
            go_wp2_with fail
            go_ret
            exact ⟨rfl, HB2.out⟩
        · have hjm : (n : Int) ≤ (j : Int) := by omega
          have hfr : fr = false := by rw [HFR.out]; exact any5_none (fun x hx => hall x hx (by have := HLN.out; omega))
          subst hfr
          clear hall hbw
          go_wp2_with fail
          go_ret
          exact ⟨rfl, HBW.out⟩
  all_goals
    have hfr : fr = true := by rw [HFE.out, if_neg (by omega), if_pos (by omega)]
    subst hfr
    clear ek f8 f10
    go_enter Tryd.func38, Tryd.ntmps38
    go_wp2_with fail
    go_ret
    exact ⟨rfl, (Below.refl _ w).alloc (Nat.le_refl _) _⟩
end Go.Proofs.YtaojlnibkajfbaaDoor
