/- The walks of doc.Flatly, part B. PRINTED by gen_flatly.py. -/
import Derived.Test.YtaojlnibkajfbaaDoorDocFlatlyA
namespace Go.Proofs.YtaojlnibkajfbaaDoor
open Go.RowKit
set_option maxRecDepth 100000
set_option linter.unusedVariables false
set_option linter.unusedSimpArgs false

set_option maxHeartbeats 4000000 in
theorem flatly_7 (t : ByteArray) (ks : List Doc) (brk : Bool) (i y : Int) (a : Option Addr) (cap g off B b : Nat) (bs : List UInt8) (w : World) (h0 : w.cell? ⟨g, off, none⟩ = some (.int .i64 7)) (h1 : w.cell? ⟨g, off + 1, none⟩ = some (.string t)) (h2 : w.cell? ⟨g, off + 2, none⟩ = some (.slice a ks.length cap)) (h3 : w.cell? ⟨g, off + 3, none⟩ = some (.bool brk))
    (hcap : ks.length ≤ cap) (hB : B ≤ w.heap.size) (hh : Held B b bs w) (hbd : bs.length + (Doc.mk 7 t ks brk i y).bulk ≤ 1099511627776) (hsh : (Doc.mk 7 t ks brk i y).shape = true)
    (hkids : 0 < ks.length → ∃ g' off', a = some ⟨g', off', none⟩ ∧ KidsGo B b w ks g' off') :
    Calls Tryd.prog 34 #[.pointer (some ⟨g, off, none⟩), .func (.func 35) #[] #[.pointer (some ⟨b, 0, none⟩)]] w (FlatOut (.mk 7 t ks brk i y) B b bs w) := by
  have h1n : 1 ≤ ks.length := by
    cases ks with
    | nil =>
      exfalso
      rw [Doc.shape_eq] at hsh
      simp [Doc.formed, formedF, Doc.kind, Doc.kids, Doc.text, Doc.brk, Doc.id, Doc.width] at hsh
    | cons x xs => simp
  clear hsh
  cases brk
  · obtain ⟨D, hD⟩ : ∃ D, D = Doc.mk 7 t ks false i y := ⟨_, rfl⟩
    obtain ⟨L, hL⟩ : ∃ L, L = ks.take 1 := ⟨_, rfl⟩
    obtain ⟨n, hn⟩ : ∃ n, n = L.length := ⟨_, rfl⟩
    have HNL : Hid (L.length = n) := Lib.hid hn.symm
    have HDF : Hid (D.flat = flatL L) := Lib.hid (by rw [hD, hL, Doc.flat_eq]; simp only [Doc.kind, Doc.kids, Doc.brk]; rw [← flatH_take]; rfl)
    have HBD : Hid (bs.length + bulkL L ≤ 1099511627776) := Lib.hid (by rw [Doc.bulk_eq] at hbd; simp only [Doc.kids, Doc.text] at hbd; have := bulkL_take ks 1; have := bulkL_drop ks 1; rw [hL]; omega)
    have HH := Lib.hid hh
    have hnb : n ≤ 1099511627776 := by have h1 := nodesL_len ks; have h2 := (Doc.mk 7 t ks false i y).nodes_bulk; rw [Doc.nodes_eq] at h2; simp only [Doc.kids] at h2; have h3 : L.length ≤ ks.length := (by rw [hL]; first | exact Nat.le_refl _ | (simp; done) | (simp; omega)); omega
    rw [← hD]
    have hn1 : n = 1 := by rw [hn, hL, List.length_take]; omega
    obtain ⟨g', off', rfl, hkg⟩ := hkids (by omega)
    have HKG : Hid (KidsGo B b w L g' off') := Lib.hid (by
      intro j hj bs W h1 h2 h3
      have e : L[j] = ks[j]'(by rw [hL, List.length_take] at hj; omega) := by simp [hL]
      rw [e] at h3 ⊢
      exact hkg j _ bs W h1 h2 h3)
    obtain ⟨m, hm⟩ : ∃ m, m = ks.length := ⟨_, rfl⟩
    rw [← hm] at h2 hcap h1n
    have hc0 : cap ≠ 0 := by omega
    have hc1 : 1 ≤ cap := by omega
    have HKN := Lib.hid hm
    have HHN := Lib.hid hn
    have HHL := Lib.hid hL
    have HHD := Lib.hid hD
    clear hm hn hL hD hh hkids hkg hbd
    subst hn1
    go_enter Tryd.func34, Tryd.ntmps34
    go_wp2_with fail
    go_loopw [6, 50] (fun _ i wr => ∃ (j : Nat) (l : List UInt8), j ≤ 1 ∧ i = .int .i64 (j : Int) ∧ flatL (L.take j) = some l ∧ Held B b (bs ++ l) wr ∧ Below B w wr) (fun _ i _ => 1 - (intOf i).toNat)
    case atStart => exact ⟨0, [], Nat.zero_le _, rfl, rfl, by rw [List.append_nil]; exact HH.out, Below.refl B w⟩
    case round =>
      obtain ⟨j, l, hj, rfl, hfl, hhl, hbw⟩ := hrel
      have HFL := Lib.hid hfl
      have HHL := Lib.hid hhl
      clear hfl hhl
      by_cases hlt : j < 1
      · have hjL : j < L.length := by rw [HNL.out]; exact hlt
        have HC := Lib.hid (HKG.out j hjL (bs ++ l) wr hbw HHL.out (by have := flatL_bd hjL HFL.out; have := HBD.out; rw [List.length_append]; omega))
        cases hf : (L[j]).flat with
        | none =>
          have HD : Hid (D.flat = Option.none) := Lib.hid (by rw [HDF.out]; exact flatL_stop hjL hf)
          have HFN := Lib.hid hf
          clear hf
          go_wp2_with fail
          refine HC.out.mono ?_
          intro e w1 hw1
          rw [flatOut_none HFN.out] at hw1
          obtain ⟨rfl, hb1⟩ := hw1
          have HB1 := Lib.hid (hbw.trans hb1)
          clear hb1
          go_wp2_with fail
          go_ret
          rw [flatOut_none HD.out]
          exact ⟨rfl, HB1.out⟩
        | some v =>
          have HM := Lib.hid (flatL_more hjL HFL.out hf)
          have HFN := Lib.hid hf
          clear hf
          go_wp2_with fail
          refine HC.out.mono ?_
          intro e w1 hw1
          rw [flatOut_some HFN.out] at hw1
          obtain ⟨rfl, hh1, hb1⟩ := hw1
          have HB1 := Lib.hid (hbw.trans hb1)
          have HH1 := Lib.hid hh1
          clear hb1 hh1
          go_wp2_with fail
          go_roundw
          case rel => exact ⟨j + 1, l ++ v, by omega, by go_num, HM.out, by rw [← List.append_assoc]; exact HH1.out, HB1.out⟩
          case measure => simp [intOf]; omega
      · have HD : Hid (D.flat = some l) := Lib.hid (by rw [HDF.out]; have := HFL.out; rw [List.take_of_length_le (by rw [HNL.out]; omega)] at this; exact this)
        go_wp2_with fail
        go_ret
        rw [flatOut_some HD.out]
        exact ⟨rfl, HHL.out, hbw⟩
  · have HF : Hid ((Doc.mk 7 t ks true i y).flat = Option.none) := Lib.hid (by rw [Doc.flat_eq]; rfl)
    clear hh hkids
    go_enter Tryd.func34, Tryd.ntmps34
    go_wp2_with fail
    go_ret
    rw [flatOut_none HF.out]
    exact ⟨rfl, Below.refl B w⟩

set_option maxHeartbeats 4000000 in
theorem flatly_8 (t : ByteArray) (ks : List Doc) (brk : Bool) (i y : Int) (a : Option Addr) (cap g off B b : Nat) (bs : List UInt8) (w : World) (h0 : w.cell? ⟨g, off, none⟩ = some (.int .i64 8)) (h1 : w.cell? ⟨g, off + 1, none⟩ = some (.string t)) (h2 : w.cell? ⟨g, off + 2, none⟩ = some (.slice a ks.length cap)) (h3 : w.cell? ⟨g, off + 3, none⟩ = some (.bool brk))
    (hcap : ks.length ≤ cap) (hB : B ≤ w.heap.size) (hh : Held B b bs w) (hbd : bs.length + (Doc.mk 8 t ks brk i y).bulk ≤ 1099511627776) (hsh : (Doc.mk 8 t ks brk i y).shape = true)
    (hkids : 0 < ks.length → ∃ g' off', a = some ⟨g', off', none⟩ ∧ KidsGo B b w ks g' off') :
    Calls Tryd.prog 34 #[.pointer (some ⟨g, off, none⟩), .func (.func 35) #[] #[.pointer (some ⟨b, 0, none⟩)]] w (FlatOut (.mk 8 t ks brk i y) B b bs w) := by
  have h1n : 1 ≤ ks.length := by
    cases ks with
    | nil =>
      exfalso
      rw [Doc.shape_eq] at hsh
      simp [Doc.formed, formedF, Doc.kind, Doc.kids, Doc.text, Doc.brk, Doc.id, Doc.width] at hsh
    | cons x xs => simp
  clear hsh
  cases brk
  · obtain ⟨D, hD⟩ : ∃ D, D = Doc.mk 8 t ks false i y := ⟨_, rfl⟩
    obtain ⟨L, hL⟩ : ∃ L, L = ks.take 1 := ⟨_, rfl⟩
    obtain ⟨n, hn⟩ : ∃ n, n = L.length := ⟨_, rfl⟩
    have HNL : Hid (L.length = n) := Lib.hid hn.symm
    have HDF : Hid (D.flat = flatL L) := Lib.hid (by rw [hD, hL, Doc.flat_eq]; simp only [Doc.kind, Doc.kids, Doc.brk]; rw [← flatH_take]; rfl)
    have HBD : Hid (bs.length + bulkL L ≤ 1099511627776) := Lib.hid (by rw [Doc.bulk_eq] at hbd; simp only [Doc.kids, Doc.text] at hbd; have := bulkL_take ks 1; have := bulkL_drop ks 1; rw [hL]; omega)
    have HH := Lib.hid hh
    have hnb : n ≤ 1099511627776 := by have h1 := nodesL_len ks; have h2 := (Doc.mk 8 t ks false i y).nodes_bulk; rw [Doc.nodes_eq] at h2; simp only [Doc.kids] at h2; have h3 : L.length ≤ ks.length := (by rw [hL]; first | exact Nat.le_refl _ | (simp; done) | (simp; omega)); omega
    rw [← hD]
    have hn1 : n = 1 := by rw [hn, hL, List.length_take]; omega
    obtain ⟨g', off', rfl, hkg⟩ := hkids (by omega)
    have HKG : Hid (KidsGo B b w L g' off') := Lib.hid (by
      intro j hj bs W h1 h2 h3
      have e : L[j] = ks[j]'(by rw [hL, List.length_take] at hj; omega) := by simp [hL]
      rw [e] at h3 ⊢
      exact hkg j _ bs W h1 h2 h3)
    obtain ⟨m, hm⟩ : ∃ m, m = ks.length := ⟨_, rfl⟩
    rw [← hm] at h2 hcap h1n
    have hc0 : cap ≠ 0 := by omega
    have hc1 : 1 ≤ cap := by omega
    have HKN := Lib.hid hm
    have HHN := Lib.hid hn
    have HHL := Lib.hid hL
    have HHD := Lib.hid hD
    clear hm hn hL hD hh hkids hkg hbd
    subst hn1
    go_enter Tryd.func34, Tryd.ntmps34
    go_wp2_with fail
    go_loopw [6, 50] (fun _ i wr => ∃ (j : Nat) (l : List UInt8), j ≤ 1 ∧ i = .int .i64 (j : Int) ∧ flatL (L.take j) = some l ∧ Held B b (bs ++ l) wr ∧ Below B w wr) (fun _ i _ => 1 - (intOf i).toNat)
    case atStart => exact ⟨0, [], Nat.zero_le _, rfl, rfl, by rw [List.append_nil]; exact HH.out, Below.refl B w⟩
    case round =>
      obtain ⟨j, l, hj, rfl, hfl, hhl, hbw⟩ := hrel
      have HFL := Lib.hid hfl
      have HHL := Lib.hid hhl
      clear hfl hhl
      by_cases hlt : j < 1
      · have hjL : j < L.length := by rw [HNL.out]; exact hlt
        have HC := Lib.hid (HKG.out j hjL (bs ++ l) wr hbw HHL.out (by have := flatL_bd hjL HFL.out; have := HBD.out; rw [List.length_append]; omega))
        cases hf : (L[j]).flat with
        | none =>
          have HD : Hid (D.flat = Option.none) := Lib.hid (by rw [HDF.out]; exact flatL_stop hjL hf)
          have HFN := Lib.hid hf
          clear hf
          go_wp2_with fail
          refine HC.out.mono ?_
          intro e w1 hw1
          rw [flatOut_none HFN.out] at hw1
          obtain ⟨rfl, hb1⟩ := hw1
          have HB1 := Lib.hid (hbw.trans hb1)
          clear hb1
          go_wp2_with fail
          go_ret
          rw [flatOut_none HD.out]
          exact ⟨rfl, HB1.out⟩
        | some v =>
          have HM := Lib.hid (flatL_more hjL HFL.out hf)
          have HFN := Lib.hid hf
          clear hf
          go_wp2_with fail
          refine HC.out.mono ?_
          intro e w1 hw1
          rw [flatOut_some HFN.out] at hw1
          obtain ⟨rfl, hh1, hb1⟩ := hw1
          have HB1 := Lib.hid (hbw.trans hb1)
          have HH1 := Lib.hid hh1
          clear hb1 hh1
          go_wp2_with fail
          go_roundw
          case rel => exact ⟨j + 1, l ++ v, by omega, by go_num, HM.out, by rw [← List.append_assoc]; exact HH1.out, HB1.out⟩
          case measure => simp [intOf]; omega
      · have HD : Hid (D.flat = some l) := Lib.hid (by rw [HDF.out]; have := HFL.out; rw [List.take_of_length_le (by rw [HNL.out]; omega)] at this; exact this)
        go_wp2_with fail
        go_ret
        rw [flatOut_some HD.out]
        exact ⟨rfl, HHL.out, hbw⟩
  · have HF : Hid ((Doc.mk 8 t ks true i y).flat = Option.none) := Lib.hid (by rw [Doc.flat_eq]; rfl)
    clear hh hkids
    go_enter Tryd.func34, Tryd.ntmps34
    go_wp2_with fail
    go_ret
    rw [flatOut_none HF.out]
    exact ⟨rfl, Below.refl B w⟩

set_option maxHeartbeats 4000000 in
theorem flatly_10 (t : ByteArray) (ks : List Doc) (brk : Bool) (i y : Int) (a : Option Addr) (cap g off B b : Nat) (bs : List UInt8) (w : World) (h0 : w.cell? ⟨g, off, none⟩ = some (.int .i64 10)) (h1 : w.cell? ⟨g, off + 1, none⟩ = some (.string t)) (h2 : w.cell? ⟨g, off + 2, none⟩ = some (.slice a ks.length cap)) (h3 : w.cell? ⟨g, off + 3, none⟩ = some (.bool brk))
    (hcap : ks.length ≤ cap) (hB : B ≤ w.heap.size) (hh : Held B b bs w) (hbd : bs.length + (Doc.mk 10 t ks brk i y).bulk ≤ 1099511627776) (hsh : (Doc.mk 10 t ks brk i y).shape = true)
    (hkids : 0 < ks.length → ∃ g' off', a = some ⟨g', off', none⟩ ∧ KidsGo B b w ks g' off') :
    Calls Tryd.prog 34 #[.pointer (some ⟨g, off, none⟩), .func (.func 35) #[] #[.pointer (some ⟨b, 0, none⟩)]] w (FlatOut (.mk 10 t ks brk i y) B b bs w) := by
  have h1n : ks.length = 2 := by
    rw [Doc.shape_eq] at hsh
    simp only [Doc.formed, formedF, Doc.kind, Doc.kids, Doc.text, Doc.brk, Doc.id, Doc.width] at hsh
    simp at hsh
    omega
  clear hsh
  obtain ⟨D, hD⟩ : ∃ D, D = Doc.mk 10 t ks brk i y := ⟨_, rfl⟩
  obtain ⟨L, hL⟩ : ∃ L, L = ks.drop 1 := ⟨_, rfl⟩
  obtain ⟨n, hn⟩ : ∃ n, n = L.length := ⟨_, rfl⟩
  have HNL : Hid (L.length = n) := Lib.hid hn.symm
  have HDF : Hid (D.flat = flatL L) := Lib.hid (by rw [hD, hL, Doc.flat_eq]; simp only [Doc.kind, Doc.kids, Doc.brk]; rw [← flatT_drop]; rfl)
  have HBD : Hid (bs.length + bulkL L ≤ 1099511627776) := Lib.hid (by rw [Doc.bulk_eq] at hbd; simp only [Doc.kids, Doc.text] at hbd; have := bulkL_take ks 1; have := bulkL_drop ks 1; rw [hL]; omega)
  have HH := Lib.hid hh
  have hnb : n ≤ 1099511627776 := by have h1 := nodesL_len ks; have h2 := (Doc.mk 10 t ks brk i y).nodes_bulk; rw [Doc.nodes_eq] at h2; simp only [Doc.kids] at h2; have h3 : L.length ≤ ks.length := (by rw [hL]; first | exact Nat.le_refl _ | (simp; done) | (simp; omega)); omega
  rw [← hD]
  have hn1 : n = 1 := by rw [hn, hL, List.length_drop]; omega
  obtain ⟨g', off', rfl, hkg⟩ := hkids (by omega)
  have HKG : Hid (KidsGo B b w L g' (off' + 6)) := Lib.hid (by
    intro j hj bs W h1 h2 h3
    have e : L[j] = ks[j + 1]'(by rw [hL, List.length_drop] at hj; omega) := by simp [hL, Nat.add_comm]
    rw [e] at h3 ⊢
    have := hkg (j + 1) (by rw [hL, List.length_drop] at hj; omega) bs W h1 h2 h3
    rw [show off' + (j + 1) * 6 = off' + 6 + j * 6 by omega] at this
    exact this)
  rw [h1n] at h2 hcap
  have hc0 : cap ≠ 1 := by omega
  have hc1 : 1 ≤ cap := by omega
  have HKN := Lib.hid h1n
  have HHN := Lib.hid hn
  have HHL := Lib.hid hL
  have HHD := Lib.hid hD
  clear h1n hn hL hD hh hkids hkg hbd
  subst hn1
  go_enter Tryd.func34, Tryd.ntmps34
  go_wp2_with fail
  go_loopw [6, 50] (fun _ i wr => ∃ (j : Nat) (l : List UInt8), j ≤ 1 ∧ i = .int .i64 (j : Int) ∧ flatL (L.take j) = some l ∧ Held B b (bs ++ l) wr ∧ Below B w wr) (fun _ i _ => 1 - (intOf i).toNat)
  case atStart => exact ⟨0, [], Nat.zero_le _, rfl, rfl, by rw [List.append_nil]; exact HH.out, Below.refl B w⟩
  case round =>
    obtain ⟨j, l, hj, rfl, hfl, hhl, hbw⟩ := hrel
    have HFL := Lib.hid hfl
    have HHL := Lib.hid hhl
    clear hfl hhl
    by_cases hlt : j < 1
    · have hjL : j < L.length := by rw [HNL.out]; exact hlt
      have HC := Lib.hid (HKG.out j hjL (bs ++ l) wr hbw HHL.out (by have := flatL_bd hjL HFL.out; have := HBD.out; rw [List.length_append]; omega))
      cases hf : (L[j]).flat with
      | none =>
        have HD : Hid (D.flat = Option.none) := Lib.hid (by rw [HDF.out]; exact flatL_stop hjL hf)
        have HFN := Lib.hid hf
        clear hf
        go_wp2_with fail
        refine HC.out.mono ?_
        intro e w1 hw1
        rw [flatOut_none HFN.out] at hw1
        obtain ⟨rfl, hb1⟩ := hw1
        have HB1 := Lib.hid (hbw.trans hb1)
        clear hb1
        go_wp2_with fail
        go_ret
        rw [flatOut_none HD.out]
        exact ⟨rfl, HB1.out⟩
      | some v =>
        have HM := Lib.hid (flatL_more hjL HFL.out hf)
        have HFN := Lib.hid hf
        clear hf
        go_wp2_with fail
        refine HC.out.mono ?_
        intro e w1 hw1
        rw [flatOut_some HFN.out] at hw1
        obtain ⟨rfl, hh1, hb1⟩ := hw1
        have HB1 := Lib.hid (hbw.trans hb1)
        have HH1 := Lib.hid hh1
        clear hb1 hh1
        go_wp2_with fail
        go_roundw
        case rel => exact ⟨j + 1, l ++ v, by omega, by go_num, HM.out, by rw [← List.append_assoc]; exact HH1.out, HB1.out⟩
        case measure => simp [intOf]; omega
    · have HD : Hid (D.flat = some l) := Lib.hid (by rw [HDF.out]; have := HFL.out; rw [List.take_of_length_le (by rw [HNL.out]; omega)] at this; exact this)
      go_wp2_with fail
      go_ret
      rw [flatOut_some HD.out]
      exact ⟨rfl, HHL.out, hbw⟩
end Go.Proofs.YtaojlnibkajfbaaDoor
