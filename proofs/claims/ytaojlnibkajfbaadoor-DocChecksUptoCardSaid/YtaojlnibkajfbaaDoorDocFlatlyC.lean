/- The walks of doc.Flatly, part C. PRINTED by gen_flatly.py. -/
import Derived.Test.YtaojlnibkajfbaaDoorDocFlatlyA
namespace Go.Proofs.YtaojlnibkajfbaaDoor
open Go.RowKit
set_option maxRecDepth 100000
set_option linter.unusedVariables false
set_option linter.unusedSimpArgs false

set_option maxHeartbeats 4000000 in
theorem flatly_2 (t : ByteArray) (ks : List Doc) (brk : Bool) (i y : Int) (a : Option Addr) (cap g off B b : Nat) (bs : List UInt8) (w : World) (h0 : w.cell? ⟨g, off, none⟩ = some (.int .i64 2)) (h1 : w.cell? ⟨g, off + 1, none⟩ = some (.string t)) (h2 : w.cell? ⟨g, off + 2, none⟩ = some (.slice a ks.length cap)) (h3 : w.cell? ⟨g, off + 3, none⟩ = some (.bool brk))
    (hcap : ks.length ≤ cap) (hB : B ≤ w.heap.size) (hh : Held B b bs w) (hbd : bs.length + (Doc.mk 2 t ks brk i y).bulk ≤ 1099511627776) (hsh : (Doc.mk 2 t ks brk i y).shape = true)
    (hkids : 0 < ks.length → ∃ g' off', a = some ⟨g', off', none⟩ ∧ KidsGo B b w ks g' off') :
    Calls Tryd.prog 34 #[.pointer (some ⟨g, off, none⟩), .func (.func 35) #[] #[.pointer (some ⟨b, 0, none⟩)]] w (FlatOut (.mk 2 t ks brk i y) B b bs w) := by
  clear hsh
  obtain ⟨D, hD⟩ : ∃ D, D = Doc.mk 2 t ks brk i y := ⟨_, rfl⟩
  obtain ⟨L, hL⟩ : ∃ L, L = ks := ⟨_, rfl⟩
  obtain ⟨n, hn⟩ : ∃ n, n = L.length := ⟨_, rfl⟩
  have HNL : Hid (L.length = n) := Lib.hid hn.symm
  have HDF : Hid (D.flat = flatL L) := Lib.hid (by rw [hD, hL, Doc.flat_eq]; simp only [Doc.kind, Doc.kids, Doc.brk]; rfl)
  have HBD : Hid (bs.length + bulkL L ≤ 1099511627776) := Lib.hid (by rw [Doc.bulk_eq] at hbd; simp only [Doc.kids, Doc.text] at hbd; have := bulkL_take ks 1; have := bulkL_drop ks 1; rw [hL]; omega)
  have HH := Lib.hid hh
  have hnb : n ≤ 1099511627776 := by have h1 := nodesL_len ks; have h2 := (Doc.mk 2 t ks brk i y).nodes_bulk; rw [Doc.nodes_eq] at h2; simp only [Doc.kids] at h2; have h3 : L.length ≤ ks.length := (by rw [hL]; first | exact Nat.le_refl _ | (simp; done) | (simp; omega)); omega
  rw [← hD]
  have hks : ks.length = n := by rw [hn, hL]
  rw [hks] at h2 hcap
  by_cases h0n : n = 0
  · have HKG : Hid (∀ (j : Nat) (hj : j < L.length) (bs : List UInt8) (W : World), Below B w W → Held B b bs W → bs.length + (L[j]).bulk ≤ 1099511627776 → Calls Tryd.prog 34 #[.pointer none, .func (.func 35) #[] #[.pointer (some ⟨b, 0, none⟩)]] W (FlatOut L[j] B b bs W)) := Lib.hid (fun j hj => by omega)
    have HD : Hid (D.flat = some []) := Lib.hid (by rw [HDF.out]; have : L = [] := List.eq_nil_of_length_eq_zero (by omega); rw [this]; rfl)
    have HKN := Lib.hid hks
    have HHN := Lib.hid hn
    have HHL := Lib.hid hL
    have HHD := Lib.hid hD
    clear hks hn hL hD hh hkids hbd
    subst h0n
    go_enter Tryd.func34, Tryd.ntmps34
    go_wp2_with fail
    go_loopw [6, 50] (fun _ i wr => i = .int .i64 0 ∧ wr = w) (fun _ i _ => 0)
    case atStart => exact ⟨rfl, rfl⟩
    case round =>
      obtain ⟨rfl, rfl⟩ := hrel
      go_wp2_with fail
      go_ret
      rw [flatOut_some HD.out, List.append_nil]
      exact ⟨rfl, HH.out, Below.refl B _⟩
  · obtain ⟨g', off', rfl, hkg⟩ := hkids (by omega)
    have HKG : Hid (KidsGo B b w L g' off') := Lib.hid (by rw [hL]; exact hkg)
    have HKN := Lib.hid hks
    have HHN := Lib.hid hn
    have HHL := Lib.hid hL
    have HHD := Lib.hid hD
    clear hks hn hL hD hh hkids hkg hbd
    go_enter Tryd.func34, Tryd.ntmps34
    go_wp2_with fail
    go_loopw [6, 50] (fun _ i wr => ∃ (j : Nat) (l : List UInt8), j ≤ n ∧ i = .int .i64 (j : Int) ∧ flatL (L.take j) = some l ∧ Held B b (bs ++ l) wr ∧ Below B w wr) (fun _ i _ => n - (intOf i).toNat)
    case atStart => exact ⟨0, [], Nat.zero_le _, rfl, rfl, by rw [List.append_nil]; exact HH.out, Below.refl B w⟩
    case round =>
      obtain ⟨j, l, hj, rfl, hfl, hhl, hbw⟩ := hrel
      have HFL := Lib.hid hfl
      have HHL := Lib.hid hhl
      clear hfl hhl
      by_cases hlt : j < n
      · have hjL : j < L.length := by rw [HNL.out]; exact hlt
        have HC := Lib.hid (HKG.out j hjL (bs ++ l) wr hbw HHL.out (by have := flatL_bd hjL HFL.out; have := HBD.out; rw [List.length_append]; omega))
        cases hf : (L[j]).flat with
        | none =>
          have HD : Hid (D.flat = Option.none) := Lib.hid (by rw [HDF.out]; exact flatL_stop hjL hf)
          have HFN := Lib.hid hf
          clear hf
          go_wp2_with fail
          refine HC.out.mono ?_
          intro e w1 hw1
          rw [flatOut_none HFN.out] at hw1
          obtain ⟨rfl, hb1⟩ := hw1
          have HB1 := Lib.hid (hbw.trans hb1)
          clear hb1
          go_wp2_with fail
          go_ret
          rw [flatOut_none HD.out]
          exact ⟨rfl, HB1.out⟩
        | some v =>
          have HM := Lib.hid (flatL_more hjL HFL.out hf)
          have HFN := Lib.hid hf
          clear hf
          go_wp2_with fail
          refine HC.out.mono ?_
          intro e w1 hw1
          rw [flatOut_some HFN.out] at hw1
          obtain ⟨rfl, hh1, hb1⟩ := hw1
          have HB1 := Lib.hid (hbw.trans hb1)
          have HH1 := Lib.hid hh1
          clear hb1 hh1
          go_wp2_with fail
          go_roundw
          case rel => exact ⟨j + 1, l ++ v, by omega, by go_num, HM.out, by rw [← List.append_assoc]; exact HH1.out, HB1.out⟩
          case measure => simp [intOf]; omega
      · have HD : Hid (D.flat = some l) := Lib.hid (by rw [HDF.out]; have := HFL.out; rw [List.take_of_length_le (by rw [HNL.out]; omega)] at this; exact this)
        go_wp2_with fail
        go_ret
        rw [flatOut_some HD.out]
        exact ⟨rfl, HHL.out, hbw⟩

set_option maxHeartbeats 4000000 in
theorem flatly_9 (t : ByteArray) (ks : List Doc) (brk : Bool) (i y : Int) (a : Option Addr) (cap g off B b : Nat) (bs : List UInt8) (w : World) (h0 : w.cell? ⟨g, off, none⟩ = some (.int .i64 9)) (h1 : w.cell? ⟨g, off + 1, none⟩ = some (.string t)) (h2 : w.cell? ⟨g, off + 2, none⟩ = some (.slice a ks.length cap)) (h3 : w.cell? ⟨g, off + 3, none⟩ = some (.bool brk))
    (hcap : ks.length ≤ cap) (hB : B ≤ w.heap.size) (hh : Held B b bs w) (hbd : bs.length + (Doc.mk 9 t ks brk i y).bulk ≤ 1099511627776) (hsh : (Doc.mk 9 t ks brk i y).shape = true)
    (hkids : 0 < ks.length → ∃ g' off', a = some ⟨g', off', none⟩ ∧ KidsGo B b w ks g' off') :
    Calls Tryd.prog 34 #[.pointer (some ⟨g, off, none⟩), .func (.func 35) #[] #[.pointer (some ⟨b, 0, none⟩)]] w (FlatOut (.mk 9 t ks brk i y) B b bs w) := by
  clear hsh
  obtain ⟨D, hD⟩ : ∃ D, D = Doc.mk 9 t ks brk i y := ⟨_, rfl⟩
  obtain ⟨L, hL⟩ : ∃ L, L = ks := ⟨_, rfl⟩
  obtain ⟨n, hn⟩ : ∃ n, n = L.length := ⟨_, rfl⟩
  have HNL : Hid (L.length = n) := Lib.hid hn.symm
  have HDF : Hid (D.flat = flatL L) := Lib.hid (by rw [hD, hL, Doc.flat_eq]; simp only [Doc.kind, Doc.kids, Doc.brk]; rfl)
  have HBD : Hid (bs.length + bulkL L ≤ 1099511627776) := Lib.hid (by rw [Doc.bulk_eq] at hbd; simp only [Doc.kids, Doc.text] at hbd; have := bulkL_take ks 1; have := bulkL_drop ks 1; rw [hL]; omega)
  have HH := Lib.hid hh
  have hnb : n ≤ 1099511627776 := by have h1 := nodesL_len ks; have h2 := (Doc.mk 9 t ks brk i y).nodes_bulk; rw [Doc.nodes_eq] at h2; simp only [Doc.kids] at h2; have h3 : L.length ≤ ks.length := (by rw [hL]; first | exact Nat.le_refl _ | (simp; done) | (simp; omega)); omega
  rw [← hD]
  have hks : ks.length = n := by rw [hn, hL]
  rw [hks] at h2 hcap
  by_cases h0n : n = 0
  · have HKG : Hid (∀ (j : Nat) (hj : j < L.length) (bs : List UInt8) (W : World), Below B w W → Held B b bs W → bs.length + (L[j]).bulk ≤ 1099511627776 → Calls Tryd.prog 34 #[.pointer none, .func (.func 35) #[] #[.pointer (some ⟨b, 0, none⟩)]] W (FlatOut L[j] B b bs W)) := Lib.hid (fun j hj => by omega)
    have HD : Hid (D.flat = some []) := Lib.hid (by rw [HDF.out]; have : L = [] := List.eq_nil_of_length_eq_zero (by omega); rw [this]; rfl)
    have HKN := Lib.hid hks
    have HHN := Lib.hid hn
    have HHL := Lib.hid hL
    have HHD := Lib.hid hD
    clear hks hn hL hD hh hkids hbd
    subst h0n
    go_enter Tryd.func34, Tryd.ntmps34
    go_wp2_with fail
    go_loopw [6, 50] (fun _ i wr => i = .int .i64 0 ∧ wr = w) (fun _ i _ => 0)
    case atStart => exact ⟨rfl, rfl⟩
    case round =>
      obtain ⟨rfl, rfl⟩ := hrel
      go_wp2_with fail
      go_ret
      rw [flatOut_some HD.out, List.append_nil]
      exact ⟨rfl, HH.out, Below.refl B _⟩
  · obtain ⟨g', off', rfl, hkg⟩ := hkids (by omega)
    have HKG : Hid (KidsGo B b w L g' off') := Lib.hid (by rw [hL]; exact hkg)
    have HKN := Lib.hid hks
    have HHN := Lib.hid hn
    have HHL := Lib.hid hL
    have HHD := Lib.hid hD
    clear hks hn hL hD hh hkids hkg hbd
    go_enter Tryd.func34, Tryd.ntmps34
    go_wp2_with fail
    go_loopw [6, 50] (fun _ i wr => ∃ (j : Nat) (l : List UInt8), j ≤ n ∧ i = .int .i64 (j : Int) ∧ flatL (L.take j) = some l ∧ Held B b (bs ++ l) wr ∧ Below B w wr) (fun _ i _ => n - (intOf i).toNat)
    case atStart => exact ⟨0, [], Nat.zero_le _, rfl, rfl, by rw [List.append_nil]; exact HH.out, Below.refl B w⟩
    case round =>
      obtain ⟨j, l, hj, rfl, hfl, hhl, hbw⟩ := hrel
      have HFL := Lib.hid hfl
      have HHL := Lib.hid hhl
      clear hfl hhl
      by_cases hlt : j < n
      · have hjL : j < L.length := by rw [HNL.out]; exact hlt
        have HC := Lib.hid (HKG.out j hjL (bs ++ l) wr hbw HHL.out (by have := flatL_bd hjL HFL.out; have := HBD.out; rw [List.length_append]; omega))
        cases hf : (L[j]).flat with
        | none =>
          have HD : Hid (D.flat = Option.none) := Lib.hid (by rw [HDF.out]; exact flatL_stop hjL hf)
          have HFN := Lib.hid hf
          clear hf
          go_wp2_with fail
          refine HC.out.mono ?_
          intro e w1 hw1
          rw [flatOut_none HFN.out] at hw1
          obtain ⟨rfl, hb1⟩ := hw1
          have HB1 := Lib.hid (hbw.trans hb1)
          clear hb1
          go_wp2_with fail
          go_ret
          rw [flatOut_none HD.out]
          exact ⟨rfl, HB1.out⟩
        | some v =>
          have HM := Lib.hid (flatL_more hjL HFL.out hf)
          have HFN := Lib.hid hf
          clear hf
          go_wp2_with fail
          refine HC.out.mono ?_
          intro e w1 hw1
          rw [flatOut_some HFN.out] at hw1
          obtain ⟨rfl, hh1, hb1⟩ := hw1
          have HB1 := Lib.hid (hbw.trans hb1)
          have HH1 := Lib.hid hh1
          clear hb1 hh1
          go_wp2_with fail
          go_roundw
          case rel => exact ⟨j + 1, l ++ v, by omega, by go_num, HM.out, by rw [← List.append_assoc]; exact HH1.out, HB1.out⟩
          case measure => simp [intOf]; omega
      · have HD : Hid (D.flat = some l) := Lib.hid (by rw [HDF.out]; have := HFL.out; rw [List.take_of_length_le (by rw [HNL.out]; omega)] at this; exact this)
        go_wp2_with fail
        go_ret
        rw [flatOut_some HD.out]
        exact ⟨rfl, HHL.out, hbw⟩

set_option maxHeartbeats 4000000 in
theorem flatly_11 (t : ByteArray) (ks : List Doc) (brk : Bool) (i y : Int) (a : Option Addr) (cap g off B b : Nat) (bs : List UInt8) (w : World) (h0 : w.cell? ⟨g, off, none⟩ = some (.int .i64 11)) (h1 : w.cell? ⟨g, off + 1, none⟩ = some (.string t)) (h2 : w.cell? ⟨g, off + 2, none⟩ = some (.slice a ks.length cap)) (h3 : w.cell? ⟨g, off + 3, none⟩ = some (.bool brk))
    (hcap : ks.length ≤ cap) (hB : B ≤ w.heap.size) (hh : Held B b bs w) (hbd : bs.length + (Doc.mk 11 t ks brk i y).bulk ≤ 1099511627776) (hsh : (Doc.mk 11 t ks brk i y).shape = true)
    (hkids : 0 < ks.length → ∃ g' off', a = some ⟨g', off', none⟩ ∧ KidsGo B b w ks g' off') :
    Calls Tryd.prog 34 #[.pointer (some ⟨g, off, none⟩), .func (.func 35) #[] #[.pointer (some ⟨b, 0, none⟩)]] w (FlatOut (.mk 11 t ks brk i y) B b bs w) := by
  clear hsh
  obtain ⟨D, hD⟩ : ∃ D, D = Doc.mk 11 t ks brk i y := ⟨_, rfl⟩
  obtain ⟨L, hL⟩ : ∃ L, L = ks := ⟨_, rfl⟩
  obtain ⟨n, hn⟩ : ∃ n, n = L.length := ⟨_, rfl⟩
  have HNL : Hid (L.length = n) := Lib.hid hn.symm
  have HDF : Hid (D.flat = flatL L) := Lib.hid (by rw [hD, hL, Doc.flat_eq]; simp only [Doc.kind, Doc.kids, Doc.brk]; rfl)
  have HBD : Hid (bs.length + bulkL L ≤ 1099511627776) := Lib.hid (by rw [Doc.bulk_eq] at hbd; simp only [Doc.kids, Doc.text] at hbd; have := bulkL_take ks 1; have := bulkL_drop ks 1; rw [hL]; omega)
  have HH := Lib.hid hh
  have hnb : n ≤ 1099511627776 := by have h1 := nodesL_len ks; have h2 := (Doc.mk 11 t ks brk i y).nodes_bulk; rw [Doc.nodes_eq] at h2; simp only [Doc.kids] at h2; have h3 : L.length ≤ ks.length := (by rw [hL]; first | exact Nat.le_refl _ | (simp; done) | (simp; omega)); omega
  rw [← hD]
  have hks : ks.length = n := by rw [hn, hL]
  rw [hks] at h2 hcap
  by_cases h0n : n = 0
  · have HKG : Hid (∀ (j : Nat) (hj : j < L.length) (bs : List UInt8) (W : World), Below B w W → Held B b bs W → bs.length + (L[j]).bulk ≤ 1099511627776 → Calls Tryd.prog 34 #[.pointer none, .func (.func 35) #[] #[.pointer (some ⟨b, 0, none⟩)]] W (FlatOut L[j] B b bs W)) := Lib.hid (fun j hj => by omega)
    have HD : Hid (D.flat = some []) := Lib.hid (by rw [HDF.out]; have : L = [] := List.eq_nil_of_length_eq_zero (by omega); rw [this]; rfl)
    have HKN := Lib.hid hks
    have HHN := Lib.hid hn
    have HHL := Lib.hid hL
    have HHD := Lib.hid hD
    clear hks hn hL hD hh hkids hbd
    subst h0n
    go_enter Tryd.func34, Tryd.ntmps34
    go_wp2_with fail
    go_loopw [6, 50] (fun _ i wr => i = .int .i64 0 ∧ wr = w) (fun _ i _ => 0)
    case atStart => exact ⟨rfl, rfl⟩
    case round =>
      obtain ⟨rfl, rfl⟩ := hrel
      go_wp2_with fail
      go_ret
      rw [flatOut_some HD.out, List.append_nil]
      exact ⟨rfl, HH.out, Below.refl B _⟩
  · obtain ⟨g', off', rfl, hkg⟩ := hkids (by omega)
    have HKG : Hid (KidsGo B b w L g' off') := Lib.hid (by rw [hL]; exact hkg)
    have HKN := Lib.hid hks
    have HHN := Lib.hid hn
    have HHL := Lib.hid hL
    have HHD := Lib.hid hD
    clear hks hn hL hD hh hkids hkg hbd
    go_enter Tryd.func34, Tryd.ntmps34
    go_wp2_with fail
    go_loopw [6, 50] (fun _ i wr => ∃ (j : Nat) (l : List UInt8), j ≤ n ∧ i = .int .i64 (j : Int) ∧ flatL (L.take j) = some l ∧ Held B b (bs ++ l) wr ∧ Below B w wr) (fun _ i _ => n - (intOf i).toNat)
    case atStart => exact ⟨0, [], Nat.zero_le _, rfl, rfl, by rw [List.append_nil]; exact HH.out, Below.refl B w⟩
    case round =>
      obtain ⟨j, l, hj, rfl, hfl, hhl, hbw⟩ := hrel
      have HFL := Lib.hid hfl
      have HHL := Lib.hid hhl
      clear hfl hhl
      by_cases hlt : j < n
      · have hjL : j < L.length := by rw [HNL.out]; exact hlt
        have HC := Lib.hid (HKG.out j hjL (bs ++ l) wr hbw HHL.out (by have := flatL_bd hjL HFL.out; have := HBD.out; rw [List.length_append]; omega))
        cases hf : (L[j]).flat with
        | none =>
          have HD : Hid (D.flat = Option.none) := Lib.hid (by rw [HDF.out]; exact flatL_stop hjL hf)
          have HFN := Lib.hid hf
          clear hf
          go_wp2_with fail
          refine HC.out.mono ?_
          intro e w1 hw1
          rw [flatOut_none HFN.out] at hw1
          obtain ⟨rfl, hb1⟩ := hw1
          have HB1 := Lib.hid (hbw.trans hb1)
          clear hb1
          go_wp2_with fail
          go_ret
          rw [flatOut_none HD.out]
          exact ⟨rfl, HB1.out⟩
        | some v =>
          have HM := Lib.hid (flatL_more hjL HFL.out hf)
          have HFN := Lib.hid hf
          clear hf
          go_wp2_with fail
          refine HC.out.mono ?_
          intro e w1 hw1
          rw [flatOut_some HFN.out] at hw1
          obtain ⟨rfl, hh1, hb1⟩ := hw1
          have HB1 := Lib.hid (hbw.trans hb1)
          have HH1 := Lib.hid hh1
          clear hb1 hh1
          go_wp2_with fail
          go_roundw
          case rel => exact ⟨j + 1, l ++ v, by omega, by go_num, HM.out, by rw [← List.append_assoc]; exact HH1.out, HB1.out⟩
          case measure => simp [intOf]; omega
      · have HD : Hid (D.flat = some l) := Lib.hid (by rw [HDF.out]; have := HFL.out; rw [List.take_of_length_le (by rw [HNL.out]; omega)] at this; exact this)
        go_wp2_with fail
        go_ret
        rw [flatOut_some HD.out]
        exact ⟨rfl, HHL.out, hbw⟩

set_option maxHeartbeats 4000000 in
theorem flatly_12 (t : ByteArray) (ks : List Doc) (brk : Bool) (i y : Int) (a : Option Addr) (cap g off B b : Nat) (bs : List UInt8) (w : World) (h0 : w.cell? ⟨g, off, none⟩ = some (.int .i64 12)) (h1 : w.cell? ⟨g, off + 1, none⟩ = some (.string t)) (h2 : w.cell? ⟨g, off + 2, none⟩ = some (.slice a ks.length cap)) (h3 : w.cell? ⟨g, off + 3, none⟩ = some (.bool brk))
    (hcap : ks.length ≤ cap) (hB : B ≤ w.heap.size) (hh : Held B b bs w) (hbd : bs.length + (Doc.mk 12 t ks brk i y).bulk ≤ 1099511627776) (hsh : (Doc.mk 12 t ks brk i y).shape = true)
    (hkids : 0 < ks.length → ∃ g' off', a = some ⟨g', off', none⟩ ∧ KidsGo B b w ks g' off') :
    Calls Tryd.prog 34 #[.pointer (some ⟨g, off, none⟩), .func (.func 35) #[] #[.pointer (some ⟨b, 0, none⟩)]] w (FlatOut (.mk 12 t ks brk i y) B b bs w) := by
  clear hsh
  obtain ⟨D, hD⟩ : ∃ D, D = Doc.mk 12 t ks brk i y := ⟨_, rfl⟩
  obtain ⟨L, hL⟩ : ∃ L, L = ks := ⟨_, rfl⟩
  obtain ⟨n, hn⟩ : ∃ n, n = L.length := ⟨_, rfl⟩
  have HNL : Hid (L.length = n) := Lib.hid hn.symm
  have HDF : Hid (D.flat = flatL L) := Lib.hid (by rw [hD, hL, Doc.flat_eq]; simp only [Doc.kind, Doc.kids, Doc.brk]; rfl)
  have HBD : Hid (bs.length + bulkL L ≤ 1099511627776) := Lib.hid (by rw [Doc.bulk_eq] at hbd; simp only [Doc.kids, Doc.text] at hbd; have := bulkL_take ks 1; have := bulkL_drop ks 1; rw [hL]; omega)
  have HH := Lib.hid hh
  have hnb : n ≤ 1099511627776 := by have h1 := nodesL_len ks; have h2 := (Doc.mk 12 t ks brk i y).nodes_bulk; rw [Doc.nodes_eq] at h2; simp only [Doc.kids] at h2; have h3 : L.length ≤ ks.length := (by rw [hL]; first | exact Nat.le_refl _ | (simp; done) | (simp; omega)); omega
  rw [← hD]
  have hks : ks.length = n := by rw [hn, hL]
  rw [hks] at h2 hcap
  by_cases h0n : n = 0
  · have HKG : Hid (∀ (j : Nat) (hj : j < L.length) (bs : List UInt8) (W : World), Below B w W → Held B b bs W → bs.length + (L[j]).bulk ≤ 1099511627776 → Calls Tryd.prog 34 #[.pointer none, .func (.func 35) #[] #[.pointer (some ⟨b, 0, none⟩)]] W (FlatOut L[j] B b bs W)) := Lib.hid (fun j hj => by omega)
    have HD : Hid (D.flat = some []) := Lib.hid (by rw [HDF.out]; have : L = [] := List.eq_nil_of_length_eq_zero (by omega); rw [this]; rfl)
    have HKN := Lib.hid hks
    have HHN := Lib.hid hn
    have HHL := Lib.hid hL
    have HHD := Lib.hid hD
    clear hks hn hL hD hh hkids hbd
    subst h0n
    go_enter Tryd.func34, Tryd.ntmps34
    go_wp2_with fail
    go_loopw [6, 50] (fun _ i wr => i = .int .i64 0 ∧ wr = w) (fun _ i _ => 0)
    case atStart => exact ⟨rfl, rfl⟩
    case round =>
      obtain ⟨rfl, rfl⟩ := hrel
      go_wp2_with fail
      go_ret
      rw [flatOut_some HD.out, List.append_nil]
      exact ⟨rfl, HH.out, Below.refl B _⟩
  · obtain ⟨g', off', rfl, hkg⟩ := hkids (by omega)
    have HKG : Hid (KidsGo B b w L g' off') := Lib.hid (by rw [hL]; exact hkg)
    have HKN := Lib.hid hks
    have HHN := Lib.hid hn
    have HHL := Lib.hid hL
    have HHD := Lib.hid hD
    clear hks hn hL hD hh hkids hkg hbd
    go_enter Tryd.func34, Tryd.ntmps34
    go_wp2_with fail
    go_loopw [6, 50] (fun _ i wr => ∃ (j : Nat) (l : List UInt8), j ≤ n ∧ i = .int .i64 (j : Int) ∧ flatL (L.take j) = some l ∧ Held B b (bs ++ l) wr ∧ Below B w wr) (fun _ i _ => n - (intOf i).toNat)
    case atStart => exact ⟨0, [], Nat.zero_le _, rfl, rfl, by rw [List.append_nil]; exact HH.out, Below.refl B w⟩
    case round =>
      obtain ⟨j, l, hj, rfl, hfl, hhl, hbw⟩ := hrel
      have HFL := Lib.hid hfl
      have HHL := Lib.hid hhl
      clear hfl hhl
      by_cases hlt : j < n
      · have hjL : j < L.length := by rw [HNL.out]; exact hlt
        have HC := Lib.hid (HKG.out j hjL (bs ++ l) wr hbw HHL.out (by have := flatL_bd hjL HFL.out; have := HBD.out; rw [List.length_append]; omega))
        cases hf : (L[j]).flat with
        | none =>
          have HD : Hid (D.flat = Option.none) := Lib.hid (by rw [HDF.out]; exact flatL_stop hjL hf)
          have HFN := Lib.hid hf
          clear hf
          go_wp2_with fail
          refine HC.out.mono ?_
          intro e w1 hw1
          rw [flatOut_none HFN.out] at hw1
          obtain ⟨rfl, hb1⟩ := hw1
          have HB1 := Lib.hid (hbw.trans hb1)
          clear hb1
          go_wp2_with fail
          go_ret
          rw [flatOut_none HD.out]
          exact ⟨rfl, HB1.out⟩
        | some v =>
          have HM := Lib.hid (flatL_more hjL HFL.out hf)
          have HFN := Lib.hid hf
          clear hf
          go_wp2_with fail
          refine HC.out.mono ?_
          intro e w1 hw1
          rw [flatOut_some HFN.out] at hw1
          obtain ⟨rfl, hh1, hb1⟩ := hw1
          have HB1 := Lib.hid (hbw.trans hb1)
          have HH1 := Lib.hid hh1
          clear hb1 hh1
          go_wp2_with fail
          go_roundw
          case rel => exact ⟨j + 1, l ++ v, by omega, by go_num, HM.out, by rw [← List.append_assoc]; exact HH1.out, HB1.out⟩
          case measure => simp [intOf]; omega
      · have HD : Hid (D.flat = some l) := Lib.hid (by rw [HDF.out]; have := HFL.out; rw [List.take_of_length_le (by rw [HNL.out]; omega)] at this; exact this)
        go_wp2_with fail
        go_ret
        rw [flatOut_some HD.out]
        exact ⟨rfl, HHL.out, hbw⟩

set_option maxHeartbeats 4000000 in
theorem flatly_13 (t : ByteArray) (ks : List Doc) (brk : Bool) (i y : Int) (a : Option Addr) (cap g off B b : Nat) (bs : List UInt8) (w : World) (h0 : w.cell? ⟨g, off, none⟩ = some (.int .i64 13)) (h1 : w.cell? ⟨g, off + 1, none⟩ = some (.string t)) (h2 : w.cell? ⟨g, off + 2, none⟩ = some (.slice a ks.length cap)) (h3 : w.cell? ⟨g, off + 3, none⟩ = some (.bool brk))
    (hcap : ks.length ≤ cap) (hB : B ≤ w.heap.size) (hh : Held B b bs w) (hbd : bs.length + (Doc.mk 13 t ks brk i y).bulk ≤ 1099511627776) (hsh : (Doc.mk 13 t ks brk i y).shape = true)
    (hkids : 0 < ks.length → ∃ g' off', a = some ⟨g', off', none⟩ ∧ KidsGo B b w ks g' off') :
    Calls Tryd.prog 34 #[.pointer (some ⟨g, off, none⟩), .func (.func 35) #[] #[.pointer (some ⟨b, 0, none⟩)]] w (FlatOut (.mk 13 t ks brk i y) B b bs w) := by
  clear hsh
  obtain ⟨D, hD⟩ : ∃ D, D = Doc.mk 13 t ks brk i y := ⟨_, rfl⟩
  obtain ⟨L, hL⟩ : ∃ L, L = ks := ⟨_, rfl⟩
  obtain ⟨n, hn⟩ : ∃ n, n = L.length := ⟨_, rfl⟩
  have HNL : Hid (L.length = n) := Lib.hid hn.symm
  have HDF : Hid (D.flat = flatL L) := Lib.hid (by rw [hD, hL, Doc.flat_eq]; simp only [Doc.kind, Doc.kids, Doc.brk]; rfl)
  have HBD : Hid (bs.length + bulkL L ≤ 1099511627776) := Lib.hid (by rw [Doc.bulk_eq] at hbd; simp only [Doc.kids, Doc.text] at hbd; have := bulkL_take ks 1; have := bulkL_drop ks 1; rw [hL]; omega)
  have HH := Lib.hid hh
  have hnb : n ≤ 1099511627776 := by have h1 := nodesL_len ks; have h2 := (Doc.mk 13 t ks brk i y).nodes_bulk; rw [Doc.nodes_eq] at h2; simp only [Doc.kids] at h2; have h3 : L.length ≤ ks.length := (by rw [hL]; first | exact Nat.le_refl _ | (simp; done) | (simp; omega)); omega
  rw [← hD]
  have hks : ks.length = n := by rw [hn, hL]
  rw [hks] at h2 hcap
  by_cases h0n : n = 0
  · have HKG : Hid (∀ (j : Nat) (hj : j < L.length) (bs : List UInt8) (W : World), Below B w W → Held B b bs W → bs.length + (L[j]).bulk ≤ 1099511627776 → Calls Tryd.prog 34 #[.pointer none, .func (.func 35) #[] #[.pointer (some ⟨b, 0, none⟩)]] W (FlatOut L[j] B b bs W)) := Lib.hid (fun j hj => by omega)
    have HD : Hid (D.flat = some []) := Lib.hid (by rw [HDF.out]; have : L = [] := List.eq_nil_of_length_eq_zero (by omega); rw [this]; rfl)
    have HKN := Lib.hid hks
    have HHN := Lib.hid hn
    have HHL := Lib.hid hL
    have HHD := Lib.hid hD
    clear hks hn hL hD hh hkids hbd
    subst h0n
    go_enter Tryd.func34, Tryd.ntmps34
    go_wp2_with fail
    go_loopw [6, 50] (fun _ i wr => i = .int .i64 0 ∧ wr = w) (fun _ i _ => 0)
    case atStart => exact ⟨rfl, rfl⟩
    case round =>
      obtain ⟨rfl, rfl⟩ := hrel
      go_wp2_with fail
      go_ret
      rw [flatOut_some HD.out, List.append_nil]
      exact ⟨rfl, HH.out, Below.refl B _⟩
  · obtain ⟨g', off', rfl, hkg⟩ := hkids (by omega)
    have HKG : Hid (KidsGo B b w L g' off') := Lib.hid (by rw [hL]; exact hkg)
    have HKN := Lib.hid hks
    have HHN := Lib.hid hn
    have HHL := Lib.hid hL
    have HHD := Lib.hid hD
    clear hks hn hL hD hh hkids hkg hbd
    go_enter Tryd.func34, Tryd.ntmps34
    go_wp2_with fail
    go_loopw [6, 50] (fun _ i wr => ∃ (j : Nat) (l : List UInt8), j ≤ n ∧ i = .int .i64 (j : Int) ∧ flatL (L.take j) = some l ∧ Held B b (bs ++ l) wr ∧ Below B w wr) (fun _ i _ => n - (intOf i).toNat)
    case atStart => exact ⟨0, [], Nat.zero_le _, rfl, rfl, by rw [List.append_nil]; exact HH.out, Below.refl B w⟩
    case round =>
      obtain ⟨j, l, hj, rfl, hfl, hhl, hbw⟩ := hrel
      have HFL := Lib.hid hfl
      have HHL := Lib.hid hhl
      clear hfl hhl
      by_cases hlt : j < n
      · have hjL : j < L.length := by rw [HNL.out]; exact hlt
        have HC := Lib.hid (HKG.out j hjL (bs ++ l) wr hbw HHL.out (by have := flatL_bd hjL HFL.out; have := HBD.out; rw [List.length_append]; omega))
        cases hf : (L[j]).flat with
        | none =>
          have HD : Hid (D.flat = Option.none) := Lib.hid (by rw [HDF.out]; exact flatL_stop hjL hf)
          have HFN := Lib.hid hf
          clear hf
          go_wp2_with fail
          refine HC.out.mono ?_
          intro e w1 hw1
          rw [flatOut_none HFN.out] at hw1
          obtain ⟨rfl, hb1⟩ := hw1
          have HB1 := Lib.hid (hbw.trans hb1)
          clear hb1
          go_wp2_with fail
          go_ret
          rw [flatOut_none HD.out]
          exact ⟨rfl, HB1.out⟩
        | some v =>
          have HM := Lib.hid (flatL_more hjL HFL.out hf)
          have HFN := Lib.hid hf
          clear hf
          go_wp2_with fail
          refine HC.out.mono ?_
          intro e w1 hw1
          rw [flatOut_some HFN.out] at hw1
          obtain ⟨rfl, hh1, hb1⟩ := hw1
          have HB1 := Lib.hid (hbw.trans hb1)
          have HH1 := Lib.hid hh1
          clear hb1 hh1
          go_wp2_with fail
          go_roundw
          case rel => exact ⟨j + 1, l ++ v, by omega, by go_num, HM.out, by rw [← List.append_assoc]; exact HH1.out, HB1.out⟩
          case measure => simp [intOf]; omega
      · have HD : Hid (D.flat = some l) := Lib.hid (by rw [HDF.out]; have := HFL.out; rw [List.take_of_length_le (by rw [HNL.out]; omega)] at this; exact this)
        go_wp2_with fail
        go_ret
        rw [flatOut_some HD.out]
        exact ⟨rfl, HHL.out, hbw⟩
end Go.Proofs.YtaojlnibkajfbaaDoor
