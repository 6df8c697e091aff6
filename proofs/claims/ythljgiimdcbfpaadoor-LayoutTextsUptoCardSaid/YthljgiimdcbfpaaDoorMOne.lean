/- The walks of doc.Flatly, writing to a builder: by a document's kind. PRINTED by gen_flatly.py. -/
import Derived.Test.YthljgiimdcbfpaaDoorMDoc
import Derived.Test.YthljgiimdcbfpaaDoorMFits
import Derived.Test.YthljgiimdcbfpaaDoorMMach
namespace Go.Proofs.YthljgiimdcbfpaaDoor
section
open Go.RowKit
set_option maxRecDepth 100000
set_option linter.unusedVariables false
set_option linter.unusedSimpArgs false

/-- Nothing is held. -/
def HeldI (B b : Nat) (bs : List UInt8) (w : World) : Prop := True
/-- What going through a document the flat way does. -/
def IdleOut (d : Doc) (B b : Nat) (bs : List UInt8) (w : World) (e : Ending) (w' : World) : Prop :=
  match d.flat with
  | some l => e = .returned (.bool true) ∧ HeldI B b (bs ++ l) w' ∧ Below B w w'
  | none => e = .returned (.bool false) ∧ Below B w w'
theorem idleOut_some {d : Doc} {B b : Nat} {bs l : List UInt8} {w w' : World} {e : Ending} (h : d.flat = some l) : IdleOut d B b bs w e w' = (e = .returned (.bool true) ∧ HeldI B b (bs ++ l) w' ∧ Below B w w') := by unfold IdleOut; rw [h]
theorem idleOut_none {d : Doc} {B b : Nat} {bs : List UInt8} {w w' : World} {e : Ending} (h : d.flat = Option.none) : IdleOut d B b bs w e w' = (e = .returned (.bool false) ∧ Below B w w') := by unfold IdleOut; rw [h]
/-- The kids that are gone through, each by its own contract. -/
def KidsIdle (B b : Nat) (w : World) (L : List Doc) (g off : Nat) : Prop := ∀ (j : Nat) (hj : j < L.length) (bs : List UInt8) (W : World), Below B w W → HeldI B b bs W → bs.length + (L[j]).bulk ≤ 1099511627776 →
  Calls Tryd.prog 39 #[.pointer (some ⟨g, off + j * 6, none⟩), .func (.func 60) #[] #[]] W (IdleOut L[j] B b bs W)
theorem closure_idle (B b : Nat) (bs : List UInt8) (s : ByteArray) (w : World) (h : HeldI B b bs w) (hlen : bs.length + s.size ≤ 1099511627776) (hBw : B ≤ w.heap.size) :
    Calls Tryd.prog 60 #[.string s] w fun e w' => e = .returned (.tuple #[]) ∧ HeldI B b (bs ++ s.data.toList) w' ∧ Below B w w' := by
  clear h hlen
  go_enter Tryd.func60, Tryd.ntmps60
  go_wp2_with fail
  go_end0
  exact ⟨rfl, trivial, Below.refl _ _⟩

set_option maxHeartbeats 4000000 in
theorem idly_1 (t : ByteArray) (ks : List Doc) (brk : Bool) (i y : Int) (a : Option Addr) (cap g off B b : Nat) (bs : List UInt8) (w : World) (h0 : w.cell? ⟨g, off, none⟩ = some (.int .i64 1)) (h1 : w.cell? ⟨g, off + 1, none⟩ = some (.string t)) (h2 : w.cell? ⟨g, off + 2, none⟩ = some (.slice a ks.length cap)) (h3 : w.cell? ⟨g, off + 3, none⟩ = some (.bool brk))
    (hcap : ks.length ≤ cap) (hB : B ≤ w.heap.size) (hh : HeldI B b bs w) (hbd : bs.length + (Doc.mk 1 t ks brk i y).bulk ≤ 1099511627776) (hsh : (Doc.mk 1 t ks brk i y).shape = true)
    (hkids : 0 < ks.length → ∃ g' off', a = some ⟨g', off', none⟩ ∧ KidsIdle B b w ks g' off') :
    Calls Tryd.prog 39 #[.pointer (some ⟨g, off, none⟩), .func (.func 60) #[] #[]] w (IdleOut (.mk 1 t ks brk i y) B b bs w) := by
  have HF : Hid ((Doc.mk 1 t ks brk i y).flat = some t.data.toList) := Lib.hid (by rw [Doc.flat_eq]; rfl)
  have HH := Lib.hid (closure_idle B b bs t w hh (by rw [Doc.bulk_eq] at hbd; simp only [Doc.text] at hbd; omega) hB)
  clear hh hkids hsh
  go_enter Tryd.func39, Tryd.ntmps39
  go_wp2_with fail
  refine HH.out.mono ?_
  rintro e w1 ⟨rfl, hw1, hb1⟩
  have HW1 := Lib.hid hw1
  clear hw1
  go_wp2_with fail
  go_ret
  rw [idleOut_some HF.out]
  exact ⟨rfl, HW1.out, hb1⟩

set_option maxHeartbeats 4000000 in
theorem idly_3 (t : ByteArray) (ks : List Doc) (brk : Bool) (i y : Int) (a : Option Addr) (cap g off B b : Nat) (bs : List UInt8) (w : World) (h0 : w.cell? ⟨g, off, none⟩ = some (.int .i64 3)) (h1 : w.cell? ⟨g, off + 1, none⟩ = some (.string t)) (h2 : w.cell? ⟨g, off + 2, none⟩ = some (.slice a ks.length cap)) (h3 : w.cell? ⟨g, off + 3, none⟩ = some (.bool brk))
    (hcap : ks.length ≤ cap) (hB : B ≤ w.heap.size) (hh : HeldI B b bs w) (hbd : bs.length + (Doc.mk 3 t ks brk i y).bulk ≤ 1099511627776) (hsh : (Doc.mk 3 t ks brk i y).shape = true)
    (hkids : 0 < ks.length → ∃ g' off', a = some ⟨g', off', none⟩ ∧ KidsIdle B b w ks g' off') :
    Calls Tryd.prog 39 #[.pointer (some ⟨g, off, none⟩), .func (.func 60) #[] #[]] w (IdleOut (.mk 3 t ks brk i y) B b bs w) := by
  have HF : Hid ((Doc.mk 3 t ks brk i y).flat = some [32]) := Lib.hid (by rw [Doc.flat_eq]; rfl)
  have HH := Lib.hid (closure_idle B b bs ⟨#[32]⟩ w hh (by have : (⟨#[32]⟩ : ByteArray).size = 1 := rfl; rw [Doc.bulk_eq] at hbd; omega) hB)
  clear hh hkids hsh
  go_enter Tryd.func39, Tryd.ntmps39
  go_wp2_with fail
  refine HH.out.mono ?_
  rintro e w1 ⟨rfl, hw1, hb1⟩
  have HW1 := Lib.hid hw1
  clear hw1
  go_wp2_with fail
  go_ret
  rw [idleOut_some HF.out]
  exact ⟨rfl, HW1.out, hb1⟩

set_option maxHeartbeats 4000000 in
theorem idly_5 (t : ByteArray) (ks : List Doc) (brk : Bool) (i y : Int) (a : Option Addr) (cap g off B b : Nat) (bs : List UInt8) (w : World) (h0 : w.cell? ⟨g, off, none⟩ = some (.int .i64 5)) (h1 : w.cell? ⟨g, off + 1, none⟩ = some (.string t)) (h2 : w.cell? ⟨g, off + 2, none⟩ = some (.slice a ks.length cap)) (h3 : w.cell? ⟨g, off + 3, none⟩ = some (.bool brk))
    (hcap : ks.length ≤ cap) (hB : B ≤ w.heap.size) (hh : HeldI B b bs w) (hbd : bs.length + (Doc.mk 5 t ks brk i y).bulk ≤ 1099511627776) (hsh : (Doc.mk 5 t ks brk i y).shape = true)
    (hkids : 0 < ks.length → ∃ g' off', a = some ⟨g', off', none⟩ ∧ KidsIdle B b w ks g' off') :
    Calls Tryd.prog 39 #[.pointer (some ⟨g, off, none⟩), .func (.func 60) #[] #[]] w (IdleOut (.mk 5 t ks brk i y) B b bs w) := by
  have HF : Hid ((Doc.mk 5 t ks brk i y).flat = Option.none) := Lib.hid (by rw [Doc.flat_eq]; rfl)
  clear hh hkids hsh
  go_enter Tryd.func39, Tryd.ntmps39
  go_wp2_with fail
  go_ret
  rw [idleOut_none HF.out]
  exact ⟨rfl, Below.refl B w⟩

set_option maxHeartbeats 4000000 in
theorem idly_6 (t : ByteArray) (ks : List Doc) (brk : Bool) (i y : Int) (a : Option Addr) (cap g off B b : Nat) (bs : List UInt8) (w : World) (h0 : w.cell? ⟨g, off, none⟩ = some (.int .i64 6)) (h1 : w.cell? ⟨g, off + 1, none⟩ = some (.string t)) (h2 : w.cell? ⟨g, off + 2, none⟩ = some (.slice a ks.length cap)) (h3 : w.cell? ⟨g, off + 3, none⟩ = some (.bool brk))
    (hcap : ks.length ≤ cap) (hB : B ≤ w.heap.size) (hh : HeldI B b bs w) (hbd : bs.length + (Doc.mk 6 t ks brk i y).bulk ≤ 1099511627776) (hsh : (Doc.mk 6 t ks brk i y).shape = true)
    (hkids : 0 < ks.length → ∃ g' off', a = some ⟨g', off', none⟩ ∧ KidsIdle B b w ks g' off') :
    Calls Tryd.prog 39 #[.pointer (some ⟨g, off, none⟩), .func (.func 60) #[] #[]] w (IdleOut (.mk 6 t ks brk i y) B b bs w) := by
  have HF : Hid ((Doc.mk 6 t ks brk i y).flat = Option.none) := Lib.hid (by rw [Doc.flat_eq]; rfl)
  clear hh hkids hsh
  go_enter Tryd.func39, Tryd.ntmps39
  go_wp2_with fail
  go_ret
  rw [idleOut_none HF.out]
  exact ⟨rfl, Below.refl B w⟩

set_option maxHeartbeats 4000000 in
theorem idly_16 (t : ByteArray) (ks : List Doc) (brk : Bool) (i y : Int) (a : Option Addr) (cap g off B b : Nat) (bs : List UInt8) (w : World) (h0 : w.cell? ⟨g, off, none⟩ = some (.int .i64 16)) (h1 : w.cell? ⟨g, off + 1, none⟩ = some (.string t)) (h2 : w.cell? ⟨g, off + 2, none⟩ = some (.slice a ks.length cap)) (h3 : w.cell? ⟨g, off + 3, none⟩ = some (.bool brk))
    (hcap : ks.length ≤ cap) (hB : B ≤ w.heap.size) (hh : HeldI B b bs w) (hbd : bs.length + (Doc.mk 16 t ks brk i y).bulk ≤ 1099511627776) (hsh : (Doc.mk 16 t ks brk i y).shape = true)
    (hkids : 0 < ks.length → ∃ g' off', a = some ⟨g', off', none⟩ ∧ KidsIdle B b w ks g' off') :
    Calls Tryd.prog 39 #[.pointer (some ⟨g, off, none⟩), .func (.func 60) #[] #[]] w (IdleOut (.mk 16 t ks brk i y) B b bs w) := by
  have HF : Hid ((Doc.mk 16 t ks brk i y).flat = Option.none) := Lib.hid (by rw [Doc.flat_eq]; rfl)
  clear hh hkids hsh
  go_enter Tryd.func39, Tryd.ntmps39
  go_wp2_with fail
  go_ret
  rw [idleOut_none HF.out]
  exact ⟨rfl, Below.refl B w⟩

set_option maxHeartbeats 4000000 in
theorem idly_14 (t : ByteArray) (ks : List Doc) (brk : Bool) (i y : Int) (a : Option Addr) (cap g off B b : Nat) (bs : List UInt8) (w : World) (h0 : w.cell? ⟨g, off, none⟩ = some (.int .i64 14)) (h1 : w.cell? ⟨g, off + 1, none⟩ = some (.string t)) (h2 : w.cell? ⟨g, off + 2, none⟩ = some (.slice a ks.length cap)) (h3 : w.cell? ⟨g, off + 3, none⟩ = some (.bool brk))
    (hcap : ks.length ≤ cap) (hB : B ≤ w.heap.size) (hh : HeldI B b bs w) (hbd : bs.length + (Doc.mk 14 t ks brk i y).bulk ≤ 1099511627776) (hsh : (Doc.mk 14 t ks brk i y).shape = true)
    (hkids : 0 < ks.length → ∃ g' off', a = some ⟨g', off', none⟩ ∧ KidsIdle B b w ks g' off') :
    Calls Tryd.prog 39 #[.pointer (some ⟨g, off, none⟩), .func (.func 60) #[] #[]] w (IdleOut (.mk 14 t ks brk i y) B b bs w) := by
  have HF : Hid ((Doc.mk 14 t ks brk i y).flat = some []) := Lib.hid (by rw [Doc.flat_eq]; rfl)
  have HH := Lib.hid hh
  clear hh hkids hsh
  go_enter Tryd.func39, Tryd.ntmps39
  go_wp2_with fail
  go_ret
  rw [idleOut_some HF.out, List.append_nil]
  exact ⟨rfl, HH.out, Below.refl B w⟩

set_option maxHeartbeats 4000000 in
theorem idly_4 (t : ByteArray) (ks : List Doc) (brk : Bool) (i y : Int) (a : Option Addr) (cap g off B b : Nat) (bs : List UInt8) (w : World) (h0 : w.cell? ⟨g, off, none⟩ = some (.int .i64 4)) (h1 : w.cell? ⟨g, off + 1, none⟩ = some (.string t)) (h2 : w.cell? ⟨g, off + 2, none⟩ = some (.slice a ks.length cap)) (h3 : w.cell? ⟨g, off + 3, none⟩ = some (.bool brk))
    (hcap : ks.length ≤ cap) (hB : B ≤ w.heap.size) (hh : HeldI B b bs w) (hbd : bs.length + (Doc.mk 4 t ks brk i y).bulk ≤ 1099511627776) (hsh : (Doc.mk 4 t ks brk i y).shape = true)
    (hkids : 0 < ks.length → ∃ g' off', a = some ⟨g', off', none⟩ ∧ KidsIdle B b w ks g' off') :
    Calls Tryd.prog 39 #[.pointer (some ⟨g, off, none⟩), .func (.func 60) #[] #[]] w (IdleOut (.mk 4 t ks brk i y) B b bs w) := by
  have HF : Hid ((Doc.mk 4 t ks brk i y).flat = some []) := Lib.hid (by rw [Doc.flat_eq]; rfl)
  have HH := Lib.hid hh
  clear hh hkids hsh
  go_enter Tryd.func39, Tryd.ntmps39
  go_wp2_with fail
  go_ret
  rw [idleOut_some HF.out, List.append_nil]
  exact ⟨rfl, HH.out, Below.refl B w⟩

set_option maxHeartbeats 4000000 in
theorem idly_15 (t : ByteArray) (ks : List Doc) (brk : Bool) (i y : Int) (a : Option Addr) (cap g off B b : Nat) (bs : List UInt8) (w : World) (h0 : w.cell? ⟨g, off, none⟩ = some (.int .i64 15)) (h1 : w.cell? ⟨g, off + 1, none⟩ = some (.string t)) (h2 : w.cell? ⟨g, off + 2, none⟩ = some (.slice a ks.length cap)) (h3 : w.cell? ⟨g, off + 3, none⟩ = some (.bool brk))
    (hcap : ks.length ≤ cap) (hB : B ≤ w.heap.size) (hh : HeldI B b bs w) (hbd : bs.length + (Doc.mk 15 t ks brk i y).bulk ≤ 1099511627776) (hsh : (Doc.mk 15 t ks brk i y).shape = true)
    (hkids : 0 < ks.length → ∃ g' off', a = some ⟨g', off', none⟩ ∧ KidsIdle B b w ks g' off') :
    Calls Tryd.prog 39 #[.pointer (some ⟨g, off, none⟩), .func (.func 60) #[] #[]] w (IdleOut (.mk 15 t ks brk i y) B b bs w) := by
  have HF : Hid ((Doc.mk 15 t ks brk i y).flat = some []) := Lib.hid (by rw [Doc.flat_eq]; rfl)
  have HH := Lib.hid hh
  clear hh hkids hsh
  go_enter Tryd.func39, Tryd.ntmps39
  go_wp2_with fail
  go_ret
  rw [idleOut_some HF.out, List.append_nil]
  exact ⟨rfl, HH.out, Below.refl B w⟩
end

section
open Go.RowKit
set_option maxRecDepth 100000
set_option linter.unusedVariables false
set_option linter.unusedSimpArgs false

set_option maxHeartbeats 4000000 in
theorem idly_7 (t : ByteArray) (ks : List Doc) (brk : Bool) (i y : Int) (a : Option Addr) (cap g off B b : Nat) (bs : List UInt8) (w : World) (h0 : w.cell? ⟨g, off, none⟩ = some (.int .i64 7)) (h1 : w.cell? ⟨g, off + 1, none⟩ = some (.string t)) (h2 : w.cell? ⟨g, off + 2, none⟩ = some (.slice a ks.length cap)) (h3 : w.cell? ⟨g, off + 3, none⟩ = some (.bool brk))
    (hcap : ks.length ≤ cap) (hB : B ≤ w.heap.size) (hh : HeldI B b bs w) (hbd : bs.length + (Doc.mk 7 t ks brk i y).bulk ≤ 1099511627776) (hsh : (Doc.mk 7 t ks brk i y).shape = true)
    (hkids : 0 < ks.length → ∃ g' off', a = some ⟨g', off', none⟩ ∧ KidsIdle B b w ks g' off') :
    Calls Tryd.prog 39 #[.pointer (some ⟨g, off, none⟩), .func (.func 60) #[] #[]] w (IdleOut (.mk 7 t ks brk i y) B b bs w) := by
  have h1n : 1 ≤ ks.length := by
    cases ks with
    | nil =>
      exfalso
      rw [Doc.shape_eq] at hsh
      simp [Doc.formed, formedF, Doc.kind, Doc.kids, Doc.text, Doc.brk, Doc.id, Doc.width] at hsh
    | cons x xs => simp
  clear hsh
  cases brk
  · obtain ⟨D, hD⟩ : ∃ D, D = Doc.mk 7 t ks false i y := ⟨_, rfl⟩
    obtain ⟨L, hL⟩ : ∃ L, L = ks.take 1 := ⟨_, rfl⟩
    obtain ⟨n, hn⟩ : ∃ n, n = L.length := ⟨_, rfl⟩
    have HNL : Hid (L.length = n) := Lib.hid hn.symm
    have HDF : Hid (D.flat = flatL L) := Lib.hid (by rw [hD, hL, Doc.flat_eq]; simp only [Doc.kind, Doc.kids, Doc.brk]; rw [← flatH_take]; rfl)
    have HBD : Hid (bs.length + bulkL L ≤ 1099511627776) := Lib.hid (by rw [Doc.bulk_eq] at hbd; simp only [Doc.kids, Doc.text] at hbd; have := bulkL_take ks 1; have := bulkL_drop ks 1; rw [hL]; omega)
    have HH := Lib.hid hh
    have hnb : n ≤ 1099511627776 := by have h1 := nodesL_len ks; have h2 := (Doc.mk 7 t ks false i y).nodes_bulk; rw [Doc.nodes_eq] at h2; simp only [Doc.kids] at h2; have h3 : L.length ≤ ks.length := (by rw [hL]; first | exact Nat.le_refl _ | (simp; done) | (simp; omega)); omega
    rw [← hD]
    have hn1 : n = 1 := by rw [hn, hL, List.length_take]; omega
    obtain ⟨g', off', rfl, hkg⟩ := hkids (by omega)
    have HKG : Hid (KidsIdle B b w L g' off') := Lib.hid (by
      intro j hj bs W h1 h2 h3
      have e : L[j] = ks[j]'(by rw [hL, List.length_take] at hj; omega) := by simp [hL]
      rw [e] at h3 ⊢
      exact hkg j _ bs W h1 h2 h3)
    obtain ⟨m, hm⟩ : ∃ m, m = ks.length := ⟨_, rfl⟩
    rw [← hm] at h2 hcap h1n
    have hc0 : cap ≠ 0 := by omega
    have hc1 : 1 ≤ cap := by omega
    have HKN := Lib.hid hm
    have HHN := Lib.hid hn
    have HHL := Lib.hid hL
    have HHD := Lib.hid hD
    clear hm hn hL hD hh hkids hkg hbd
    subst hn1
    go_enter Tryd.func39, Tryd.ntmps39
    go_wp2_with fail
    go_loopw [6, 50] (fun _ i wr => ∃ (j : Nat) (l : List UInt8), j ≤ 1 ∧ i = .int .i64 (j : Int) ∧ flatL (L.take j) = some l ∧ HeldI B b (bs ++ l) wr ∧ Below B w wr) (fun _ i _ => 1 - (intOf i).toNat)
    case atStart => exact ⟨0, [], Nat.zero_le _, rfl, rfl, by rw [List.append_nil]; exact HH.out, Below.refl B w⟩
    case round =>
      obtain ⟨j, l, hj, rfl, hfl, hhl, hbw⟩ := hrel
      have HFL := Lib.hid hfl
      have HHL := Lib.hid hhl
      clear hfl hhl
      by_cases hlt : j < 1
      · have hjL : j < L.length := by rw [HNL.out]; exact hlt
        have HC := Lib.hid (HKG.out j hjL (bs ++ l) wr hbw HHL.out (by have := flatL_bd hjL HFL.out; have := HBD.out; rw [List.length_append]; omega))
        cases hf : (L[j]).flat with
        | none =>
          have HD : Hid (D.flat = Option.none) := Lib.hid (by rw [HDF.out]; exact flatL_stop hjL hf)
          have HFN := Lib.hid hf
          clear hf
          go_wp2_with fail
          refine HC.out.mono ?_
          intro e w1 hw1
          rw [idleOut_none HFN.out] at hw1
          obtain ⟨rfl, hb1⟩ := hw1
          have HB1 := Lib.hid (hbw.trans hb1)
          clear hb1
          go_wp2_with fail
          go_ret
          rw [idleOut_none HD.out]
          exact ⟨rfl, HB1.out⟩
        | some v =>
          have HM := Lib.hid (flatL_more hjL HFL.out hf)
          have HFN := Lib.hid hf
          clear hf
          go_wp2_with fail
          refine HC.out.mono ?_
          intro e w1 hw1
          rw [idleOut_some HFN.out] at hw1
          obtain ⟨rfl, hh1, hb1⟩ := hw1
          have HB1 := Lib.hid (hbw.trans hb1)
          have HH1 := Lib.hid hh1
          clear hb1 hh1
          go_wp2_with fail
          go_roundw
          case rel => exact ⟨j + 1, l ++ v, by omega, by go_num, HM.out, by rw [← List.append_assoc]; exact HH1.out, HB1.out⟩
          case measure => simp [intOf]; omega
      · have HD : Hid (D.flat = some l) := Lib.hid (by rw [HDF.out]; have := HFL.out; rw [List.take_of_length_le (by rw [HNL.out]; omega)] at this; exact this)
        go_wp2_with fail
        go_ret
        rw [idleOut_some HD.out]
        exact ⟨rfl, HHL.out, hbw⟩
  · have HF : Hid ((Doc.mk 7 t ks true i y).flat = Option.none) := Lib.hid (by rw [Doc.flat_eq]; rfl)
    clear hh hkids
    go_enter Tryd.func39, Tryd.ntmps39
    go_wp2_with fail
    go_ret
    rw [idleOut_none HF.out]
    exact ⟨rfl, Below.refl B w⟩

set_option maxHeartbeats 4000000 in
theorem idly_8 (t : ByteArray) (ks : List Doc) (brk : Bool) (i y : Int) (a : Option Addr) (cap g off B b : Nat) (bs : List UInt8) (w : World) (h0 : w.cell? ⟨g, off, none⟩ = some (.int .i64 8)) (h1 : w.cell? ⟨g, off + 1, none⟩ = some (.string t)) (h2 : w.cell? ⟨g, off + 2, none⟩ = some (.slice a ks.length cap)) (h3 : w.cell? ⟨g, off + 3, none⟩ = some (.bool brk))
    (hcap : ks.length ≤ cap) (hB : B ≤ w.heap.size) (hh : HeldI B b bs w) (hbd : bs.length + (Doc.mk 8 t ks brk i y).bulk ≤ 1099511627776) (hsh : (Doc.mk 8 t ks brk i y).shape = true)
    (hkids : 0 < ks.length → ∃ g' off', a = some ⟨g', off', none⟩ ∧ KidsIdle B b w ks g' off') :
    Calls Tryd.prog 39 #[.pointer (some ⟨g, off, none⟩), .func (.func 60) #[] #[]] w (IdleOut (.mk 8 t ks brk i y) B b bs w) := by
  have h1n : 1 ≤ ks.length := by
    cases ks with
    | nil =>
      exfalso
      rw [Doc.shape_eq] at hsh
      simp [Doc.formed, formedF, Doc.kind, Doc.kids, Doc.text, Doc.brk, Doc.id, Doc.width] at hsh
    | cons x xs => simp
  clear hsh
  cases brk
  · obtain ⟨D, hD⟩ : ∃ D, D = Doc.mk 8 t ks false i y := ⟨_, rfl⟩
    obtain ⟨L, hL⟩ : ∃ L, L = ks.take 1 := ⟨_, rfl⟩
    obtain ⟨n, hn⟩ : ∃ n, n = L.length := ⟨_, rfl⟩
    have HNL : Hid (L.length = n) := Lib.hid hn.symm
    have HDF : Hid (D.flat = flatL L) := Lib.hid (by rw [hD, hL, Doc.flat_eq]; simp only [Doc.kind, Doc.kids, Doc.brk]; rw [← flatH_take]; rfl)
    have HBD : Hid (bs.length + bulkL L ≤ 1099511627776) := Lib.hid (by rw [Doc.bulk_eq] at hbd; simp only [Doc.kids, Doc.text] at hbd; have := bulkL_take ks 1; have := bulkL_drop ks 1; rw [hL]; omega)
    have HH := Lib.hid hh
    have hnb : n ≤ 1099511627776 := by have h1 := nodesL_len ks; have h2 := (Doc.mk 8 t ks false i y).nodes_bulk; rw [Doc.nodes_eq] at h2; simp only [Doc.kids] at h2; have h3 : L.length ≤ ks.length := (by rw [hL]; first | exact Nat.le_refl _ | (simp; done) | (simp; omega)); omega
    rw [← hD]
    have hn1 : n = 1 := by rw [hn, hL, List.length_take]; omega
    obtain ⟨g', off', rfl, hkg⟩ := hkids (by omega)
    have HKG : Hid (KidsIdle B b w L g' off') := Lib.hid (by
      intro j hj bs W h1 h2 h3
      have e : L[j] = ks[j]'(by rw [hL, List.length_take] at hj; omega) := by simp [hL]
      rw [e] at h3 ⊢
      exact hkg j _ bs W h1 h2 h3)
    obtain ⟨m, hm⟩ : ∃ m, m = ks.length := ⟨_, rfl⟩
    rw [← hm] at h2 hcap h1n
    have hc0 : cap ≠ 0 := by omega
    have hc1 : 1 ≤ cap := by omega
    have HKN := Lib.hid hm
    have HHN := Lib.hid hn
    have HHL := Lib.hid hL
    have HHD := Lib.hid hD
    clear hm hn hL hD hh hkids hkg hbd
    subst hn1
    go_enter Tryd.func39, Tryd.ntmps39
    go_wp2_with fail
    go_loopw [6, 50] (fun _ i wr => ∃ (j : Nat) (l : List UInt8), j ≤ 1 ∧ i = .int .i64 (j : Int) ∧ flatL (L.take j) = some l ∧ HeldI B b (bs ++ l) wr ∧ Below B w wr) (fun _ i _ => 1 - (intOf i).toNat)
    case atStart => exact ⟨0, [], Nat.zero_le _, rfl, rfl, by rw [List.append_nil]; exact HH.out, Below.refl B w⟩
    case round =>
      obtain ⟨j, l, hj, rfl, hfl, hhl, hbw⟩ := hrel
      have HFL := Lib.hid hfl
      have HHL := Lib.hid hhl
      clear hfl hhl
      by_cases hlt : j < 1
      · have hjL : j < L.length := by rw [HNL.out]; exact hlt
        have HC := Lib.hid (HKG.out j hjL (bs ++ l) wr hbw HHL.out (by have := flatL_bd hjL HFL.out; have := HBD.out; rw [List.length_append]; omega))
        cases hf : (L[j]).flat with
        | none =>
          have HD : Hid (D.flat = Option.none) := Lib.hid (by rw [HDF.out]; exact flatL_stop hjL hf)
          have HFN := Lib.hid hf
          clear hf
          go_wp2_with fail
          refine HC.out.mono ?_
          intro e w1 hw1
          rw [idleOut_none HFN.out] at hw1
          obtain ⟨rfl, hb1⟩ := hw1
          have HB1 := Lib.hid (hbw.trans hb1)
          clear hb1
          go_wp2_with fail
          go_ret
          rw [idleOut_none HD.out]
          exact ⟨rfl, HB1.out⟩
        | some v =>
          have HM := Lib.hid (flatL_more hjL HFL.out hf)
          have HFN := Lib.hid hf
          clear hf
          go_wp2_with fail
          refine HC.out.mono ?_
          intro e w1 hw1
          rw [idleOut_some HFN.out] at hw1
          obtain ⟨rfl, hh1, hb1⟩ := hw1
          have HB1 := Lib.hid (hbw.trans hb1)
          have HH1 := Lib.hid hh1
          clear hb1 hh1
          go_wp2_with fail
          go_roundw
          case rel => exact ⟨j + 1, l ++ v, by omega, by go_num, HM.out, by rw [← List.append_assoc]; exact HH1.out, HB1.out⟩
          case measure => simp [intOf]; omega
      · have HD : Hid (D.flat = some l) := Lib.hid (by rw [HDF.out]; have := HFL.out; rw [List.take_of_length_le (by rw [HNL.out]; omega)] at this; exact this)
        go_wp2_with fail
        go_ret
        rw [idleOut_some HD.out]
        exact ⟨rfl, HHL.out, hbw⟩
  · have HF : Hid ((Doc.mk 8 t ks true i y).flat = Option.none) := Lib.hid (by rw [Doc.flat_eq]; rfl)
    clear hh hkids
    go_enter Tryd.func39, Tryd.ntmps39
    go_wp2_with fail
    go_ret
    rw [idleOut_none HF.out]
    exact ⟨rfl, Below.refl B w⟩

set_option maxHeartbeats 4000000 in
theorem idly_10 (t : ByteArray) (ks : List Doc) (brk : Bool) (i y : Int) (a : Option Addr) (cap g off B b : Nat) (bs : List UInt8) (w : World) (h0 : w.cell? ⟨g, off, none⟩ = some (.int .i64 10)) (h1 : w.cell? ⟨g, off + 1, none⟩ = some (.string t)) (h2 : w.cell? ⟨g, off + 2, none⟩ = some (.slice a ks.length cap)) (h3 : w.cell? ⟨g, off + 3, none⟩ = some (.bool brk))
    (hcap : ks.length ≤ cap) (hB : B ≤ w.heap.size) (hh : HeldI B b bs w) (hbd : bs.length + (Doc.mk 10 t ks brk i y).bulk ≤ 1099511627776) (hsh : (Doc.mk 10 t ks brk i y).shape = true)
    (hkids : 0 < ks.length → ∃ g' off', a = some ⟨g', off', none⟩ ∧ KidsIdle B b w ks g' off') :
    Calls Tryd.prog 39 #[.pointer (some ⟨g, off, none⟩), .func (.func 60) #[] #[]] w (IdleOut (.mk 10 t ks brk i y) B b bs w) := by
  have h1n : ks.length = 2 := by
    rw [Doc.shape_eq] at hsh
    simp only [Doc.formed, formedF, Doc.kind, Doc.kids, Doc.text, Doc.brk, Doc.id, Doc.width] at hsh
    simp at hsh
    omega
  clear hsh
  obtain ⟨D, hD⟩ : ∃ D, D = Doc.mk 10 t ks brk i y := ⟨_, rfl⟩
  obtain ⟨L, hL⟩ : ∃ L, L = ks.drop 1 := ⟨_, rfl⟩
  obtain ⟨n, hn⟩ : ∃ n, n = L.length := ⟨_, rfl⟩
  have HNL : Hid (L.length = n) := Lib.hid hn.symm
  have HDF : Hid (D.flat = flatL L) := Lib.hid (by rw [hD, hL, Doc.flat_eq]; simp only [Doc.kind, Doc.kids, Doc.brk]; rw [← flatT_drop]; rfl)
  have HBD : Hid (bs.length + bulkL L ≤ 1099511627776) := Lib.hid (by rw [Doc.bulk_eq] at hbd; simp only [Doc.kids, Doc.text] at hbd; have := bulkL_take ks 1; have := bulkL_drop ks 1; rw [hL]; omega)
  have HH := Lib.hid hh
  have hnb : n ≤ 1099511627776 := by have h1 := nodesL_len ks; have h2 := (Doc.mk 10 t ks brk i y).nodes_bulk; rw [Doc.nodes_eq] at h2; simp only [Doc.kids] at h2; have h3 : L.length ≤ ks.length := (by rw [hL]; first | exact Nat.le_refl _ | (simp; done) | (simp; omega)); omega
  rw [← hD]
  have hn1 : n = 1 := by rw [hn, hL, List.length_drop]; omega
  obtain ⟨g', off', rfl, hkg⟩ := hkids (by omega)
  have HKG : Hid (KidsIdle B b w L g' (off' + 6)) := Lib.hid (by
    intro j hj bs W h1 h2 h3
    have e : L[j] = ks[j + 1]'(by rw [hL, List.length_drop] at hj; omega) := by simp [hL, Nat.add_comm]
    rw [e] at h3 ⊢
    have := hkg (j + 1) (by rw [hL, List.length_drop] at hj; omega) bs W h1 h2 h3
    rw [show off' + (j + 1) * 6 = off' + 6 + j * 6 by omega] at this
    exact this)
  rw [h1n] at h2 hcap
  have hc0 : cap ≠ 1 := by omega
  have hc1 : 1 ≤ cap := by omega
  have HKN := Lib.hid h1n
  have HHN := Lib.hid hn
  have HHL := Lib.hid hL
  have HHD := Lib.hid hD
  clear h1n hn hL hD hh hkids hkg hbd
  subst hn1
  go_enter Tryd.func39, Tryd.ntmps39
  go_wp2_with fail
  go_loopw [6, 50] (fun _ i wr => ∃ (j : Nat) (l : List UInt8), j ≤ 1 ∧ i = .int .i64 (j : Int) ∧ flatL (L.take j) = some l ∧ HeldI B b (bs ++ l) wr ∧ Below B w wr) (fun _ i _ => 1 - (intOf i).toNat)
  case atStart => exact ⟨0, [], Nat.zero_le _, rfl, rfl, by rw [List.append_nil]; exact HH.out, Below.refl B w⟩
  case round =>
    obtain ⟨j, l, hj, rfl, hfl, hhl, hbw⟩ := hrel
    have HFL := Lib.hid hfl
    have HHL := Lib.hid hhl
    clear hfl hhl
    by_cases hlt : j < 1
    · have hjL : j < L.length := by rw [HNL.out]; exact hlt
      have HC := Lib.hid (HKG.out j hjL (bs ++ l) wr hbw HHL.out (by have := flatL_bd hjL HFL.out; have := HBD.out; rw [List.length_append]; omega))
      cases hf : (L[j]).flat with
      | none =>
        have HD : Hid (D.flat = Option.none) := Lib.hid (by rw [HDF.out]; exact flatL_stop hjL hf)
        have HFN := Lib.hid hf
        clear hf
        go_wp2_with fail
        refine HC.out.mono ?_
        intro e w1 hw1
        rw [idleOut_none HFN.out] at hw1
        obtain ⟨rfl, hb1⟩ := hw1
        have HB1 := Lib.hid (hbw.trans hb1)
        clear hb1
        go_wp2_with fail
        go_ret
        rw [idleOut_none HD.out]
        exact ⟨rfl, HB1.out⟩
      | some v =>
        have HM := Lib.hid (flatL_more hjL HFL.out hf)
        have HFN := Lib.hid hf
        clear hf
        go_wp2_with fail
        refine HC.out.mono ?_
        intro e w1 hw1
        rw [idleOut_some HFN.out] at hw1
        obtain ⟨rfl, hh1, hb1⟩ := hw1
        have HB1 := Lib.hid (hbw.trans hb1)
        have HH1 := Lib.hid hh1
        clear hb1 hh1
        go_wp2_with fail
        go_roundw
        case rel => exact ⟨j + 1, l ++ v, by omega, by go_num, HM.out, by rw [← List.append_assoc]; exact HH1.out, HB1.out⟩
        case measure => simp [intOf]; omega
    · have HD : Hid (D.flat = some l) := Lib.hid (by rw [HDF.out]; have := HFL.out; rw [List.take_of_length_le (by rw [HNL.out]; omega)] at this; exact this)
      go_wp2_with fail
      go_ret
      rw [idleOut_some HD.out]
      exact ⟨rfl, HHL.out, hbw⟩
end

section
open Go.RowKit
set_option maxRecDepth 100000
set_option linter.unusedVariables false
set_option linter.unusedSimpArgs false

set_option maxHeartbeats 4000000 in
theorem idly_2 (t : ByteArray) (ks : List Doc) (brk : Bool) (i y : Int) (a : Option Addr) (cap g off B b : Nat) (bs : List UInt8) (w : World) (h0 : w.cell? ⟨g, off, none⟩ = some (.int .i64 2)) (h1 : w.cell? ⟨g, off + 1, none⟩ = some (.string t)) (h2 : w.cell? ⟨g, off + 2, none⟩ = some (.slice a ks.length cap)) (h3 : w.cell? ⟨g, off + 3, none⟩ = some (.bool brk))
    (hcap : ks.length ≤ cap) (hB : B ≤ w.heap.size) (hh : HeldI B b bs w) (hbd : bs.length + (Doc.mk 2 t ks brk i y).bulk ≤ 1099511627776) (hsh : (Doc.mk 2 t ks brk i y).shape = true)
    (hkids : 0 < ks.length → ∃ g' off', a = some ⟨g', off', none⟩ ∧ KidsIdle B b w ks g' off') :
    Calls Tryd.prog 39 #[.pointer (some ⟨g, off, none⟩), .func (.func 60) #[] #[]] w (IdleOut (.mk 2 t ks brk i y) B b bs w) := by
  clear hsh
  obtain ⟨D, hD⟩ : ∃ D, D = Doc.mk 2 t ks brk i y := ⟨_, rfl⟩
  obtain ⟨L, hL⟩ : ∃ L, L = ks := ⟨_, rfl⟩
  obtain ⟨n, hn⟩ : ∃ n, n = L.length := ⟨_, rfl⟩
  have HNL : Hid (L.length = n) := Lib.hid hn.symm
  have HDF : Hid (D.flat = flatL L) := Lib.hid (by rw [hD, hL, Doc.flat_eq]; simp only [Doc.kind, Doc.kids, Doc.brk]; rfl)
  have HBD : Hid (bs.length + bulkL L ≤ 1099511627776) := Lib.hid (by rw [Doc.bulk_eq] at hbd; simp only [Doc.kids, Doc.text] at hbd; have := bulkL_take ks 1; have := bulkL_drop ks 1; rw [hL]; omega)
  have HH := Lib.hid hh
  have hnb : n ≤ 1099511627776 := by have h1 := nodesL_len ks; have h2 := (Doc.mk 2 t ks brk i y).nodes_bulk; rw [Doc.nodes_eq] at h2; simp only [Doc.kids] at h2; have h3 : L.length ≤ ks.length := (by rw [hL]; first | exact Nat.le_refl _ | (simp; done) | (simp; omega)); omega
  rw [← hD]
  have hks : ks.length = n := by rw [hn, hL]
  rw [hks] at h2 hcap
  by_cases h0n : n = 0
  · have HKG : Hid (∀ (j : Nat) (hj : j < L.length) (bs : List UInt8) (W : World), Below B w W → HeldI B b bs W → bs.length + (L[j]).bulk ≤ 1099511627776 → Calls Tryd.prog 39 #[.pointer none, .func (.func 60) #[] #[]] W (IdleOut L[j] B b bs W)) := Lib.hid (fun j hj => by omega)
    have HD : Hid (D.flat = some []) := Lib.hid (by rw [HDF.out]; have : L = [] := List.eq_nil_of_length_eq_zero (by omega); rw [this]; rfl)
    have HKN := Lib.hid hks
    have HHN := Lib.hid hn
    have HHL := Lib.hid hL
    have HHD := Lib.hid hD
    clear hks hn hL hD hh hkids hbd
    subst h0n
    go_enter Tryd.func39, Tryd.ntmps39
    go_wp2_with fail
    go_loopw [6, 50] (fun _ i wr => i = .int .i64 0 ∧ wr = w) (fun _ i _ => 0)
    case atStart => exact ⟨rfl, rfl⟩
    case round =>
      obtain ⟨rfl, rfl⟩ := hrel
      go_wp2_with fail
      go_ret
      rw [idleOut_some HD.out, List.append_nil]
      exact ⟨rfl, HH.out, Below.refl B _⟩
  · obtain ⟨g', off', rfl, hkg⟩ := hkids (by omega)
    have HKG : Hid (KidsIdle B b w L g' off') := Lib.hid (by rw [hL]; exact hkg)
    have HKN := Lib.hid hks
    have HHN := Lib.hid hn
    have HHL := Lib.hid hL
    have HHD := Lib.hid hD
    clear hks hn hL hD hh hkids hkg hbd
    go_enter Tryd.func39, Tryd.ntmps39
    go_wp2_with fail
    go_loopw [6, 50] (fun _ i wr => ∃ (j : Nat) (l : List UInt8), j ≤ n ∧ i = .int .i64 (j : Int) ∧ flatL (L.take j) = some l ∧ HeldI B b (bs ++ l) wr ∧ Below B w wr) (fun _ i _ => n - (intOf i).toNat)
    case atStart => exact ⟨0, [], Nat.zero_le _, rfl, rfl, by rw [List.append_nil]; exact HH.out, Below.refl B w⟩
    case round =>
      obtain ⟨j, l, hj, rfl, hfl, hhl, hbw⟩ := hrel
      have HFL := Lib.hid hfl
      have HHL := Lib.hid hhl
      clear hfl hhl
      by_cases hlt : j < n
      · have hjL : j < L.length := by rw [HNL.out]; exact hlt
        have HC := Lib.hid (HKG.out j hjL (bs ++ l) wr hbw HHL.out (by have := flatL_bd hjL HFL.out; have := HBD.out; rw [List.length_append]; omega))
        cases hf : (L[j]).flat with
        | none =>
          have HD : Hid (D.flat = Option.none) := Lib.hid (by rw [HDF.out]; exact flatL_stop hjL hf)
          have HFN := Lib.hid hf
          clear hf
          go_wp2_with fail
          refine HC.out.mono ?_
          intro e w1 hw1
          rw [idleOut_none HFN.out] at hw1
          obtain ⟨rfl, hb1⟩ := hw1
          have HB1 := Lib.hid (hbw.trans hb1)
          clear hb1
          go_wp2_with fail
          go_ret
          rw [idleOut_none HD.out]
          exact ⟨rfl, HB1.out⟩
        | some v =>
          have HM := Lib.hid (flatL_more hjL HFL.out hf)
          have HFN := Lib.hid hf
          clear hf
          go_wp2_with fail
          refine HC.out.mono ?_
          intro e w1 hw1
          rw [idleOut_some HFN.out] at hw1
          obtain ⟨rfl, hh1, hb1⟩ := hw1
          have HB1 := Lib.hid (hbw.trans hb1)
          have HH1 := Lib.hid hh1
          clear hb1 hh1
          go_wp2_with fail
          go_roundw
          case rel => exact ⟨j + 1, l ++ v, by omega, by go_num, HM.out, by rw [← List.append_assoc]; exact HH1.out, HB1.out⟩
          case measure => simp [intOf]; omega
      · have HD : Hid (D.flat = some l) := Lib.hid (by rw [HDF.out]; have := HFL.out; rw [List.take_of_length_le (by rw [HNL.out]; omega)] at this; exact this)
        go_wp2_with fail
        go_ret
        rw [idleOut_some HD.out]
        exact ⟨rfl, HHL.out, hbw⟩

set_option maxHeartbeats 4000000 in
theorem idly_9 (t : ByteArray) (ks : List Doc) (brk : Bool) (i y : Int) (a : Option Addr) (cap g off B b : Nat) (bs : List UInt8) (w : World) (h0 : w.cell? ⟨g, off, none⟩ = some (.int .i64 9)) (h1 : w.cell? ⟨g, off + 1, none⟩ = some (.string t)) (h2 : w.cell? ⟨g, off + 2, none⟩ = some (.slice a ks.length cap)) (h3 : w.cell? ⟨g, off + 3, none⟩ = some (.bool brk))
    (hcap : ks.length ≤ cap) (hB : B ≤ w.heap.size) (hh : HeldI B b bs w) (hbd : bs.length + (Doc.mk 9 t ks brk i y).bulk ≤ 1099511627776) (hsh : (Doc.mk 9 t ks brk i y).shape = true)
    (hkids : 0 < ks.length → ∃ g' off', a = some ⟨g', off', none⟩ ∧ KidsIdle B b w ks g' off') :
    Calls Tryd.prog 39 #[.pointer (some ⟨g, off, none⟩), .func (.func 60) #[] #[]] w (IdleOut (.mk 9 t ks brk i y) B b bs w) := by
  clear hsh
  obtain ⟨D, hD⟩ : ∃ D, D = Doc.mk 9 t ks brk i y := ⟨_, rfl⟩
  obtain ⟨L, hL⟩ : ∃ L, L = ks := ⟨_, rfl⟩
  obtain ⟨n, hn⟩ : ∃ n, n = L.length := ⟨_, rfl⟩
  have HNL : Hid (L.length = n) := Lib.hid hn.symm
  have HDF : Hid (D.flat = flatL L) := Lib.hid (by rw [hD, hL, Doc.flat_eq]; simp only [Doc.kind, Doc.kids, Doc.brk]; rfl)
  have HBD : Hid (bs.length + bulkL L ≤ 1099511627776) := Lib.hid (by rw [Doc.bulk_eq] at hbd; simp only [Doc.kids, Doc.text] at hbd; have := bulkL_take ks 1; have := bulkL_drop ks 1; rw [hL]; omega)
  have HH := Lib.hid hh
  have hnb : n ≤ 1099511627776 := by have h1 := nodesL_len ks; have h2 := (Doc.mk 9 t ks brk i y).nodes_bulk; rw [Doc.nodes_eq] at h2; simp only [Doc.kids] at h2; have h3 : L.length ≤ ks.length := (by rw [hL]; first | exact Nat.le_refl _ | (simp; done) | (simp; omega)); omega
  rw [← hD]
  have hks : ks.length = n := by rw [hn, hL]
  rw [hks] at h2 hcap
  by_cases h0n : n = 0
  · have HKG : Hid (∀ (j : Nat) (hj : j < L.length) (bs : List UInt8) (W : World), Below B w W → HeldI B b bs W → bs.length + (L[j]).bulk ≤ 1099511627776 → Calls Tryd.prog 39 #[.pointer none, .func (.func 60) #[] #[]] W (IdleOut L[j] B b bs W)) := Lib.hid (fun j hj => by omega)
    have HD : Hid (D.flat = some []) := Lib.hid (by rw [HDF.out]; have : L = [] := List.eq_nil_of_length_eq_zero (by omega); rw [this]; rfl)
    have HKN := Lib.hid hks
    have HHN := Lib.hid hn
    have HHL := Lib.hid hL
    have HHD := Lib.hid hD
    clear hks hn hL hD hh hkids hbd
    subst h0n
    go_enter Tryd.func39, Tryd.ntmps39
    go_wp2_with fail
    go_loopw [6, 50] (fun _ i wr => i = .int .i64 0 ∧ wr = w) (fun _ i _ => 0)
    case atStart => exact ⟨rfl, rfl⟩
    case round =>
      obtain ⟨rfl, rfl⟩ := hrel
      go_wp2_with fail
      go_ret
      rw [idleOut_some HD.out, List.append_nil]
      exact ⟨rfl, HH.out, Below.refl B _⟩
  · obtain ⟨g', off', rfl, hkg⟩ := hkids (by omega)
    have HKG : Hid (KidsIdle B b w L g' off') := Lib.hid (by rw [hL]; exact hkg)
    have HKN := Lib.hid hks
    have HHN := Lib.hid hn
    have HHL := Lib.hid hL
    have HHD := Lib.hid hD
    clear hks hn hL hD hh hkids hkg hbd
    go_enter Tryd.func39, Tryd.ntmps39
    go_wp2_with fail
    go_loopw [6, 50] (fun _ i wr => ∃ (j : Nat) (l : List UInt8), j ≤ n ∧ i = .int .i64 (j : Int) ∧ flatL (L.take j) = some l ∧ HeldI B b (bs ++ l) wr ∧ Below B w wr) (fun _ i _ => n - (intOf i).toNat)
    case atStart => exact ⟨0, [], Nat.zero_le _, rfl, rfl, by rw [List.append_nil]; exact HH.out, Below.refl B w⟩
    case round =>
      obtain ⟨j, l, hj, rfl, hfl, hhl, hbw⟩ := hrel
      have HFL := Lib.hid hfl
      have HHL := Lib.hid hhl
      clear hfl hhl
      by_cases hlt : j < n
      · have hjL : j < L.length := by rw [HNL.out]; exact hlt
        have HC := Lib.hid (HKG.out j hjL (bs ++ l) wr hbw HHL.out (by have := flatL_bd hjL HFL.out; have := HBD.out; rw [List.length_append]; omega))
        cases hf : (L[j]).flat with
        | none =>
          have HD : Hid (D.flat = Option.none) := Lib.hid (by rw [HDF.out]; exact flatL_stop hjL hf)
          have HFN := Lib.hid hf
          clear hf
          go_wp2_with fail
          refine HC.out.mono ?_
          intro e w1 hw1
          rw [idleOut_none HFN.out] at hw1
          obtain ⟨rfl, hb1⟩ := hw1
          have HB1 := Lib.hid (hbw.trans hb1)
          clear hb1
          go_wp2_with fail
          go_ret
          rw [idleOut_none HD.out]
          exact ⟨rfl, HB1.out⟩
        | some v =>
          have HM := Lib.hid (flatL_more hjL HFL.out hf)
          have HFN := Lib.hid hf
          clear hf
          go_wp2_with fail
          refine HC.out.mono ?_
          intro e w1 hw1
          rw [idleOut_some HFN.out] at hw1
          obtain ⟨rfl, hh1, hb1⟩ := hw1
          have HB1 := Lib.hid (hbw.trans hb1)
          have HH1 := Lib.hid hh1
          clear hb1 hh1
          go_wp2_with fail
          go_roundw
          case rel => exact ⟨j + 1, l ++ v, by omega, by go_num, HM.out, by rw [← List.append_assoc]; exact HH1.out, HB1.out⟩
          case measure => simp [intOf]; omega
      · have HD : Hid (D.flat = some l) := Lib.hid (by rw [HDF.out]; have := HFL.out; rw [List.take_of_length_le (by rw [HNL.out]; omega)] at this; exact this)
        go_wp2_with fail
        go_ret
        rw [idleOut_some HD.out]
        exact ⟨rfl, HHL.out, hbw⟩

set_option maxHeartbeats 4000000 in
theorem idly_11 (t : ByteArray) (ks : List Doc) (brk : Bool) (i y : Int) (a : Option Addr) (cap g off B b : Nat) (bs : List UInt8) (w : World) (h0 : w.cell? ⟨g, off, none⟩ = some (.int .i64 11)) (h1 : w.cell? ⟨g, off + 1, none⟩ = some (.string t)) (h2 : w.cell? ⟨g, off + 2, none⟩ = some (.slice a ks.length cap)) (h3 : w.cell? ⟨g, off + 3, none⟩ = some (.bool brk))
    (hcap : ks.length ≤ cap) (hB : B ≤ w.heap.size) (hh : HeldI B b bs w) (hbd : bs.length + (Doc.mk 11 t ks brk i y).bulk ≤ 1099511627776) (hsh : (Doc.mk 11 t ks brk i y).shape = true)
    (hkids : 0 < ks.length → ∃ g' off', a = some ⟨g', off', none⟩ ∧ KidsIdle B b w ks g' off') :
    Calls Tryd.prog 39 #[.pointer (some ⟨g, off, none⟩), .func (.func 60) #[] #[]] w (IdleOut (.mk 11 t ks brk i y) B b bs w) := by
  clear hsh
  obtain ⟨D, hD⟩ : ∃ D, D = Doc.mk 11 t ks brk i y := ⟨_, rfl⟩
  obtain ⟨L, hL⟩ : ∃ L, L = ks := ⟨_, rfl⟩
  obtain ⟨n, hn⟩ : ∃ n, n = L.length := ⟨_, rfl⟩
  have HNL : Hid (L.length = n) := Lib.hid hn.symm
  have HDF : Hid (D.flat = flatL L) := Lib.hid (by rw [hD, hL, Doc.flat_eq]; simp only [Doc.kind, Doc.kids, Doc.brk]; rfl)
  have HBD : Hid (bs.length + bulkL L ≤ 1099511627776) := Lib.hid (by rw [Doc.bulk_eq] at hbd; simp only [Doc.kids, Doc.text] at hbd; have := bulkL_take ks 1; have := bulkL_drop ks 1; rw [hL]; omega)
  have HH := Lib.hid hh
  have hnb : n ≤ 1099511627776 := by have h1 := nodesL_len ks; have h2 := (Doc.mk 11 t ks brk i y).nodes_bulk; rw [Doc.nodes_eq] at h2; simp only [Doc.kids] at h2; have h3 : L.length ≤ ks.length := (by rw [hL]; first | exact Nat.le_refl _ | (simp; done) | (simp; omega)); omega
  rw [← hD]
  have hks : ks.length = n := by rw [hn, hL]
  rw [hks] at h2 hcap
  by_cases h0n : n = 0
  · have HKG : Hid (∀ (j : Nat) (hj : j < L.length) (bs : List UInt8) (W : World), Below B w W → HeldI B b bs W → bs.length + (L[j]).bulk ≤ 1099511627776 → Calls Tryd.prog 39 #[.pointer none, .func (.func 60) #[] #[]] W (IdleOut L[j] B b bs W)) := Lib.hid (fun j hj => by omega)
    have HD : Hid (D.flat = some []) := Lib.hid (by rw [HDF.out]; have : L = [] := List.eq_nil_of_length_eq_zero (by omega); rw [this]; rfl)
    have HKN := Lib.hid hks
    have HHN := Lib.hid hn
    have HHL := Lib.hid hL
    have HHD := Lib.hid hD
    clear hks hn hL hD hh hkids hbd
    subst h0n
    go_enter Tryd.func39, Tryd.ntmps39
    go_wp2_with fail
    go_loopw [6, 50] (fun _ i wr => i = .int .i64 0 ∧ wr = w) (fun _ i _ => 0)
    case atStart => exact ⟨rfl, rfl⟩
    case round =>
      obtain ⟨rfl, rfl⟩ := hrel
      go_wp2_with fail
      go_ret
      rw [idleOut_some HD.out, List.append_nil]
      exact ⟨rfl, HH.out, Below.refl B _⟩
  · obtain ⟨g', off', rfl, hkg⟩ := hkids (by omega)
    have HKG : Hid (KidsIdle B b w L g' off') := Lib.hid (by rw [hL]; exact hkg)
    have HKN := Lib.hid hks
    have HHN := Lib.hid hn
    have HHL := Lib.hid hL
    have HHD := Lib.hid hD
    clear hks hn hL hD hh hkids hkg hbd
    go_enter Tryd.func39, Tryd.ntmps39
    go_wp2_with fail
    go_loopw [6, 50] (fun _ i wr => ∃ (j : Nat) (l : List UInt8), j ≤ n ∧ i = .int .i64 (j : Int) ∧ flatL (L.take j) = some l ∧ HeldI B b (bs ++ l) wr ∧ Below B w wr) (fun _ i _ => n - (intOf i).toNat)
    case atStart => exact ⟨0, [], Nat.zero_le _, rfl, rfl, by rw [List.append_nil]; exact HH.out, Below.refl B w⟩
    case round =>
      obtain ⟨j, l, hj, rfl, hfl, hhl, hbw⟩ := hrel
      have HFL := Lib.hid hfl
      have HHL := Lib.hid hhl
      clear hfl hhl
      by_cases hlt : j < n
      · have hjL : j < L.length := by rw [HNL.out]; exact hlt
        have HC := Lib.hid (HKG.out j hjL (bs ++ l) wr hbw HHL.out (by have := flatL_bd hjL HFL.out; have := HBD.out; rw [List.length_append]; omega))
        cases hf : (L[j]).flat with
        | none =>
          have HD : Hid (D.flat = Option.none) := Lib.hid (by rw [HDF.out]; exact flatL_stop hjL hf)
          have HFN := Lib.hid hf
          clear hf
          go_wp2_with fail
          refine HC.out.mono ?_
          intro e w1 hw1
          rw [idleOut_none HFN.out] at hw1
          obtain ⟨rfl, hb1⟩ := hw1
          have HB1 := Lib.hid (hbw.trans hb1)
          clear hb1
          go_wp2_with fail
          go_ret
          rw [idleOut_none HD.out]
          exact ⟨rfl, HB1.out⟩
        | some v =>
          have HM := Lib.hid (flatL_more hjL HFL.out hf)
          have HFN := Lib.hid hf
          clear hf
          go_wp2_with fail
          refine HC.out.mono ?_
          intro e w1 hw1
          rw [idleOut_some HFN.out] at hw1
          obtain ⟨rfl, hh1, hb1⟩ := hw1
          have HB1 := Lib.hid (hbw.trans hb1)
          have HH1 := Lib.hid hh1
          clear hb1 hh1
          go_wp2_with fail
          go_roundw
          case rel => exact ⟨j + 1, l ++ v, by omega, by go_num, HM.out, by rw [← List.append_assoc]; exact HH1.out, HB1.out⟩
          case measure => simp [intOf]; omega
      · have HD : Hid (D.flat = some l) := Lib.hid (by rw [HDF.out]; have := HFL.out; rw [List.take_of_length_le (by rw [HNL.out]; omega)] at this; exact this)
        go_wp2_with fail
        go_ret
        rw [idleOut_some HD.out]
        exact ⟨rfl, HHL.out, hbw⟩

set_option maxHeartbeats 4000000 in
theorem idly_12 (t : ByteArray) (ks : List Doc) (brk : Bool) (i y : Int) (a : Option Addr) (cap g off B b : Nat) (bs : List UInt8) (w : World) (h0 : w.cell? ⟨g, off, none⟩ = some (.int .i64 12)) (h1 : w.cell? ⟨g, off + 1, none⟩ = some (.string t)) (h2 : w.cell? ⟨g, off + 2, none⟩ = some (.slice a ks.length cap)) (h3 : w.cell? ⟨g, off + 3, none⟩ = some (.bool brk))
    (hcap : ks.length ≤ cap) (hB : B ≤ w.heap.size) (hh : HeldI B b bs w) (hbd : bs.length + (Doc.mk 12 t ks brk i y).bulk ≤ 1099511627776) (hsh : (Doc.mk 12 t ks brk i y).shape = true)
    (hkids : 0 < ks.length → ∃ g' off', a = some ⟨g', off', none⟩ ∧ KidsIdle B b w ks g' off') :
    Calls Tryd.prog 39 #[.pointer (some ⟨g, off, none⟩), .func (.func 60) #[] #[]] w (IdleOut (.mk 12 t ks brk i y) B b bs w) := by
  clear hsh
  obtain ⟨D, hD⟩ : ∃ D, D = Doc.mk 12 t ks brk i y := ⟨_, rfl⟩
  obtain ⟨L, hL⟩ : ∃ L, L = ks := ⟨_, rfl⟩
  obtain ⟨n, hn⟩ : ∃ n, n = L.length := ⟨_, rfl⟩
  have HNL : Hid (L.length = n) := Lib.hid hn.symm
  have HDF : Hid (D.flat = flatL L) := Lib.hid (by rw [hD, hL, Doc.flat_eq]; simp only [Doc.kind, Doc.kids, Doc.brk]; rfl)
  have HBD : Hid (bs.length + bulkL L ≤ 1099511627776) := Lib.hid (by rw [Doc.bulk_eq] at hbd; simp only [Doc.kids, Doc.text] at hbd; have := bulkL_take ks 1; have := bulkL_drop ks 1; rw [hL]; omega)
  have HH := Lib.hid hh
  have hnb : n ≤ 1099511627776 := by have h1 := nodesL_len ks; have h2 := (Doc.mk 12 t ks brk i y).nodes_bulk; rw [Doc.nodes_eq] at h2; simp only [Doc.kids] at h2; have h3 : L.length ≤ ks.length := (by rw [hL]; first | exact Nat.le_refl _ | (simp; done) | (simp; omega)); omega
  rw [← hD]
  have hks : ks.length = n := by rw [hn, hL]
  rw [hks] at h2 hcap
  by_cases h0n : n = 0
  · have HKG : Hid (∀ (j : Nat) (hj : j < L.length) (bs : List UInt8) (W : World), Below B w W → HeldI B b bs W → bs.length + (L[j]).bulk ≤ 1099511627776 → Calls Tryd.prog 39 #[.pointer none, .func (.func 60) #[] #[]] W (IdleOut L[j] B b bs W)) := Lib.hid (fun j hj => by omega)
    have HD : Hid (D.flat = some []) := Lib.hid (by rw [HDF.out]; have : L = [] := List.eq_nil_of_length_eq_zero (by omega); rw [this]; rfl)
    have HKN := Lib.hid hks
    have HHN := Lib.hid hn
    have HHL := Lib.hid hL
    have HHD := Lib.hid hD
    clear hks hn hL hD hh hkids hbd
    subst h0n
    go_enter Tryd.func39, Tryd.ntmps39
    go_wp2_with fail
    go_loopw [6, 50] (fun _ i wr => i = .int .i64 0 ∧ wr = w) (fun _ i _ => 0)
    case atStart => exact ⟨rfl, rfl⟩
    case round =>
      obtain ⟨rfl, rfl⟩ := hrel
      go_wp2_with fail
      go_ret
      rw [idleOut_some HD.out, List.append_nil]
      exact ⟨rfl, HH.out, Below.refl B _⟩
  · obtain ⟨g', off', rfl, hkg⟩ := hkids (by omega)
    have HKG : Hid (KidsIdle B b w L g' off') := Lib.hid (by rw [hL]; exact hkg)
    have HKN := Lib.hid hks
    have HHN := Lib.hid hn
    have HHL := Lib.hid hL
    have HHD := Lib.hid hD
    clear hks hn hL hD hh hkids hkg hbd
    go_enter Tryd.func39, Tryd.ntmps39
    go_wp2_with fail
    go_loopw [6, 50] (fun _ i wr => ∃ (j : Nat) (l : List UInt8), j ≤ n ∧ i = .int .i64 (j : Int) ∧ flatL (L.take j) = some l ∧ HeldI B b (bs ++ l) wr ∧ Below B w wr) (fun _ i _ => n - (intOf i).toNat)
    case atStart => exact ⟨0, [], Nat.zero_le _, rfl, rfl, by rw [List.append_nil]; exact HH.out, Below.refl B w⟩
    case round =>
      obtain ⟨j, l, hj, rfl, hfl, hhl, hbw⟩ := hrel
      have HFL := Lib.hid hfl
      have HHL := Lib.hid hhl
      clear hfl hhl
      by_cases hlt : j < n
      · have hjL : j < L.length := by rw [HNL.out]; exact hlt
        have HC := Lib.hid (HKG.out j hjL (bs ++ l) wr hbw HHL.out (by have := flatL_bd hjL HFL.out; have := HBD.out; rw [List.length_append]; omega))
        cases hf : (L[j]).flat with
        | none =>
          have HD : Hid (D.flat = Option.none) := Lib.hid (by rw [HDF.out]; exact flatL_stop hjL hf)
          have HFN := Lib.hid hf
          clear hf
          go_wp2_with fail
          refine HC.out.mono ?_
          intro e w1 hw1
          rw [idleOut_none HFN.out] at hw1
          obtain ⟨rfl, hb1⟩ := hw1
          have HB1 := Lib.hid (hbw.trans hb1)
          clear hb1
          go_wp2_with fail
          go_ret
          rw [idleOut_none HD.out]
          exact ⟨rfl, HB1.out⟩
        | some v =>
          have HM := Lib.hid (flatL_more hjL HFL.out hf)
          have HFN := Lib.hid hf
          clear hf
          go_wp2_with fail
          refine HC.out.mono ?_
          intro e w1 hw1
          rw [idleOut_some HFN.out] at hw1
          obtain ⟨rfl, hh1, hb1⟩ := hw1
          have HB1 := Lib.hid (hbw.trans hb1)
          have HH1 := Lib.hid hh1
          clear hb1 hh1
          go_wp2_with fail
          go_roundw
          case rel => exact ⟨j + 1, l ++ v, by omega, by go_num, HM.out, by rw [← List.append_assoc]; exact HH1.out, HB1.out⟩
          case measure => simp [intOf]; omega
      · have HD : Hid (D.flat = some l) := Lib.hid (by rw [HDF.out]; have := HFL.out; rw [List.take_of_length_le (by rw [HNL.out]; omega)] at this; exact this)
        go_wp2_with fail
        go_ret
        rw [idleOut_some HD.out]
        exact ⟨rfl, HHL.out, hbw⟩

set_option maxHeartbeats 4000000 in
theorem idly_13 (t : ByteArray) (ks : List Doc) (brk : Bool) (i y : Int) (a : Option Addr) (cap g off B b : Nat) (bs : List UInt8) (w : World) (h0 : w.cell? ⟨g, off, none⟩ = some (.int .i64 13)) (h1 : w.cell? ⟨g, off + 1, none⟩ = some (.string t)) (h2 : w.cell? ⟨g, off + 2, none⟩ = some (.slice a ks.length cap)) (h3 : w.cell? ⟨g, off + 3, none⟩ = some (.bool brk))
    (hcap : ks.length ≤ cap) (hB : B ≤ w.heap.size) (hh : HeldI B b bs w) (hbd : bs.length + (Doc.mk 13 t ks brk i y).bulk ≤ 1099511627776) (hsh : (Doc.mk 13 t ks brk i y).shape = true)
    (hkids : 0 < ks.length → ∃ g' off', a = some ⟨g', off', none⟩ ∧ KidsIdle B b w ks g' off') :
    Calls Tryd.prog 39 #[.pointer (some ⟨g, off, none⟩), .func (.func 60) #[] #[]] w (IdleOut (.mk 13 t ks brk i y) B b bs w) := by
  clear hsh
  obtain ⟨D, hD⟩ : ∃ D, D = Doc.mk 13 t ks brk i y := ⟨_, rfl⟩
  obtain ⟨L, hL⟩ : ∃ L, L = ks := ⟨_, rfl⟩
  obtain ⟨n, hn⟩ : ∃ n, n = L.length := ⟨_, rfl⟩
  have HNL : Hid (L.length = n) := Lib.hid hn.symm
  have HDF : Hid (D.flat = flatL L) := Lib.hid (by rw [hD, hL, Doc.flat_eq]; simp only [Doc.kind, Doc.kids, Doc.brk]; rfl)
  have HBD : Hid (bs.length + bulkL L ≤ 1099511627776) := Lib.hid (by rw [Doc.bulk_eq] at hbd; simp only [Doc.kids, Doc.text] at hbd; have := bulkL_take ks 1; have := bulkL_drop ks 1; rw [hL]; omega)
  have HH := Lib.hid hh
  have hnb : n ≤ 1099511627776 := by have h1 := nodesL_len ks; have h2 := (Doc.mk 13 t ks brk i y).nodes_bulk; rw [Doc.nodes_eq] at h2; simp only [Doc.kids] at h2; have h3 : L.length ≤ ks.length := (by rw [hL]; first | exact Nat.le_refl _ | (simp; done) | (simp; omega)); omega
  rw [← hD]
  have hks : ks.length = n := by rw [hn, hL]
  rw [hks] at h2 hcap
  by_cases h0n : n = 0
  · have HKG : Hid (∀ (j : Nat) (hj : j < L.length) (bs : List UInt8) (W : World), Below B w W → HeldI B b bs W → bs.length + (L[j]).bulk ≤ 1099511627776 → Calls Tryd.prog 39 #[.pointer none, .func (.func 60) #[] #[]] W (IdleOut L[j] B b bs W)) := Lib.hid (fun j hj => by omega)
    have HD : Hid (D.flat = some []) := Lib.hid (by rw [HDF.out]; have : L = [] := List.eq_nil_of_length_eq_zero (by omega); rw [this]; rfl)
    have HKN := Lib.hid hks
    have HHN := Lib.hid hn
    have HHL := Lib.hid hL
    have HHD := Lib.hid hD
    clear hks hn hL hD hh hkids hbd
    subst h0n
    go_enter Tryd.func39, Tryd.ntmps39
    go_wp2_with fail
    go_loopw [6, 50] (fun _ i wr => i = .int .i64 0 ∧ wr = w) (fun _ i _ => 0)
    case atStart => exact ⟨rfl, rfl⟩
    case round =>
      obtain ⟨rfl, rfl⟩ := hrel
      go_wp2_with fail
      go_ret
      rw [idleOut_some HD.out, List.append_nil]
      exact ⟨rfl, HH.out, Below.refl B _⟩
  · obtain ⟨g', off', rfl, hkg⟩ := hkids (by omega)
    have HKG : Hid (KidsIdle B b w L g' off') := Lib.hid (by rw [hL]; exact hkg)
    have HKN := Lib.hid hks
    have HHN := Lib.hid hn
    have HHL := Lib.hid hL
    have HHD := Lib.hid hD
    clear hks hn hL hD hh hkids hkg hbd
    go_enter Tryd.func39, Tryd.ntmps39
    go_wp2_with fail
    go_loopw [6, 50] (fun _ i wr => ∃ (j : Nat) (l : List UInt8), j ≤ n ∧ i = .int .i64 (j : Int) ∧ flatL (L.take j) = some l ∧ HeldI B b (bs ++ l) wr ∧ Below B w wr) (fun _ i _ => n - (intOf i).toNat)
    case atStart => exact ⟨0, [], Nat.zero_le _, rfl, rfl, by rw [List.append_nil]; exact HH.out, Below.refl B w⟩
    case round =>
      obtain ⟨j, l, hj, rfl, hfl, hhl, hbw⟩ := hrel
      have HFL := Lib.hid hfl
      have HHL := Lib.hid hhl
      clear hfl hhl
      by_cases hlt : j < n
      · have hjL : j < L.length := by rw [HNL.out]; exact hlt
        have HC := Lib.hid (HKG.out j hjL (bs ++ l) wr hbw HHL.out (by have := flatL_bd hjL HFL.out; have := HBD.out; rw [List.length_append]; omega))
        cases hf : (L[j]).flat with
        | none =>
          have HD : Hid (D.flat = Option.none) := Lib.hid (by rw [HDF.out]; exact flatL_stop hjL hf)
          have HFN := Lib.hid hf
          clear hf
          go_wp2_with fail
          refine HC.out.mono ?_
          intro e w1 hw1
          rw [idleOut_none HFN.out] at hw1
          obtain ⟨rfl, hb1⟩ := hw1
          have HB1 := Lib.hid (hbw.trans hb1)
          clear hb1
          go_wp2_with fail
          go_ret
          rw [idleOut_none HD.out]
          exact ⟨rfl, HB1.out⟩
        | some v =>
          have HM := Lib.hid (flatL_more hjL HFL.out hf)
          have HFN := Lib.hid hf
          clear hf
          go_wp2_with fail
          refine HC.out.mono ?_
          intro e w1 hw1
          rw [idleOut_some HFN.out] at hw1
          obtain ⟨rfl, hh1, hb1⟩ := hw1
          have HB1 := Lib.hid (hbw.trans hb1)
          have HH1 := Lib.hid hh1
          clear hb1 hh1
          go_wp2_with fail
          go_roundw
          case rel => exact ⟨j + 1, l ++ v, by omega, by go_num, HM.out, by rw [← List.append_assoc]; exact HH1.out, HB1.out⟩
          case measure => simp [intOf]; omega
      · have HD : Hid (D.flat = some l) := Lib.hid (by rw [HDF.out]; have := HFL.out; rw [List.take_of_length_le (by rw [HNL.out]; omega)] at this; exact this)
        go_wp2_with fail
        go_ret
        rw [idleOut_some HD.out]
        exact ⟨rfl, HHL.out, hbw⟩
end

section
open Go.RowKit
set_option maxRecDepth 100000
set_option linter.unusedVariables false
set_option linter.unusedSimpArgs false
theorem idly_any (d : Doc) : ∀ (kv : Value) (g off B b : Nat) (bs : List UInt8) (w : World), Six w g off d kv → KV w 0 B d kv → B ≤ w.heap.size → HeldI B b bs w → bs.length + d.bulk ≤ 1099511627776 → d.shape = true →
    Calls Tryd.prog 39 #[.pointer (some ⟨g, off, none⟩), .func (.func 60) #[] #[]] w (IdleOut d B b bs w) := by
  refine Doc.ind (P := fun d => ∀ (kv : Value) (g off B b : Nat) (bs : List UInt8) (w : World), Six w g off d kv → KV w 0 B d kv → B ≤ w.heap.size → HeldI B b bs w → bs.length + d.bulk ≤ 1099511627776 → d.shape = true →
    Calls Tryd.prog 39 #[.pointer (some ⟨g, off, none⟩), .func (.func 60) #[] #[]] w (IdleOut d B b bs w)) (fun d ih => ?_) d
  intro kv g off B b bs w h6 hk hB hh hbd hsh
  obtain ⟨a, cap, rfl⟩ := hk.slice
  have hcap := hk.cap
  have hkids : 0 < d.kids.length → ∃ g' off', a = some ⟨g', off', none⟩ ∧ KidsIdle B b w d.kids g' off' := by
    intro h0
    obtain ⟨g', off', rfl, _, hg', kv', _, _⟩ := hk.kid h0
    refine ⟨g', off', rfl, fun j hj bs' W hW hh' hb' => ?_⟩
    obtain ⟨g2, off2, e, _, hg2, kv2, h62, hk2⟩ := hk.kid hj
    cases e
    have hs : ∀ c, c < B → W.heap[c]? = w.heap[c]? := fun c hc => hW.block c hc
    have hsj : (d.kids[j]).shape = true := by
      rw [Doc.shape_eq] at hsh
      simp only [Bool.and_eq_true] at hsh
      exact shapeL_mem hsh.2 _ (List.getElem_mem hj)
    exact ih _ (List.getElem_mem hj) kv2 _ _ B b bs' W (h62.of (hs _ hg2)) (hk2.of (Nat.le_refl _) (Nat.le_refl _) (fun c _ hc => hs c hc)) (Nat.le_trans hB hW.size) hh' hb' hsj
  have hf : d.formed = true := by
    rw [Doc.shape_eq] at hsh
    simp only [Bool.and_eq_true] at hsh
    exact hsh.1
  cases d with
  | mk k t ks brk i y =>
    have hk16 : 1 ≤ k ∧ k ≤ 16 := by
      by_cases h : 1 ≤ k ∧ k ≤ 16
      · exact h
      · have hf' : formedF k t ks.length brk i y = true := hf
        rw [formedF_other k h] at hf'
        cases hf'
    have h0 := h6.kind
    have h1 := h6.text
    have h2 := h6.kids
    have h3 := h6.brk
    simp only [Doc.kind, Doc.text, Doc.kids, Doc.brk] at h0 h1 h2 h3 hcap hkids
    clear h6 hk ih hf
    have : k = 1 ∨ k = 2 ∨ k = 3 ∨ k = 4 ∨ k = 5 ∨ k = 6 ∨ k = 7 ∨ k = 8 ∨ k = 9 ∨ k = 10 ∨ k = 11 ∨ k = 12 ∨ k = 13 ∨ k = 14 ∨ k = 15 ∨ k = 16 := by omega
    rcases this with rfl | rfl | rfl | rfl | rfl | rfl | rfl | rfl | rfl | rfl | rfl | rfl | rfl | rfl | rfl | rfl
    · exact idly_1 t ks brk i y a cap g off B b bs w h0 h1 h2 h3 hcap hB hh hbd hsh hkids
    · exact idly_2 t ks brk i y a cap g off B b bs w h0 h1 h2 h3 hcap hB hh hbd hsh hkids
    · exact idly_3 t ks brk i y a cap g off B b bs w h0 h1 h2 h3 hcap hB hh hbd hsh hkids
    · exact idly_4 t ks brk i y a cap g off B b bs w h0 h1 h2 h3 hcap hB hh hbd hsh hkids
    · exact idly_5 t ks brk i y a cap g off B b bs w h0 h1 h2 h3 hcap hB hh hbd hsh hkids
    · exact idly_6 t ks brk i y a cap g off B b bs w h0 h1 h2 h3 hcap hB hh hbd hsh hkids
    · exact idly_7 t ks brk i y a cap g off B b bs w h0 h1 h2 h3 hcap hB hh hbd hsh hkids
    · exact idly_8 t ks brk i y a cap g off B b bs w h0 h1 h2 h3 hcap hB hh hbd hsh hkids
    · exact idly_9 t ks brk i y a cap g off B b bs w h0 h1 h2 h3 hcap hB hh hbd hsh hkids
    · exact idly_10 t ks brk i y a cap g off B b bs w h0 h1 h2 h3 hcap hB hh hbd hsh hkids
    · exact idly_11 t ks brk i y a cap g off B b bs w h0 h1 h2 h3 hcap hB hh hbd hsh hkids
    · exact idly_12 t ks brk i y a cap g off B b bs w h0 h1 h2 h3 hcap hB hh hbd hsh hkids
    · exact idly_13 t ks brk i y a cap g off B b bs w h0 h1 h2 h3 hcap hB hh hbd hsh hkids
    · exact idly_14 t ks brk i y a cap g off B b bs w h0 h1 h2 h3 hcap hB hh hbd hsh hkids
    · exact idly_15 t ks brk i y a cap g off B b bs w h0 h1 h2 h3 hcap hB hh hbd hsh hkids
    · exact idly_16 t ks brk i y a cap g off B b bs w h0 h1 h2 h3 hcap hB hh hbd hsh hkids


/-- May it go flat? -/
theorem idle_is (d : Doc) (kv : Value) (g off B : Nat) (w : World) (h6 : Six w g off d kv) (hk : KV w 0 B d kv) (hB : B ≤ w.heap.size) (hb : d.bulk ≤ 4194304) (hs : d.shape = true) :
    Calls Tryd.prog 39 #[.pointer (some ⟨g, off, none⟩), .func (.func 60) #[] #[]] w fun e w' => e = .returned (.bool d.flat.isSome) ∧ Below B w w' := by
  refine (idly_any d kv g off B 0 [] w h6 hk hB trivial (by simp; omega) hs).mono ?_
  intro e w' h
  unfold IdleOut at h
  cases hf : d.flat with
  | none => rw [hf] at h; exact ⟨h.1, h.2⟩
  | some l => rw [hf] at h; exact ⟨h.1, h.2.2⟩
end

section
open Go.RowKit
set_option maxRecDepth 100000
set_option linter.unusedVariables false
set_option linter.unusedSimpArgs false
theorem depth_mem {ks : List Doc} {x : Doc} (h : x ∈ ks) : x.depth ≤ depthL ks := by
  induction ks with
  | nil => cases h
  | cons a l ih =>
    simp only [depthL]
    rcases List.mem_cons.1 h with rfl | h
    · omega
    · have := ih h
      omega
theorem CmOk.kid {i : Ind} {d x : Doc} (h : CmOk i d) (hx : x ∈ d.kids) : CmOk i x := by
  have h1 := kid_ok h.shape h.bulk x hx
  have h2 := depth_mem hx
  have h3 := h.wide
  rw [Doc.depth_eq] at h3
  exact { shape := h1.1, bulk := h1.2, ind := h.ind, wide := by omega }
theorem CmOk.kidIn {i : Ind} {y : Bool × Int} {d x : Doc} (h : CmOk i d) (hx : x ∈ d.kids) (h0 : 0 ≤ y.2) (h1 : y.2 ≤ 10000) : CmOk (y :: i) x := by
  have hk := h.kid hx
  have h2 := depth_mem hx
  have h3 := h.wide
  rw [Doc.depth_eq] at h3
  refine { shape := hk.shape, bulk := hk.bulk, ind := fun z hz => ?_, wide := by simp only [Ind.wide]; omega }
  rcases List.mem_cons.1 hz with rfl | hz
  · exact ⟨h0, h1⟩
  · exact h.ind z hz
section
variable {B0 b mb : Nat} {ov : OptV} {s : MS} {w W : World}
theorem docs_below (h : MAt B0 b mb ov s w) (hb : Below w.heap.size w W) {ds : List Doc} {la : List Addr} (hd : DocsAt w B0 (s.F b mb w) ds la) : DocsAt W B0 (s.F b mb W) ds la :=
  ⟨hd.1, fun j h1 h2 => h.doc_goes (Goes.of_below hb) (hd.2 j h1 h2)⟩
theorem fits_some (h : MAt B0 b mb ov s w) (hb : Below w.heap.size w W) (fl al : Bool) {ds : List Doc} {la : List Addr} {gp n c : Nat} (hd : DocsAt w B0 (s.F b mb w) ds la) (hok : ∀ x ∈ ds, x.shape = true ∧ x.bulk ≤ 4194304) (hp : Blk W gp (ptrs la) 66) (hn : n = la.length) (hw : wtL ds ≤ 16777216) :
    Calls Tryd.prog 50 #[.pointer (some ⟨b, 0, none⟩), .bool fl, .bool al, .slice (some ⟨gp, 0, none⟩) n c] W fun e w' => e = .returned (.bool (fitsM ov.o s.mach fl al ds)) ∧ Below W.heap.size W w' :=
  fits_is (h.below hb) fl al (ptrs_at hp hp.lt hn c) (docs_below h hb hd) hok hw
theorem push_some (h : MAt B0 b mb ov s w) (hb : Below w.heap.size w W) {ind : Ind} {p : Option Addr} (hi : IndAt w (s.F b mb w) ind p) (fl : Bool) {ds : List Doc} {la : List Addr} {gp n c : Nat} (hd : DocsAt w B0 (s.F b mb w) ds la) (hok : ∀ x ∈ ds, CmOk ind x) (hp : Blk W gp (ptrs la) 66) (hgp : w.heap.size ≤ gp) (hn : n = la.length) (hw : s.weight + wtL ds ≤ 16777216) :
    Calls Tryd.prog 36 #[.pointer (some ⟨b, 0, none⟩), .pointer p, .bool fl, .slice (some ⟨gp, 0, none⟩) n c] W fun e w' => Ends B0 b mb ov s W (some (pushM s.mach ind fl ds)) e w' := by
  have hg := Goes.of_below (b := b) (mb := mb) (s := s) hb
  refine (push_is (h.below hb) (hg.ind hi) fl (ptrs_at hp ⟨hp.lt, fun hx => ?_⟩ hn c) (docs_below h hb hd) hok hw)
  have := h.X_lt hx
  omega
end
/-- What cond pushes where no kid fits before the last. -/
theorem pick_step {o : Opt} {m : Mach} {ks : List Doc} {i : Nat} (hi : i + 1 < ks.length) (hf : fitsM o m false false [ks[i]'(by omega)] = false) : pickD o m (ks.drop i) = pickD o m (ks.drop (i + 1)) := by
  rw [List.drop_eq_getElem_cons (by omega : i < ks.length), List.drop_eq_getElem_cons hi]
  show (if fitsM o m false false [ks[i]'(by omega)] = true then some (ks[i]'(by omega)) else pickD o m (ks[i + 1] :: ks.drop (i + 1 + 1))) = _
  rw [hf]
  rfl
theorem pick_hit {o : Opt} {m : Mach} {ks : List Doc} {i : Nat} (hi : i < ks.length) (hf : fitsM o m false false [ks[i]] = true) : pickD o m (ks.drop i) = some ks[i] := by
  rw [List.drop_eq_getElem_cons hi]
  cases hd : ks.drop (i + 1) with
  | nil => rfl
  | cons a l =>
    unfold pickD
    rw [hf]
    rfl
theorem pick_last {o : Opt} {m : Mach} {ks : List Doc} {n : Nat} (hn : ks.length = n + 1) : pickD o m (ks.drop n) = some (ks[n]'(by omega)) := by
  rw [List.drop_eq_getElem_cons (by omega : n < ks.length), List.drop_eq_nil_of_le (by omega)]
  rfl
theorem condM_cons (o : Opt) (m : Mach) (ind : Ind) (b : Bool) (a : Doc) (l : List Doc) : condM o m ind b (a :: l) = if b then pushM m ind false ((a :: l).getLast?).toList else if a.flat.isSome && fitsM o m true false [a] then pushM m ind true [a] else pushM m ind false (if l = [] then [a] else (pickD o m l).toList) := rfl
theorem cond_brk {o : Opt} {m : Mach} {ind : Ind} {ks : List Doc} {n : Nat} (hn : ks.length = n + 1) : condM o m ind true ks = pushM m ind false [ks[n]'(by omega)] := by
  cases ks with
  | nil => simp at hn
  | cons a l =>
    have : l.length = n := by simpa using hn
    subst this
    rw [condM_cons]
    rw [if_pos rfl, List.getLast?_eq_getElem?, List.getElem?_eq_getElem (by simp)]
    simp
theorem cond_flat {o : Opt} {m : Mach} {ind : Ind} {ks : List Doc} (hn : 0 < ks.length) (h1 : (ks[0]).flat.isSome = true) (h2 : fitsM o m true false [ks[0]] = true) : condM o m ind false ks = pushM m ind true [ks[0]] := by
  cases ks with
  | nil => simp at hn
  | cons a l =>
    simp only [List.getElem_cons_zero] at h1 h2
    rw [condM_cons]
    rw [if_neg (by simp), h1, h2]
    rfl
theorem cond_else {o : Opt} {m : Mach} {ind : Ind} {ks : List Doc} {x : Doc} (hn : 0 < ks.length) (h1 : ((ks[0]).flat.isSome && fitsM o m true false [ks[0]]) = false) (h2 : (ks.length = 1 ∧ x = ks[0]) ∨ (1 < ks.length ∧ pickD o m (ks.drop 1) = some x)) : condM o m ind false ks = pushM m ind false [x] := by
  cases ks with
  | nil => simp at hn
  | cons a l =>
    simp only [List.getElem_cons_zero] at h1 h2
    rw [condM_cons]
    rw [if_neg (by simp), h1]
    rcases h2 with ⟨h2, rfl⟩ | ⟨h2, h3⟩
    · have : l = [] := by cases l <;> simp_all
      subst this
      rfl
    · have : l ≠ [] := by rintro rfl; simp at h2
      simp only [List.drop_succ_cons, List.drop_zero] at h3
      rw [h3]
      simp [this]
end
end Go.Proofs.YthljgiimdcbfpaaDoor
