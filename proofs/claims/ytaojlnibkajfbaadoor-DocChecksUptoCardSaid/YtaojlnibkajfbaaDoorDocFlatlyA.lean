/- The walks of doc.Flatly, writing to a builder: by a document's kind. PRINTED by gen_flatly.py. -/
import Derived.Test.YtaojlnibkajfbaaDoorDocFlatPlain
import Derived.Test.YtaojlnibkajfbaaDoorBuilder
namespace Go.Proofs.YtaojlnibkajfbaaDoor
open Go.RowKit
set_option maxRecDepth 100000
set_option linter.unusedVariables false
set_option linter.unusedSimpArgs false

/-- A builder that holds these bytes. -/
def Held (B b : Nat) (bs : List UInt8) (w : World) : Prop := Lib.IsBuilder 51 5 B b (Lib.byteCells bs) w
/-- What going through a document the flat way does. -/
def FlatOut (d : Doc) (B b : Nat) (bs : List UInt8) (w : World) (e : Ending) (w' : World) : Prop :=
  match d.flat with
  | some l => e = .returned (.bool true) ∧ Held B b (bs ++ l) w' ∧ Below B w w'
  | none => e = .returned (.bool false) ∧ Below B w w'
theorem flatOut_some {d : Doc} {B b : Nat} {bs l : List UInt8} {w w' : World} {e : Ending} (h : d.flat = some l) : FlatOut d B b bs w e w' = (e = .returned (.bool true) ∧ Held B b (bs ++ l) w' ∧ Below B w w') := by unfold FlatOut; rw [h]
theorem flatOut_none {d : Doc} {B b : Nat} {bs : List UInt8} {w w' : World} {e : Ending} (h : d.flat = Option.none) : FlatOut d B b bs w e w' = (e = .returned (.bool false) ∧ Below B w w') := by unfold FlatOut; rw [h]
/-- The kids that are gone through, each by its own contract. -/
def KidsGo (B b : Nat) (w : World) (L : List Doc) (g off : Nat) : Prop := ∀ (j : Nat) (hj : j < L.length) (bs : List UInt8) (W : World), Below B w W → Held B b bs W → bs.length + (L[j]).bulk ≤ 1099511627776 →
  Calls Tryd.prog 34 #[.pointer (some ⟨g, off + j * 6, none⟩), .func (.func 35) #[] #[.pointer (some ⟨b, 0, none⟩)]] W (FlatOut L[j] B b bs W)
theorem closure_any (B b : Nat) (bs : List UInt8) (s : ByteArray) (w : World) (h : Held B b bs w) (hlen : bs.length + s.size ≤ 1099511627776) (hBw : B ≤ w.heap.size) :
    Calls Tryd.prog 35 #[.string s, .pointer (some ⟨b, 0, none⟩)] w fun e w' => e = .returned (.tuple #[]) ∧ Held B b (bs ++ s.data.toList) w' ∧ Below B w w' := by
  have hb : (Lib.byteCells bs).length + s.size ≤ 140737488355328 := by rw [Lib.byteCells_length]; omega
  have HW := Lib.hid (writeString_any B b (Lib.byteCells bs) s w h hb hBw)
  clear h hb
  go_enter Tryd.func35, Tryd.ntmps35
  go_wp2_with (go_at_call 36; refine HW.out.mono ?_; rintro e w1 ⟨rfl, h1, hb1⟩; have H1 := Lib.hid h1; clear h1)
  go_end0
  refine ⟨rfl, ?_, hb1⟩
  have := H1.out
  rw [Lib.strCells_eq] at this
  unfold Held
  rw [Lib.byteCells, List.map_append]
  exact .inr this
theorem flatL_stop {L : List Doc} {j : Nat} (hj : j < L.length) (h : (L[j]).flat = Option.none) : flatL L = Option.none := by
  have e : L = L.take j ++ L[j] :: L.drop (j + 1) := by rw [List.getElem_cons_drop, List.take_append_drop]
  rw [e, flatL_app]
  simp only [flatL, h]
  cases flatL (L.take j) <;> rfl
theorem flatL_more {L : List Doc} {j : Nat} {l a : List UInt8} (hj : j < L.length) (h1 : flatL (L.take j) = some l) (h : (L[j]).flat = some a) : flatL (L.take (j + 1)) = some (l ++ a) := by
  rw [List.take_succ_eq_append_getElem hj, flatL_app, h1, flatL_one, h]
  rfl
theorem flatL_bd {L : List Doc} {j : Nat} {l : List UInt8} (hj : j < L.length) (h1 : flatL (L.take j) = some l) : l.length + (L[j]).bulk ≤ bulkL L := by
  have := flatL_len (L.take j) (fun x _ => x.flat_len) l h1
  have := bulkL_get hj
  omega

set_option maxHeartbeats 4000000 in
theorem flatly_1 (t : ByteArray) (ks : List Doc) (brk : Bool) (i y : Int) (a : Option Addr) (cap g off B b : Nat) (bs : List UInt8) (w : World) (h0 : w.cell? ⟨g, off, none⟩ = some (.int .i64 1)) (h1 : w.cell? ⟨g, off + 1, none⟩ = some (.string t)) (h2 : w.cell? ⟨g, off + 2, none⟩ = some (.slice a ks.length cap)) (h3 : w.cell? ⟨g, off + 3, none⟩ = some (.bool brk))
    (hcap : ks.length ≤ cap) (hB : B ≤ w.heap.size) (hh : Held B b bs w) (hbd : bs.length + (Doc.mk 1 t ks brk i y).bulk ≤ 1099511627776) (hsh : (Doc.mk 1 t ks brk i y).shape = true)
    (hkids : 0 < ks.length → ∃ g' off', a = some ⟨g', off', none⟩ ∧ KidsGo B b w ks g' off') :
    Calls Tryd.prog 34 #[.pointer (some ⟨g, off, none⟩), .func (.func 35) #[] #[.pointer (some ⟨b, 0, none⟩)]] w (FlatOut (.mk 1 t ks brk i y) B b bs w) := by
  have HF : Hid ((Doc.mk 1 t ks brk i y).flat = some t.data.toList) := Lib.hid (by rw [Doc.flat_eq]; rfl)
  have HH := Lib.hid (closure_any B b bs t w hh (by rw [Doc.bulk_eq] at hbd; simp only [Doc.text] at hbd; omega) hB)
  clear hh hkids hsh
  go_enter Tryd.func34, Tryd.ntmps34
  go_wp2_with fail
  refine HH.out.mono ?_
  rintro e w1 ⟨rfl, hw1, hb1⟩
  have HW1 := Lib.hid hw1
  clear hw1
  go_wp2_with fail
  go_ret
  rw [flatOut_some HF.out]
  exact ⟨rfl, HW1.out, hb1⟩

set_option maxHeartbeats 4000000 in
theorem flatly_3 (t : ByteArray) (ks : List Doc) (brk : Bool) (i y : Int) (a : Option Addr) (cap g off B b : Nat) (bs : List UInt8) (w : World) (h0 : w.cell? ⟨g, off, none⟩ = some (.int .i64 3)) (h1 : w.cell? ⟨g, off + 1, none⟩ = some (.string t)) (h2 : w.cell? ⟨g, off + 2, none⟩ = some (.slice a ks.length cap)) (h3 : w.cell? ⟨g, off + 3, none⟩ = some (.bool brk))
    (hcap : ks.length ≤ cap) (hB : B ≤ w.heap.size) (hh : Held B b bs w) (hbd : bs.length + (Doc.mk 3 t ks brk i y).bulk ≤ 1099511627776) (hsh : (Doc.mk 3 t ks brk i y).shape = true)
    (hkids : 0 < ks.length → ∃ g' off', a = some ⟨g', off', none⟩ ∧ KidsGo B b w ks g' off') :
    Calls Tryd.prog 34 #[.pointer (some ⟨g, off, none⟩), .func (.func 35) #[] #[.pointer (some ⟨b, 0, none⟩)]] w (FlatOut (.mk 3 t ks brk i y) B b bs w) := by
  have HF : Hid ((Doc.mk 3 t ks brk i y).flat = some [32]) := Lib.hid (by rw [Doc.flat_eq]; rfl)
  have HH := Lib.hid (closure_any B b bs ⟨#[32]⟩ w hh (by have : (⟨#[32]⟩ : ByteArray).size = 1 := rfl; rw [Doc.bulk_eq] at hbd; omega) hB)
  clear hh hkids hsh
  go_enter Tryd.func34, Tryd.ntmps34
  go_wp2_with fail
  refine HH.out.mono ?_
  rintro e w1 ⟨rfl, hw1, hb1⟩
  have HW1 := Lib.hid hw1
  clear hw1
  go_wp2_with fail
  go_ret
  rw [flatOut_some HF.out]
  exact ⟨rfl, HW1.out, hb1⟩

set_option maxHeartbeats 4000000 in
theorem flatly_5 (t : ByteArray) (ks : List Doc) (brk : Bool) (i y : Int) (a : Option Addr) (cap g off B b : Nat) (bs : List UInt8) (w : World) (h0 : w.cell? ⟨g, off, none⟩ = some (.int .i64 5)) (h1 : w.cell? ⟨g, off + 1, none⟩ = some (.string t)) (h2 : w.cell? ⟨g, off + 2, none⟩ = some (.slice a ks.length cap)) (h3 : w.cell? ⟨g, off + 3, none⟩ = some (.bool brk))
    (hcap : ks.length ≤ cap) (hB : B ≤ w.heap.size) (hh : Held B b bs w) (hbd : bs.length + (Doc.mk 5 t ks brk i y).bulk ≤ 1099511627776) (hsh : (Doc.mk 5 t ks brk i y).shape = true)
    (hkids : 0 < ks.length → ∃ g' off', a = some ⟨g', off', none⟩ ∧ KidsGo B b w ks g' off') :
    Calls Tryd.prog 34 #[.pointer (some ⟨g, off, none⟩), .func (.func 35) #[] #[.pointer (some ⟨b, 0, none⟩)]] w (FlatOut (.mk 5 t ks brk i y) B b bs w) := by
  have HF : Hid ((Doc.mk 5 t ks brk i y).flat = Option.none) := Lib.hid (by rw [Doc.flat_eq]; rfl)
  clear hh hkids hsh
  go_enter Tryd.func34, Tryd.ntmps34
  go_wp2_with fail
  go_ret
  rw [flatOut_none HF.out]
  exact ⟨rfl, Below.refl B w⟩

set_option maxHeartbeats 4000000 in
theorem flatly_6 (t : ByteArray) (ks : List Doc) (brk : Bool) (i y : Int) (a : Option Addr) (cap g off B b : Nat) (bs : List UInt8) (w : World) (h0 : w.cell? ⟨g, off, none⟩ = some (.int .i64 6)) (h1 : w.cell? ⟨g, off + 1, none⟩ = some (.string t)) (h2 : w.cell? ⟨g, off + 2, none⟩ = some (.slice a ks.length cap)) (h3 : w.cell? ⟨g, off + 3, none⟩ = some (.bool brk))
    (hcap : ks.length ≤ cap) (hB : B ≤ w.heap.size) (hh : Held B b bs w) (hbd : bs.length + (Doc.mk 6 t ks brk i y).bulk ≤ 1099511627776) (hsh : (Doc.mk 6 t ks brk i y).shape = true)
    (hkids : 0 < ks.length → ∃ g' off', a = some ⟨g', off', none⟩ ∧ KidsGo B b w ks g' off') :
    Calls Tryd.prog 34 #[.pointer (some ⟨g, off, none⟩), .func (.func 35) #[] #[.pointer (some ⟨b, 0, none⟩)]] w (FlatOut (.mk 6 t ks brk i y) B b bs w) := by
  have HF : Hid ((Doc.mk 6 t ks brk i y).flat = Option.none) := Lib.hid (by rw [Doc.flat_eq]; rfl)
  clear hh hkids hsh
  go_enter Tryd.func34, Tryd.ntmps34
  go_wp2_with fail
  go_ret
  rw [flatOut_none HF.out]
  exact ⟨rfl, Below.refl B w⟩

set_option maxHeartbeats 4000000 in
theorem flatly_16 (t : ByteArray) (ks : List Doc) (brk : Bool) (i y : Int) (a : Option Addr) (cap g off B b : Nat) (bs : List UInt8) (w : World) (h0 : w.cell? ⟨g, off, none⟩ = some (.int .i64 16)) (h1 : w.cell? ⟨g, off + 1, none⟩ = some (.string t)) (h2 : w.cell? ⟨g, off + 2, none⟩ = some (.slice a ks.length cap)) (h3 : w.cell? ⟨g, off + 3, none⟩ = some (.bool brk))
    (hcap : ks.length ≤ cap) (hB : B ≤ w.heap.size) (hh : Held B b bs w) (hbd : bs.length + (Doc.mk 16 t ks brk i y).bulk ≤ 1099511627776) (hsh : (Doc.mk 16 t ks brk i y).shape = true)
    (hkids : 0 < ks.length → ∃ g' off', a = some ⟨g', off', none⟩ ∧ KidsGo B b w ks g' off') :
    Calls Tryd.prog 34 #[.pointer (some ⟨g, off, none⟩), .func (.func 35) #[] #[.pointer (some ⟨b, 0, none⟩)]] w (FlatOut (.mk 16 t ks brk i y) B b bs w) := by
  have HF : Hid ((Doc.mk 16 t ks brk i y).flat = Option.none) := Lib.hid (by rw [Doc.flat_eq]; rfl)
  clear hh hkids hsh
  go_enter Tryd.func34, Tryd.ntmps34
  go_wp2_with fail
  go_ret
  rw [flatOut_none HF.out]
  exact ⟨rfl, Below.refl B w⟩

set_option maxHeartbeats 4000000 in
theorem flatly_14 (t : ByteArray) (ks : List Doc) (brk : Bool) (i y : Int) (a : Option Addr) (cap g off B b : Nat) (bs : List UInt8) (w : World) (h0 : w.cell? ⟨g, off, none⟩ = some (.int .i64 14)) (h1 : w.cell? ⟨g, off + 1, none⟩ = some (.string t)) (h2 : w.cell? ⟨g, off + 2, none⟩ = some (.slice a ks.length cap)) (h3 : w.cell? ⟨g, off + 3, none⟩ = some (.bool brk))
    (hcap : ks.length ≤ cap) (hB : B ≤ w.heap.size) (hh : Held B b bs w) (hbd : bs.length + (Doc.mk 14 t ks brk i y).bulk ≤ 1099511627776) (hsh : (Doc.mk 14 t ks brk i y).shape = true)
    (hkids : 0 < ks.length → ∃ g' off', a = some ⟨g', off', none⟩ ∧ KidsGo B b w ks g' off') :
    Calls Tryd.prog 34 #[.pointer (some ⟨g, off, none⟩), .func (.func 35) #[] #[.pointer (some ⟨b, 0, none⟩)]] w (FlatOut (.mk 14 t ks brk i y) B b bs w) := by
  have HF : Hid ((Doc.mk 14 t ks brk i y).flat = some []) := Lib.hid (by rw [Doc.flat_eq]; rfl)
  have HH := Lib.hid hh
  clear hh hkids hsh
  go_enter Tryd.func34, Tryd.ntmps34
  go_wp2_with fail
  go_ret
  rw [flatOut_some HF.out, List.append_nil]
  exact ⟨rfl, HH.out, Below.refl B w⟩

set_option maxHeartbeats 4000000 in
theorem flatly_4 (t : ByteArray) (ks : List Doc) (brk : Bool) (i y : Int) (a : Option Addr) (cap g off B b : Nat) (bs : List UInt8) (w : World) (h0 : w.cell? ⟨g, off, none⟩ = some (.int .i64 4)) (h1 : w.cell? ⟨g, off + 1, none⟩ = some (.string t)) (h2 : w.cell? ⟨g, off + 2, none⟩ = some (.slice a ks.length cap)) (h3 : w.cell? ⟨g, off + 3, none⟩ = some (.bool brk))
    (hcap : ks.length ≤ cap) (hB : B ≤ w.heap.size) (hh : Held B b bs w) (hbd : bs.length + (Doc.mk 4 t ks brk i y).bulk ≤ 1099511627776) (hsh : (Doc.mk 4 t ks brk i y).shape = true)
    (hkids : 0 < ks.length → ∃ g' off', a = some ⟨g', off', none⟩ ∧ KidsGo B b w ks g' off') :
    Calls Tryd.prog 34 #[.pointer (some ⟨g, off, none⟩), .func (.func 35) #[] #[.pointer (some ⟨b, 0, none⟩)]] w (FlatOut (.mk 4 t ks brk i y) B b bs w) := by
  have HF : Hid ((Doc.mk 4 t ks brk i y).flat = some []) := Lib.hid (by rw [Doc.flat_eq]; rfl)
  have HH := Lib.hid hh
  clear hh hkids hsh
  go_enter Tryd.func34, Tryd.ntmps34
  go_wp2_with fail
  go_ret
  rw [flatOut_some HF.out, List.append_nil]
  exact ⟨rfl, HH.out, Below.refl B w⟩

set_option maxHeartbeats 4000000 in
theorem flatly_15 (t : ByteArray) (ks : List Doc) (brk : Bool) (i y : Int) (a : Option Addr) (cap g off B b : Nat) (bs : List UInt8) (w : World) (h0 : w.cell? ⟨g, off, none⟩ = some (.int .i64 15)) (h1 : w.cell? ⟨g, off + 1, none⟩ = some (.string t)) (h2 : w.cell? ⟨g, off + 2, none⟩ = some (.slice a ks.length cap)) (h3 : w.cell? ⟨g, off + 3, none⟩ = some (.bool brk))
    (hcap : ks.length ≤ cap) (hB : B ≤ w.heap.size) (hh : Held B b bs w) (hbd : bs.length + (Doc.mk 15 t ks brk i y).bulk ≤ 1099511627776) (hsh : (Doc.mk 15 t ks brk i y).shape = true)
    (hkids : 0 < ks.length → ∃ g' off', a = some ⟨g', off', none⟩ ∧ KidsGo B b w ks g' off') :
    Calls Tryd.prog 34 #[.pointer (some ⟨g, off, none⟩), .func (.func 35) #[] #[.pointer (some ⟨b, 0, none⟩)]] w (FlatOut (.mk 15 t ks brk i y) B b bs w) := by
  have HF : Hid ((Doc.mk 15 t ks brk i y).flat = some []) := Lib.hid (by rw [Doc.flat_eq]; rfl)
  have HH := Lib.hid hh
  clear hh hkids hsh
  go_enter Tryd.func34, Tryd.ntmps34
  go_wp2_with fail
  go_ret
  rw [flatOut_some HF.out, List.append_nil]
  exact ⟨rfl, HH.out, Below.refl B w⟩
end Go.Proofs.YtaojlnibkajfbaaDoor
