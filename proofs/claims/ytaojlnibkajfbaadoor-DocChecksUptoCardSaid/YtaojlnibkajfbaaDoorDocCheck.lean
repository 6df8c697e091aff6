/- doc.Check, doc.Size; the laws' text; Num. -/
import Derived.Test.YtaojlnibkajfbaaDoorDocLook
namespace Go.Proofs.YtaojlnibkajfbaaDoor
open Go.RowKit
set_option maxRecDepth 100000
set_option linter.unusedVariables false
set_option linter.unusedSimpArgs false

/-- A document boxed. -/
theorem six_new (w : World) (d : Doc) (kv : Value) : Six (w.alloc (.cells #[.int .i64 d.kind, .string d.text, kv, .bool d.brk, .int .i64 d.id, .int .i64 d.width] 24)) w.heap.size 0 d kv := by
  have h := Blk.new w (docCells d kv) 24
  exact ⟨h.cell 0, h.cell 1, h.cell 2, h.cell 3, h.cell 4, h.cell 5⟩
theorem check_any (d : Doc) (kv : Value) (w : World) (hk : KV w 0 w.heap.size d kv) (hb : d.bulk ≤ 4194304) (hT : Tabs w) :
    Calls Tryd.prog 18 #[docV d kv] w fun e w' => e = .returned (.int .i64 d.code) ∧ Below w.heap.size w w' := by
  have hal := (Below.refl w.heap.size w).alloc (Nat.le_refl _) (.cells #[.int .i64 d.kind, .string d.text, kv, .bool d.brk, .int .i64 d.id, .int .i64 d.width] 24)
  have HL := Lib.hid (look_any d w.heap.size 0 kv _ hb (six_new w d kv) (by simp) ((hk.below hal (Nat.le_refl _)).wide (Nat.le_refl _) (by simp)) (hT.below hal))
  have HA := Lib.hid hal
  clear hal hk
  unfold docV
  go_enter Tryd.func18, Tryd.ntmps18
  go_wp2_with fail
  refine HL.out.mono ?_
  rintro e w1 ⟨rfl, hb1⟩
  have HB1 := Lib.hid (HA.out.call hb1)
  clear hb1
  go_wp2_with fail
  go_ret
  exact ⟨rfl, HB1.out⟩
theorem size_any (d : Doc) (kv : Value) (w : World) (hk : KV w 0 w.heap.size d kv) (hb : d.bulk ≤ 4194304) (hT : Tabs w) :
    Calls Tryd.prog 19 #[docV d kv] w fun e w' => e = .returned (.int .i64 d.sizeN) ∧ Below w.heap.size w w' := by
  have hal := (Below.refl w.heap.size w).alloc (Nat.le_refl _) (.cells #[.int .i64 d.kind, .string d.text, kv, .bool d.brk, .int .i64 d.id, .int .i64 d.width] 24)
  have HL := Lib.hid (look_any d w.heap.size 0 kv _ hb (six_new w d kv) (by simp) ((hk.below hal (Nat.le_refl _)).wide (Nat.le_refl _) (by simp)) (hT.below hal))
  have HA := Lib.hid hal
  clear hal hk
  unfold docV
  go_enter Tryd.func19, Tryd.ntmps19
  go_wp2_with fail
  refine HL.out.mono ?_
  rintro e w1 ⟨rfl, hb1⟩
  have HB1 := Lib.hid (HA.out.call hb1)
  clear hb1
  go_wp2_with fail
  go_ret
  exact ⟨rfl, HB1.out⟩
/-- The laws' text. -/
def dtext (s : ByteArray) : Doc := .mk 1 s [] false 0 0
theorem dtext_any (s : ByteArray) (w : World) :
    Calls Tryd.prog 27 #[.string s] w fun e w' => e = .returned (docV (dtext s) (.slice none 0 0)) ∧ Below w.heap.size w w' := by
  go_enter Tryd.func27, Tryd.ntmps27
  go_wp2_with fail
  refine bodyPost_ret (v := docV (dtext s) (.slice none 0 0)) (by simp [results, Tryd.f27, go_sem, docV, dtext, Doc.kind, Doc.text, Doc.brk, Doc.id, Doc.width]) rfl ⟨rfl, (Below.refl _ w).alloc (Nat.le_refl _) _⟩
end Go.Proofs.YtaojlnibkajfbaaDoor
