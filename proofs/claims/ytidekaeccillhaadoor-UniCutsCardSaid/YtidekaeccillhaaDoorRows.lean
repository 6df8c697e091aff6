/-
  NARROWER THAN 'FOR EVERY INPUT', by the rows' own cells (each row's printed sentence says how): UniValids: laid · UniRunes: laid · UniWidths: laid · UniKinds: laid · UniJoins: laid · UniRanges: laid · UniCuts: laid · WordNames: laid.
  DERIVED. THE GIVEN ROWS OF THIS SEAT. 8 by the template 'for every input the law returns true; each argument reads behind the call as it read before'; 0 by the template 'total and deterministic' (their statements: YtidekaeccillhaaDoorTotals.lean).
  GIVEN WITH THE SEED: the statements are not yours to turn. If you find one false, say at which input.
  Laid BY PROGRAM, IN A SANDBOX (cutbox-rows.mjs): the forced cells as the released guide's own fill.sh prints them over the translation 58f5b112c4982e0d… (all of the seat's roots in one cut). By AI agents, Wed Nov 11 2026. No macro, syntax, notation, axiom, sorry.
-/
import Derived.Test.YtidekaeccillhaaDoorChecked
import GoSem.PinnedTables
import GoSem.Claim
import GoSem.ClaimJoined
import GoSem.ClaimMapViews
import Derived.JoinedTies
import Derived.KernelRfl
namespace Go.Proofs.YtidekaeccillhaaDoor
/- THE CELL 'sum', in the pinned program and in every row, IS THE sha256 OF THE DUMP (.gsa) THAT YtidekaeccillhaaDoorProg.lean LOADS. Nothing in Lean hashes anything: it is a label: what it is worth is what the hold of that sum in a sandbox is worth. -/
noncomputable def Tryd.pinned : Pinned := { name := "ytidekaeccillhaadoor", sum := "58f5b112c4982e0d0254bf3e5a62b2f51b14303fab445dc9a47d48a25d1408c4", checked := Tryd.checked }
namespace Rows
def none {H : Type} : Left H := { results := [], args := [] }

/- WHAT THE LISTED PACKAGE-LEVEL VARIABLES READ AS WHEN THE CALL BEGINS. Each datum BY PROGRAM (the guide's laid-datum.mjs) off the statement by which the dump's own 'gosem.cut.vars' lays the variable. In a bare row this is a premise. The card (YtidekaeccillhaaDoorCards.lean) ties it to the program's text. -/
def laid_unicode_utf8_acceptRanges {H : Type} : DataW H := .agg [.agg [.lit (.int .u8 128), .lit (.int .u8 191)], .agg [.lit (.int .u8 160), .lit (.int .u8 191)], .agg [.lit (.int .u8 128), .lit (.int .u8 159)], .agg [.lit (.int .u8 144), .lit (.int .u8 191)], .agg [.lit (.int .u8 128), .lit (.int .u8 143)], .agg [.lit (.int .u8 0), .lit (.int .u8 0)], .agg [.lit (.int .u8 0), .lit (.int .u8 0)], .agg [.lit (.int .u8 0), .lit (.int .u8 0)], .agg [.lit (.int .u8 0), .lit (.int .u8 0)], .agg [.lit (.int .u8 0), .lit (.int .u8 0)], .agg [.lit (.int .u8 0), .lit (.int .u8 0)], .agg [.lit (.int .u8 0), .lit (.int .u8 0)], .agg [.lit (.int .u8 0), .lit (.int .u8 0)], .agg [.lit (.int .u8 0), .lit (.int .u8 0)], .agg [.lit (.int .u8 0), .lit (.int .u8 0)], .agg [.lit (.int .u8 0), .lit (.int .u8 0)]]
/-- One of Go's own tables, pinned by name: the form's constant. -/
def laid_unicode_utf8_first : DataW Unit := Go.Pinned.utf8First

/-- 'platenlaw1.UniValids': WHATEVER THE INPUT: true; the input reads as it did. -/
def uniValidsSpec : ChangeSpec := { name := "uniValids", fn := fun _ => fun
  | [d] => { results := [.lit (.bool true)], args := [d] }
  | _ => none }
def uniValidsRow : OpenClaim := { program := "ytidekaeccillhaadoor", sum := "58f5b112c4982e0d0254bf3e5a62b2f51b14303fab445dc9a47d48a25d1408c4", func := "platen/platenlaw1.UniValids", spec := "uniValids", named := ["unicode/utf8.first", "unicode/utf8.acceptRanges"], apart := false, laid := [("unicode/utf8.acceptRanges", laid_unicode_utf8_acceptRanges), ("unicode/utf8.first", laid_unicode_utf8_first)] }
def UniValidsSaid : Prop := uniValidsRow.holds Tryd.pinned (OpenSpec.ofChange uniValidsSpec)

/-- ITS FALSE NEIGHBOUR: 'it returns false'. Refute it at one input. -/
def uniValidsWrong : ChangeSpec := { name := "uniValids", fn := fun _ => fun
  | [d] => { results := [.lit (.bool false)], args := [d] }
  | _ => none }
def UniValidsWrongFalsely : Prop := uniValidsRow.holds Tryd.pinned (OpenSpec.ofChange uniValidsWrong)

/-- 'platenlaw1.UniRunes': WHATEVER THE INPUT: true; the input reads as it did. -/
def uniRunesSpec : ChangeSpec := { name := "uniRunes", fn := fun _ => fun
  | [d] => { results := [.lit (.bool true)], args := [d] }
  | _ => none }
def uniRunesRow : OpenClaim := { program := "ytidekaeccillhaadoor", sum := "58f5b112c4982e0d0254bf3e5a62b2f51b14303fab445dc9a47d48a25d1408c4", func := "platen/platenlaw1.UniRunes", spec := "uniRunes", named := ["unicode/utf8.first", "unicode/utf8.acceptRanges"], apart := false, laid := [("unicode/utf8.acceptRanges", laid_unicode_utf8_acceptRanges), ("unicode/utf8.first", laid_unicode_utf8_first)] }
def UniRunesSaid : Prop := uniRunesRow.holds Tryd.pinned (OpenSpec.ofChange uniRunesSpec)

/-- ITS FALSE NEIGHBOUR: 'it returns false'. Refute it at one input. -/
def uniRunesWrong : ChangeSpec := { name := "uniRunes", fn := fun _ => fun
  | [d] => { results := [.lit (.bool false)], args := [d] }
  | _ => none }
def UniRunesWrongFalsely : Prop := uniRunesRow.holds Tryd.pinned (OpenSpec.ofChange uniRunesWrong)

/-- 'platenlaw1.UniWidths': WHATEVER THE INPUT: true; the input reads as it did. -/
def uniWidthsSpec : ChangeSpec := { name := "uniWidths", fn := fun _ => fun
  | [d] => { results := [.lit (.bool true)], args := [d] }
  | _ => none }
def uniWidthsRow : OpenClaim := { program := "ytidekaeccillhaadoor", sum := "58f5b112c4982e0d0254bf3e5a62b2f51b14303fab445dc9a47d48a25d1408c4", func := "platen/platenlaw1.UniWidths", spec := "uniWidths", named := ["unicode/utf8.first", "unicode/utf8.acceptRanges"], apart := false, laid := [("unicode/utf8.acceptRanges", laid_unicode_utf8_acceptRanges), ("unicode/utf8.first", laid_unicode_utf8_first)] }
def UniWidthsSaid : Prop := uniWidthsRow.holds Tryd.pinned (OpenSpec.ofChange uniWidthsSpec)

/-- ITS FALSE NEIGHBOUR: 'it returns false'. Refute it at one input. -/
def uniWidthsWrong : ChangeSpec := { name := "uniWidths", fn := fun _ => fun
  | [d] => { results := [.lit (.bool false)], args := [d] }
  | _ => none }
def UniWidthsWrongFalsely : Prop := uniWidthsRow.holds Tryd.pinned (OpenSpec.ofChange uniWidthsWrong)

/-- 'platenlaw1.UniKinds': WHATEVER THE INPUT: true; the input reads as it did. -/
def uniKindsSpec : ChangeSpec := { name := "uniKinds", fn := fun _ => fun
  | [d] => { results := [.lit (.bool true)], args := [d] }
  | _ => none }
def uniKindsRow : OpenClaim := { program := "ytidekaeccillhaadoor", sum := "58f5b112c4982e0d0254bf3e5a62b2f51b14303fab445dc9a47d48a25d1408c4", func := "platen/platenlaw1.UniKinds", spec := "uniKinds", named := ["unicode/utf8.first", "unicode/utf8.acceptRanges"], apart := false, laid := [("unicode/utf8.acceptRanges", laid_unicode_utf8_acceptRanges), ("unicode/utf8.first", laid_unicode_utf8_first)] }
def UniKindsSaid : Prop := uniKindsRow.holds Tryd.pinned (OpenSpec.ofChange uniKindsSpec)

/-- ITS FALSE NEIGHBOUR: 'it returns false'. Refute it at one input. -/
def uniKindsWrong : ChangeSpec := { name := "uniKinds", fn := fun _ => fun
  | [d] => { results := [.lit (.bool false)], args := [d] }
  | _ => none }
def UniKindsWrongFalsely : Prop := uniKindsRow.holds Tryd.pinned (OpenSpec.ofChange uniKindsWrong)

/-- 'platenlaw1.UniJoins': WHATEVER THE INPUT: true; the input reads as it did. -/
def uniJoinsSpec : ChangeSpec := { name := "uniJoins", fn := fun _ => fun
  | [d1, d2] => { results := [.lit (.bool true)], args := [d1, d2] }
  | _ => none }
def uniJoinsRow : OpenClaim := { program := "ytidekaeccillhaadoor", sum := "58f5b112c4982e0d0254bf3e5a62b2f51b14303fab445dc9a47d48a25d1408c4", func := "platen/platenlaw1.UniJoins", spec := "uniJoins", named := ["unicode/utf8.first", "unicode/utf8.acceptRanges"], apart := false, laid := [("unicode/utf8.acceptRanges", laid_unicode_utf8_acceptRanges), ("unicode/utf8.first", laid_unicode_utf8_first)] }
def UniJoinsSaid : Prop := uniJoinsRow.holds Tryd.pinned (OpenSpec.ofChange uniJoinsSpec)

/-- ITS FALSE NEIGHBOUR: 'it returns false'. Refute it at one input. -/
def uniJoinsWrong : ChangeSpec := { name := "uniJoins", fn := fun _ => fun
  | [d1, d2] => { results := [.lit (.bool false)], args := [d1, d2] }
  | _ => none }
def UniJoinsWrongFalsely : Prop := uniJoinsRow.holds Tryd.pinned (OpenSpec.ofChange uniJoinsWrong)

/-- 'platenlaw1.UniRanges': WHATEVER THE INPUT: true; the input reads as it did. -/
def uniRangesSpec : ChangeSpec := { name := "uniRanges", fn := fun _ => fun
  | [d1, d2] => { results := [.lit (.bool true)], args := [d1, d2] }
  | _ => none }
def uniRangesRow : OpenClaim := { program := "ytidekaeccillhaadoor", sum := "58f5b112c4982e0d0254bf3e5a62b2f51b14303fab445dc9a47d48a25d1408c4", func := "platen/platenlaw1.UniRanges", spec := "uniRanges", named := ["unicode/utf8.first", "unicode/utf8.acceptRanges"], apart := false, laid := [("unicode/utf8.acceptRanges", laid_unicode_utf8_acceptRanges), ("unicode/utf8.first", laid_unicode_utf8_first)] }
def UniRangesSaid : Prop := uniRangesRow.holds Tryd.pinned (OpenSpec.ofChange uniRangesSpec)

/-- ITS FALSE NEIGHBOUR: 'it returns false'. Refute it at one input. -/
def uniRangesWrong : ChangeSpec := { name := "uniRanges", fn := fun _ => fun
  | [d1, d2] => { results := [.lit (.bool false)], args := [d1, d2] }
  | _ => none }
def UniRangesWrongFalsely : Prop := uniRangesRow.holds Tryd.pinned (OpenSpec.ofChange uniRangesWrong)

/-- 'platenlaw1.UniCuts': WHATEVER THE INPUT: true; the input reads as it did. -/
def uniCutsSpec : ChangeSpec := { name := "uniCuts", fn := fun _ => fun
  | [d1, d2] => { results := [.lit (.bool true)], args := [d1, d2] }
  | _ => none }
def uniCutsRow : OpenClaim := { program := "ytidekaeccillhaadoor", sum := "58f5b112c4982e0d0254bf3e5a62b2f51b14303fab445dc9a47d48a25d1408c4", func := "platen/platenlaw1.UniCuts", spec := "uniCuts", named := ["unicode/utf8.first", "unicode/utf8.acceptRanges"], apart := false, laid := [("unicode/utf8.acceptRanges", laid_unicode_utf8_acceptRanges), ("unicode/utf8.first", laid_unicode_utf8_first)] }
def UniCutsSaid : Prop := uniCutsRow.holds Tryd.pinned (OpenSpec.ofChange uniCutsSpec)

/-- ITS FALSE NEIGHBOUR: 'it returns false'. Refute it at one input. -/
def uniCutsWrong : ChangeSpec := { name := "uniCuts", fn := fun _ => fun
  | [d1, d2] => { results := [.lit (.bool false)], args := [d1, d2] }
  | _ => none }
def UniCutsWrongFalsely : Prop := uniCutsRow.holds Tryd.pinned (OpenSpec.ofChange uniCutsWrong)

/-- 'platenlaw6.WordNames': WHATEVER THE INPUT: true; the input reads as it did. -/
def wordNamesSpec : ChangeSpec := { name := "wordNames", fn := fun _ => fun
  | [d] => { results := [.lit (.bool true)], args := [d] }
  | _ => none }
def wordNamesRow : OpenClaim := { program := "ytidekaeccillhaadoor", sum := "58f5b112c4982e0d0254bf3e5a62b2f51b14303fab445dc9a47d48a25d1408c4", func := "platen/platenlaw6.WordNames", spec := "wordNames", named := ["unicode/utf8.first", "unicode/utf8.acceptRanges"], apart := false, laid := [("unicode/utf8.acceptRanges", laid_unicode_utf8_acceptRanges), ("unicode/utf8.first", laid_unicode_utf8_first)] }
def WordNamesSaid : Prop := wordNamesRow.holds Tryd.pinned (OpenSpec.ofChange wordNamesSpec)

/-- ITS FALSE NEIGHBOUR: 'it returns false'. Refute it at one input. -/
def wordNamesWrong : ChangeSpec := { name := "wordNames", fn := fun _ => fun
  | [d] => { results := [.lit (.bool false)], args := [d] }
  | _ => none }
def WordNamesWrongFalsely : Prop := wordNamesRow.holds Tryd.pinned (OpenSpec.ofChange wordNamesWrong)

/- THE SECOND FORM. 'bulk': how many values and letters a reading holds, each counted each time it is reached (what is shared counts as often as it is met; a slice's spare places count too). A statement '..UptoSaid' is the law's where the arguments, and the package variables that the reading takes, are together of bulk at most 1048576: NARROWER than '..Said'. Prove '..Said' where nothing that the law and all that it calls make is longer than what came in: it says more and counts as full. Else prove '..UptoSaid'. A law counts once. -/
mutual
def uptoBulk {H : Type} : DataW H → Nat
  | .lit (.string bytes) => bytes.length + 1
  | .lit _ => 1
  | .nil => 1
  | .ptr d => uptoBulk d + 1
  | .slice elems spare => uptoBulkAll elems + uptoBulkAll spare + 1
  | .agg parts => uptoBulkAll parts + 1
  | .iface _ d => uptoBulk d + 1
  | .map entries => uptoBulkEntries entries + 1
  | .held _ => 1
def uptoBulkAll {H : Type} : List (DataW H) → Nat
  | [] => 0
  | d :: r => uptoBulk d + uptoBulkAll r
def uptoBulkEntries {H : Type} : List (Lit × DataW H) → Nat
  | [] => 0
  | x :: r => uptoBulkEntry x + uptoBulkEntries r
def uptoBulkEntry {H : Type} : Lit × DataW H → Nat
  | (.string bytes, d) => bytes.length + uptoBulk d + 1
  | (_, d) => uptoBulk d + 1
 end
def uptoSmall : (H : Type) → List (DataW H) → Bool := fun _ ds => decide (uptoBulkAll ds ≤ 1048576)
def OpenSpec.upto (s : _root_.Go.ChangeSpec) : _root_.Go.OpenSpec := { _root_.Go.OpenSpec.ofChange s with cond := some uptoSmall }

/-- 'platenlaw1.UniValids', WHERE WHAT IT READS IS OF BULK AT MOST 1048576: true; the input reads as it did. -/
def uniValidsUptoRow : OpenClaim := { program := "ytidekaeccillhaadoor", sum := "58f5b112c4982e0d0254bf3e5a62b2f51b14303fab445dc9a47d48a25d1408c4", func := "platen/platenlaw1.UniValids", spec := "uniValids", named := ["unicode/utf8.first", "unicode/utf8.acceptRanges"], apart := false, laid := [("unicode/utf8.acceptRanges", laid_unicode_utf8_acceptRanges), ("unicode/utf8.first", laid_unicode_utf8_first)], narrowed := true }
def UniValidsUptoSaid : Prop := uniValidsUptoRow.holds Tryd.pinned (OpenSpec.upto uniValidsSpec)

/-- 'platenlaw1.UniRunes', WHERE WHAT IT READS IS OF BULK AT MOST 1048576: true; the input reads as it did. -/
def uniRunesUptoRow : OpenClaim := { program := "ytidekaeccillhaadoor", sum := "58f5b112c4982e0d0254bf3e5a62b2f51b14303fab445dc9a47d48a25d1408c4", func := "platen/platenlaw1.UniRunes", spec := "uniRunes", named := ["unicode/utf8.first", "unicode/utf8.acceptRanges"], apart := false, laid := [("unicode/utf8.acceptRanges", laid_unicode_utf8_acceptRanges), ("unicode/utf8.first", laid_unicode_utf8_first)], narrowed := true }
def UniRunesUptoSaid : Prop := uniRunesUptoRow.holds Tryd.pinned (OpenSpec.upto uniRunesSpec)

/-- 'platenlaw1.UniWidths', WHERE WHAT IT READS IS OF BULK AT MOST 1048576: true; the input reads as it did. -/
def uniWidthsUptoRow : OpenClaim := { program := "ytidekaeccillhaadoor", sum := "58f5b112c4982e0d0254bf3e5a62b2f51b14303fab445dc9a47d48a25d1408c4", func := "platen/platenlaw1.UniWidths", spec := "uniWidths", named := ["unicode/utf8.first", "unicode/utf8.acceptRanges"], apart := false, laid := [("unicode/utf8.acceptRanges", laid_unicode_utf8_acceptRanges), ("unicode/utf8.first", laid_unicode_utf8_first)], narrowed := true }
def UniWidthsUptoSaid : Prop := uniWidthsUptoRow.holds Tryd.pinned (OpenSpec.upto uniWidthsSpec)

/-- 'platenlaw1.UniKinds', WHERE WHAT IT READS IS OF BULK AT MOST 1048576: true; the input reads as it did. -/
def uniKindsUptoRow : OpenClaim := { program := "ytidekaeccillhaadoor", sum := "58f5b112c4982e0d0254bf3e5a62b2f51b14303fab445dc9a47d48a25d1408c4", func := "platen/platenlaw1.UniKinds", spec := "uniKinds", named := ["unicode/utf8.first", "unicode/utf8.acceptRanges"], apart := false, laid := [("unicode/utf8.acceptRanges", laid_unicode_utf8_acceptRanges), ("unicode/utf8.first", laid_unicode_utf8_first)], narrowed := true }
def UniKindsUptoSaid : Prop := uniKindsUptoRow.holds Tryd.pinned (OpenSpec.upto uniKindsSpec)

/-- 'platenlaw1.UniJoins', WHERE WHAT IT READS IS OF BULK AT MOST 1048576: true; the input reads as it did. -/
def uniJoinsUptoRow : OpenClaim := { program := "ytidekaeccillhaadoor", sum := "58f5b112c4982e0d0254bf3e5a62b2f51b14303fab445dc9a47d48a25d1408c4", func := "platen/platenlaw1.UniJoins", spec := "uniJoins", named := ["unicode/utf8.first", "unicode/utf8.acceptRanges"], apart := false, laid := [("unicode/utf8.acceptRanges", laid_unicode_utf8_acceptRanges), ("unicode/utf8.first", laid_unicode_utf8_first)], narrowed := true }
def UniJoinsUptoSaid : Prop := uniJoinsUptoRow.holds Tryd.pinned (OpenSpec.upto uniJoinsSpec)

/-- 'platenlaw1.UniRanges', WHERE WHAT IT READS IS OF BULK AT MOST 1048576: true; the input reads as it did. -/
def uniRangesUptoRow : OpenClaim := { program := "ytidekaeccillhaadoor", sum := "58f5b112c4982e0d0254bf3e5a62b2f51b14303fab445dc9a47d48a25d1408c4", func := "platen/platenlaw1.UniRanges", spec := "uniRanges", named := ["unicode/utf8.first", "unicode/utf8.acceptRanges"], apart := false, laid := [("unicode/utf8.acceptRanges", laid_unicode_utf8_acceptRanges), ("unicode/utf8.first", laid_unicode_utf8_first)], narrowed := true }
def UniRangesUptoSaid : Prop := uniRangesUptoRow.holds Tryd.pinned (OpenSpec.upto uniRangesSpec)

/-- 'platenlaw1.UniCuts', WHERE WHAT IT READS IS OF BULK AT MOST 1048576: true; the input reads as it did. -/
def uniCutsUptoRow : OpenClaim := { program := "ytidekaeccillhaadoor", sum := "58f5b112c4982e0d0254bf3e5a62b2f51b14303fab445dc9a47d48a25d1408c4", func := "platen/platenlaw1.UniCuts", spec := "uniCuts", named := ["unicode/utf8.first", "unicode/utf8.acceptRanges"], apart := false, laid := [("unicode/utf8.acceptRanges", laid_unicode_utf8_acceptRanges), ("unicode/utf8.first", laid_unicode_utf8_first)], narrowed := true }
def UniCutsUptoSaid : Prop := uniCutsUptoRow.holds Tryd.pinned (OpenSpec.upto uniCutsSpec)

/-- 'platenlaw6.WordNames', WHERE WHAT IT READS IS OF BULK AT MOST 1048576: true; the input reads as it did. -/
def wordNamesUptoRow : OpenClaim := { program := "ytidekaeccillhaadoor", sum := "58f5b112c4982e0d0254bf3e5a62b2f51b14303fab445dc9a47d48a25d1408c4", func := "platen/platenlaw6.WordNames", spec := "wordNames", named := ["unicode/utf8.first", "unicode/utf8.acceptRanges"], apart := false, laid := [("unicode/utf8.acceptRanges", laid_unicode_utf8_acceptRanges), ("unicode/utf8.first", laid_unicode_utf8_first)], narrowed := true }
def WordNamesUptoSaid : Prop := wordNamesUptoRow.holds Tryd.pinned (OpenSpec.upto wordNamesSpec)

end Rows
end Go.Proofs.YtidekaeccillhaaDoor
