/-
  NARROWER THAN 'FOR EVERY INPUT', by the rows' own cells (each row's printed sentence says how): LayoutLines: loops, laid · LayoutTexts: loops, laid · LayoutFills: laid · LayoutSuffixes: laid · LayoutChoices: laid · LayoutConds: laid · LayoutGroups: laid · LayoutLiterals: laid · LayoutFlats: loops, laid · LayoutWidths: loops, laid.
  DERIVED. THE GIVEN ROWS OF THIS SEAT. 10 by the template 'for every input the law returns true; each argument reads behind the call as it read before'; 0 by the template 'total and deterministic' (their statements: YthljgiimdcbfpaaDoorTotals.lean).
  GIVEN WITH THE SEED: the statements are not yours to turn. If you find one false, say at which input.
  Laid BY PROGRAM, IN A SANDBOX (cutbox-rows.mjs): the forced cells as the released guide's own fill.sh prints them over the translation 77b951dcc4de6216… (all of the seat's roots in one cut). By AI agents, Wed Nov 11 2026. No macro, syntax, notation, axiom, sorry.
-/
import Derived.Test.YthljgiimdcbfpaaDoorChecked
import GoSem.PinnedTables
import GoSem.Claim
import GoSem.ClaimJoined
import GoSem.ClaimMapViews
import Derived.JoinedTies
import Derived.KernelRfl
namespace Go.Proofs.YthljgiimdcbfpaaDoor
/- THE CELL 'sum', in the pinned program and in every row, IS THE sha256 OF THE DUMP (.gsa) THAT YthljgiimdcbfpaaDoorProg.lean LOADS. Nothing in Lean hashes anything: it is a label: what it is worth is what the hold of that sum in a sandbox is worth. -/
noncomputable def Tryd.pinned : Pinned := { name := "ythljgiimdcbfpaadoor", sum := "77b951dcc4de6216313e658f523bb7ca65871df008cf5468d24c10042c2f9ff7", checked := Tryd.checked }
namespace Rows
def none {H : Type} : Left H := { results := [], args := [] }

/- WHAT THE LISTED PACKAGE-LEVEL VARIABLES READ AS WHEN THE CALL BEGINS. Each datum BY PROGRAM (the guide's laid-datum.mjs) off the statement by which the dump's own 'gosem.cut.vars' lays the variable. In a bare row this is a premise. The card (YthljgiimdcbfpaaDoorCards.lean) ties it to the program's text. -/
def laid_unicode_utf8_acceptRanges {H : Type} : DataW H := .agg [.agg [.lit (.int .u8 128), .lit (.int .u8 191)], .agg [.lit (.int .u8 160), .lit (.int .u8 191)], .agg [.lit (.int .u8 128), .lit (.int .u8 159)], .agg [.lit (.int .u8 144), .lit (.int .u8 191)], .agg [.lit (.int .u8 128), .lit (.int .u8 143)], .agg [.lit (.int .u8 0), .lit (.int .u8 0)], .agg [.lit (.int .u8 0), .lit (.int .u8 0)], .agg [.lit (.int .u8 0), .lit (.int .u8 0)], .agg [.lit (.int .u8 0), .lit (.int .u8 0)], .agg [.lit (.int .u8 0), .lit (.int .u8 0)], .agg [.lit (.int .u8 0), .lit (.int .u8 0)], .agg [.lit (.int .u8 0), .lit (.int .u8 0)], .agg [.lit (.int .u8 0), .lit (.int .u8 0)], .agg [.lit (.int .u8 0), .lit (.int .u8 0)], .agg [.lit (.int .u8 0), .lit (.int .u8 0)], .agg [.lit (.int .u8 0), .lit (.int .u8 0)]]
/-- One of Go's own tables, pinned by name: the form's constant. -/
def laid_unicode_utf8_first : DataW Unit := Go.Pinned.utf8First

/-- 'platenlaw17.LayoutLines': WHATEVER THE INPUT: true; the input reads as it did. -/
def layoutLinesSpec : ChangeSpec := { name := "layoutLines", fn := fun _ => fun
  | [d1, d2] => { results := [.lit (.bool true)], args := [d1, d2] }
  | _ => none }
def layoutLinesRow : OpenClaim := { program := "ythljgiimdcbfpaadoor", sum := "77b951dcc4de6216313e658f523bb7ca65871df008cf5468d24c10042c2f9ff7", func := "platen/platenlaw17.LayoutLines", spec := "layoutLines", inPlace := ["internal/bytealg.IndexByteString", "internal/bytealg.IndexString", "internal/abi.NoEscape", "internal/bytealg.MakeNoZero"], unfollowed := true, recurses := true, named := ["unicode/utf8.first", "unicode/utf8.acceptRanges", "internal/bytealg.MaxLen"], loops := true, apart := false, laid := [("unicode/utf8.acceptRanges", laid_unicode_utf8_acceptRanges), ("unicode/utf8.first", laid_unicode_utf8_first)] }
def LayoutLinesSaid : Prop := layoutLinesRow.holds Tryd.pinned (OpenSpec.ofChange layoutLinesSpec)

/-- ITS FALSE NEIGHBOUR: 'it returns false'. Refute it at one input. -/
def layoutLinesWrong : ChangeSpec := { name := "layoutLines", fn := fun _ => fun
  | [d1, d2] => { results := [.lit (.bool false)], args := [d1, d2] }
  | _ => none }
def LayoutLinesWrongFalsely : Prop := layoutLinesRow.holds Tryd.pinned (OpenSpec.ofChange layoutLinesWrong)

/-- 'platenlaw17.LayoutTexts': WHATEVER THE INPUT: true; the input reads as it did. -/
def layoutTextsSpec : ChangeSpec := { name := "layoutTexts", fn := fun _ => fun
  | [d1, d2] => { results := [.lit (.bool true)], args := [d1, d2] }
  | _ => none }
def layoutTextsRow : OpenClaim := { program := "ythljgiimdcbfpaadoor", sum := "77b951dcc4de6216313e658f523bb7ca65871df008cf5468d24c10042c2f9ff7", func := "platen/platenlaw17.LayoutTexts", spec := "layoutTexts", inPlace := ["internal/bytealg.IndexByteString", "internal/bytealg.IndexString", "internal/abi.NoEscape", "internal/bytealg.MakeNoZero"], unfollowed := true, recurses := true, named := ["unicode/utf8.first", "unicode/utf8.acceptRanges", "internal/bytealg.MaxLen"], loops := true, apart := false, laid := [("unicode/utf8.acceptRanges", laid_unicode_utf8_acceptRanges), ("unicode/utf8.first", laid_unicode_utf8_first)] }
def LayoutTextsSaid : Prop := layoutTextsRow.holds Tryd.pinned (OpenSpec.ofChange layoutTextsSpec)

/-- ITS FALSE NEIGHBOUR: 'it returns false'. Refute it at one input. -/
def layoutTextsWrong : ChangeSpec := { name := "layoutTexts", fn := fun _ => fun
  | [d1, d2] => { results := [.lit (.bool false)], args := [d1, d2] }
  | _ => none }
def LayoutTextsWrongFalsely : Prop := layoutTextsRow.holds Tryd.pinned (OpenSpec.ofChange layoutTextsWrong)

/-- 'platenlaw17.LayoutFills': WHATEVER THE INPUT: true; the input reads as it did. -/
def layoutFillsSpec : ChangeSpec := { name := "layoutFills", fn := fun _ => fun
  | [d1, d2] => { results := [.lit (.bool true)], args := [d1, d2] }
  | _ => none }
def layoutFillsRow : OpenClaim := { program := "ythljgiimdcbfpaadoor", sum := "77b951dcc4de6216313e658f523bb7ca65871df008cf5468d24c10042c2f9ff7", func := "platen/platenlaw17.LayoutFills", spec := "layoutFills", inPlace := ["internal/bytealg.IndexByteString", "internal/bytealg.IndexString", "internal/abi.NoEscape", "internal/bytealg.MakeNoZero"], unfollowed := true, recurses := true, named := ["unicode/utf8.first", "unicode/utf8.acceptRanges", "internal/bytealg.MaxLen"], apart := false, laid := [("unicode/utf8.acceptRanges", laid_unicode_utf8_acceptRanges), ("unicode/utf8.first", laid_unicode_utf8_first)] }
def LayoutFillsSaid : Prop := layoutFillsRow.holds Tryd.pinned (OpenSpec.ofChange layoutFillsSpec)

/-- ITS FALSE NEIGHBOUR: 'it returns false'. Refute it at one input. -/
def layoutFillsWrong : ChangeSpec := { name := "layoutFills", fn := fun _ => fun
  | [d1, d2] => { results := [.lit (.bool false)], args := [d1, d2] }
  | _ => none }
def LayoutFillsWrongFalsely : Prop := layoutFillsRow.holds Tryd.pinned (OpenSpec.ofChange layoutFillsWrong)

/-- 'platenlaw17.LayoutSuffixes': WHATEVER THE INPUT: true; the input reads as it did. -/
def layoutSuffixesSpec : ChangeSpec := { name := "layoutSuffixes", fn := fun _ => fun
  | [d] => { results := [.lit (.bool true)], args := [d] }
  | _ => none }
def layoutSuffixesRow : OpenClaim := { program := "ythljgiimdcbfpaadoor", sum := "77b951dcc4de6216313e658f523bb7ca65871df008cf5468d24c10042c2f9ff7", func := "platen/platenlaw17.LayoutSuffixes", spec := "layoutSuffixes", inPlace := ["internal/bytealg.IndexByteString", "internal/bytealg.IndexString", "internal/abi.NoEscape", "internal/bytealg.MakeNoZero"], unfollowed := true, recurses := true, named := ["unicode/utf8.first", "unicode/utf8.acceptRanges", "internal/bytealg.MaxLen"], apart := false, laid := [("unicode/utf8.acceptRanges", laid_unicode_utf8_acceptRanges), ("unicode/utf8.first", laid_unicode_utf8_first)] }
def LayoutSuffixesSaid : Prop := layoutSuffixesRow.holds Tryd.pinned (OpenSpec.ofChange layoutSuffixesSpec)

/-- ITS FALSE NEIGHBOUR: 'it returns false'. Refute it at one input. -/
def layoutSuffixesWrong : ChangeSpec := { name := "layoutSuffixes", fn := fun _ => fun
  | [d] => { results := [.lit (.bool false)], args := [d] }
  | _ => none }
def LayoutSuffixesWrongFalsely : Prop := layoutSuffixesRow.holds Tryd.pinned (OpenSpec.ofChange layoutSuffixesWrong)

/-- 'platenlaw17.LayoutChoices': WHATEVER THE INPUT: true; the input reads as it did. -/
def layoutChoicesSpec : ChangeSpec := { name := "layoutChoices", fn := fun _ => fun
  | [d1, d2] => { results := [.lit (.bool true)], args := [d1, d2] }
  | _ => none }
def layoutChoicesRow : OpenClaim := { program := "ythljgiimdcbfpaadoor", sum := "77b951dcc4de6216313e658f523bb7ca65871df008cf5468d24c10042c2f9ff7", func := "platen/platenlaw17.LayoutChoices", spec := "layoutChoices", inPlace := ["internal/bytealg.IndexByteString", "internal/bytealg.IndexString", "internal/abi.NoEscape", "internal/bytealg.MakeNoZero"], unfollowed := true, recurses := true, named := ["unicode/utf8.first", "unicode/utf8.acceptRanges", "internal/bytealg.MaxLen"], apart := false, laid := [("unicode/utf8.acceptRanges", laid_unicode_utf8_acceptRanges), ("unicode/utf8.first", laid_unicode_utf8_first)] }
def LayoutChoicesSaid : Prop := layoutChoicesRow.holds Tryd.pinned (OpenSpec.ofChange layoutChoicesSpec)

/-- ITS FALSE NEIGHBOUR: 'it returns false'. Refute it at one input. -/
def layoutChoicesWrong : ChangeSpec := { name := "layoutChoices", fn := fun _ => fun
  | [d1, d2] => { results := [.lit (.bool false)], args := [d1, d2] }
  | _ => none }
def LayoutChoicesWrongFalsely : Prop := layoutChoicesRow.holds Tryd.pinned (OpenSpec.ofChange layoutChoicesWrong)

/-- 'platenlaw17.LayoutConds': WHATEVER THE INPUT: true; the input reads as it did. -/
def layoutCondsSpec : ChangeSpec := { name := "layoutConds", fn := fun _ => fun
  | [d1, d2] => { results := [.lit (.bool true)], args := [d1, d2] }
  | _ => none }
def layoutCondsRow : OpenClaim := { program := "ythljgiimdcbfpaadoor", sum := "77b951dcc4de6216313e658f523bb7ca65871df008cf5468d24c10042c2f9ff7", func := "platen/platenlaw17.LayoutConds", spec := "layoutConds", inPlace := ["internal/bytealg.IndexByteString", "internal/bytealg.IndexString", "internal/abi.NoEscape", "internal/bytealg.MakeNoZero"], unfollowed := true, recurses := true, named := ["unicode/utf8.first", "unicode/utf8.acceptRanges", "internal/bytealg.MaxLen"], apart := false, laid := [("unicode/utf8.acceptRanges", laid_unicode_utf8_acceptRanges), ("unicode/utf8.first", laid_unicode_utf8_first)] }
def LayoutCondsSaid : Prop := layoutCondsRow.holds Tryd.pinned (OpenSpec.ofChange layoutCondsSpec)

/-- ITS FALSE NEIGHBOUR: 'it returns false'. Refute it at one input. -/
def layoutCondsWrong : ChangeSpec := { name := "layoutConds", fn := fun _ => fun
  | [d1, d2] => { results := [.lit (.bool false)], args := [d1, d2] }
  | _ => none }
def LayoutCondsWrongFalsely : Prop := layoutCondsRow.holds Tryd.pinned (OpenSpec.ofChange layoutCondsWrong)

/-- 'platenlaw17.LayoutGroups': WHATEVER THE INPUT: true; the input reads as it did. -/
def layoutGroupsSpec : ChangeSpec := { name := "layoutGroups", fn := fun _ => fun
  | [d1, d2] => { results := [.lit (.bool true)], args := [d1, d2] }
  | _ => none }
def layoutGroupsRow : OpenClaim := { program := "ythljgiimdcbfpaadoor", sum := "77b951dcc4de6216313e658f523bb7ca65871df008cf5468d24c10042c2f9ff7", func := "platen/platenlaw17.LayoutGroups", spec := "layoutGroups", inPlace := ["internal/bytealg.IndexByteString", "internal/bytealg.IndexString", "internal/abi.NoEscape", "internal/bytealg.MakeNoZero"], unfollowed := true, recurses := true, named := ["unicode/utf8.first", "unicode/utf8.acceptRanges", "internal/bytealg.MaxLen"], apart := false, laid := [("unicode/utf8.acceptRanges", laid_unicode_utf8_acceptRanges), ("unicode/utf8.first", laid_unicode_utf8_first)] }
def LayoutGroupsSaid : Prop := layoutGroupsRow.holds Tryd.pinned (OpenSpec.ofChange layoutGroupsSpec)

/-- ITS FALSE NEIGHBOUR: 'it returns false'. Refute it at one input. -/
def layoutGroupsWrong : ChangeSpec := { name := "layoutGroups", fn := fun _ => fun
  | [d1, d2] => { results := [.lit (.bool false)], args := [d1, d2] }
  | _ => none }
def LayoutGroupsWrongFalsely : Prop := layoutGroupsRow.holds Tryd.pinned (OpenSpec.ofChange layoutGroupsWrong)

/-- 'platenlaw17.LayoutLiterals': WHATEVER THE INPUT: true; the input reads as it did. -/
def layoutLiteralsSpec : ChangeSpec := { name := "layoutLiterals", fn := fun _ => fun
  | [d1, d2] => { results := [.lit (.bool true)], args := [d1, d2] }
  | _ => none }
def layoutLiteralsRow : OpenClaim := { program := "ythljgiimdcbfpaadoor", sum := "77b951dcc4de6216313e658f523bb7ca65871df008cf5468d24c10042c2f9ff7", func := "platen/platenlaw17.LayoutLiterals", spec := "layoutLiterals", inPlace := ["internal/bytealg.IndexByteString", "internal/bytealg.IndexString", "internal/abi.NoEscape", "internal/bytealg.MakeNoZero"], unfollowed := true, recurses := true, named := ["unicode/utf8.first", "unicode/utf8.acceptRanges", "internal/bytealg.MaxLen"], apart := false, laid := [("unicode/utf8.acceptRanges", laid_unicode_utf8_acceptRanges), ("unicode/utf8.first", laid_unicode_utf8_first)] }
def LayoutLiteralsSaid : Prop := layoutLiteralsRow.holds Tryd.pinned (OpenSpec.ofChange layoutLiteralsSpec)

/-- ITS FALSE NEIGHBOUR: 'it returns false'. Refute it at one input. -/
def layoutLiteralsWrong : ChangeSpec := { name := "layoutLiterals", fn := fun _ => fun
  | [d1, d2] => { results := [.lit (.bool false)], args := [d1, d2] }
  | _ => none }
def LayoutLiteralsWrongFalsely : Prop := layoutLiteralsRow.holds Tryd.pinned (OpenSpec.ofChange layoutLiteralsWrong)

/-- 'platenlaw17.LayoutFlats': WHATEVER THE INPUT: true; the input reads as it did. -/
def layoutFlatsSpec : ChangeSpec := { name := "layoutFlats", fn := fun _ => fun
  | [d1, d2, d3] => { results := [.lit (.bool true)], args := [d1, d2, d3] }
  | _ => none }
def layoutFlatsRow : OpenClaim := { program := "ythljgiimdcbfpaadoor", sum := "77b951dcc4de6216313e658f523bb7ca65871df008cf5468d24c10042c2f9ff7", func := "platen/platenlaw17.LayoutFlats", spec := "layoutFlats", inPlace := ["internal/bytealg.IndexByteString", "internal/bytealg.IndexString", "internal/abi.NoEscape", "internal/bytealg.MakeNoZero"], unfollowed := true, recurses := true, named := ["unicode/utf8.first", "unicode/utf8.acceptRanges", "internal/bytealg.MaxLen"], loops := true, apart := false, laid := [("unicode/utf8.acceptRanges", laid_unicode_utf8_acceptRanges), ("unicode/utf8.first", laid_unicode_utf8_first)] }
def LayoutFlatsSaid : Prop := layoutFlatsRow.holds Tryd.pinned (OpenSpec.ofChange layoutFlatsSpec)

/-- ITS FALSE NEIGHBOUR: 'it returns false'. Refute it at one input. -/
def layoutFlatsWrong : ChangeSpec := { name := "layoutFlats", fn := fun _ => fun
  | [d1, d2, d3] => { results := [.lit (.bool false)], args := [d1, d2, d3] }
  | _ => none }
def LayoutFlatsWrongFalsely : Prop := layoutFlatsRow.holds Tryd.pinned (OpenSpec.ofChange layoutFlatsWrong)

/-- 'platenlaw17.LayoutWidths': WHATEVER THE INPUT: true; the input reads as it did. -/
def layoutWidthsSpec : ChangeSpec := { name := "layoutWidths", fn := fun _ => fun
  | [d1, d2, d3] => { results := [.lit (.bool true)], args := [d1, d2, d3] }
  | _ => none }
def layoutWidthsRow : OpenClaim := { program := "ythljgiimdcbfpaadoor", sum := "77b951dcc4de6216313e658f523bb7ca65871df008cf5468d24c10042c2f9ff7", func := "platen/platenlaw17.LayoutWidths", spec := "layoutWidths", inPlace := ["internal/bytealg.IndexByteString", "internal/bytealg.IndexString", "internal/abi.NoEscape", "internal/bytealg.MakeNoZero"], unfollowed := true, recurses := true, named := ["unicode/utf8.first", "unicode/utf8.acceptRanges", "internal/bytealg.MaxLen"], loops := true, apart := false, laid := [("unicode/utf8.acceptRanges", laid_unicode_utf8_acceptRanges), ("unicode/utf8.first", laid_unicode_utf8_first)] }
def LayoutWidthsSaid : Prop := layoutWidthsRow.holds Tryd.pinned (OpenSpec.ofChange layoutWidthsSpec)

/-- ITS FALSE NEIGHBOUR: 'it returns false'. Refute it at one input. -/
def layoutWidthsWrong : ChangeSpec := { name := "layoutWidths", fn := fun _ => fun
  | [d1, d2, d3] => { results := [.lit (.bool false)], args := [d1, d2, d3] }
  | _ => none }
def LayoutWidthsWrongFalsely : Prop := layoutWidthsRow.holds Tryd.pinned (OpenSpec.ofChange layoutWidthsWrong)

/- THE SECOND FORM. 'bulk': how many values and letters a reading holds, each counted each time it is reached (what is shared counts as often as it is met; a slice's spare places count too). A statement '..UptoSaid' is the law's where the arguments, and the package variables that the reading takes, are together of bulk at most 1048576: NARROWER than '..Said'. Prove '..Said' where nothing that the law and all that it calls make is longer than what came in: it says more and counts as full. Else prove '..UptoSaid'. A law counts once. -/
mutual
def uptoBulk {H : Type} : DataW H → Nat
  | .lit (.string bytes) => bytes.length + 1
  | .lit _ => 1
  | .nil => 1
  | .ptr d => uptoBulk d + 1
  | .slice elems spare => uptoBulkAll elems + uptoBulkAll spare + 1
  | .agg parts => uptoBulkAll parts + 1
  | .iface _ d => uptoBulk d + 1
  | .map entries => uptoBulkEntries entries + 1
  | .held _ => 1
def uptoBulkAll {H : Type} : List (DataW H) → Nat
  | [] => 0
  | d :: r => uptoBulk d + uptoBulkAll r
def uptoBulkEntries {H : Type} : List (Lit × DataW H) → Nat
  | [] => 0
  | x :: r => uptoBulkEntry x + uptoBulkEntries r
def uptoBulkEntry {H : Type} : Lit × DataW H → Nat
  | (.string bytes, d) => bytes.length + uptoBulk d + 1
  | (_, d) => uptoBulk d + 1
 end
def uptoSmall : (H : Type) → List (DataW H) → Bool := fun _ ds => decide (uptoBulkAll ds ≤ 1048576)
def OpenSpec.upto (s : _root_.Go.ChangeSpec) : _root_.Go.OpenSpec := { _root_.Go.OpenSpec.ofChange s with cond := some uptoSmall }

/-- 'platenlaw17.LayoutLines', WHERE WHAT IT READS IS OF BULK AT MOST 1048576: true; the input reads as it did. -/
def layoutLinesUptoRow : OpenClaim := { program := "ythljgiimdcbfpaadoor", sum := "77b951dcc4de6216313e658f523bb7ca65871df008cf5468d24c10042c2f9ff7", func := "platen/platenlaw17.LayoutLines", spec := "layoutLines", inPlace := ["internal/bytealg.IndexByteString", "internal/bytealg.IndexString", "internal/abi.NoEscape", "internal/bytealg.MakeNoZero"], unfollowed := true, recurses := true, named := ["unicode/utf8.first", "unicode/utf8.acceptRanges", "internal/bytealg.MaxLen"], loops := true, apart := false, laid := [("unicode/utf8.acceptRanges", laid_unicode_utf8_acceptRanges), ("unicode/utf8.first", laid_unicode_utf8_first)], narrowed := true }
def LayoutLinesUptoSaid : Prop := layoutLinesUptoRow.holds Tryd.pinned (OpenSpec.upto layoutLinesSpec)

/-- 'platenlaw17.LayoutTexts', WHERE WHAT IT READS IS OF BULK AT MOST 1048576: true; the input reads as it did. -/
def layoutTextsUptoRow : OpenClaim := { program := "ythljgiimdcbfpaadoor", sum := "77b951dcc4de6216313e658f523bb7ca65871df008cf5468d24c10042c2f9ff7", func := "platen/platenlaw17.LayoutTexts", spec := "layoutTexts", inPlace := ["internal/bytealg.IndexByteString", "internal/bytealg.IndexString", "internal/abi.NoEscape", "internal/bytealg.MakeNoZero"], unfollowed := true, recurses := true, named := ["unicode/utf8.first", "unicode/utf8.acceptRanges", "internal/bytealg.MaxLen"], loops := true, apart := false, laid := [("unicode/utf8.acceptRanges", laid_unicode_utf8_acceptRanges), ("unicode/utf8.first", laid_unicode_utf8_first)], narrowed := true }
def LayoutTextsUptoSaid : Prop := layoutTextsUptoRow.holds Tryd.pinned (OpenSpec.upto layoutTextsSpec)

/-- 'platenlaw17.LayoutFills', WHERE WHAT IT READS IS OF BULK AT MOST 1048576: true; the input reads as it did. -/
def layoutFillsUptoRow : OpenClaim := { program := "ythljgiimdcbfpaadoor", sum := "77b951dcc4de6216313e658f523bb7ca65871df008cf5468d24c10042c2f9ff7", func := "platen/platenlaw17.LayoutFills", spec := "layoutFills", inPlace := ["internal/bytealg.IndexByteString", "internal/bytealg.IndexString", "internal/abi.NoEscape", "internal/bytealg.MakeNoZero"], unfollowed := true, recurses := true, named := ["unicode/utf8.first", "unicode/utf8.acceptRanges", "internal/bytealg.MaxLen"], apart := false, laid := [("unicode/utf8.acceptRanges", laid_unicode_utf8_acceptRanges), ("unicode/utf8.first", laid_unicode_utf8_first)], narrowed := true }
def LayoutFillsUptoSaid : Prop := layoutFillsUptoRow.holds Tryd.pinned (OpenSpec.upto layoutFillsSpec)

/-- 'platenlaw17.LayoutSuffixes', WHERE WHAT IT READS IS OF BULK AT MOST 1048576: true; the input reads as it did. -/
def layoutSuffixesUptoRow : OpenClaim := { program := "ythljgiimdcbfpaadoor", sum := "77b951dcc4de6216313e658f523bb7ca65871df008cf5468d24c10042c2f9ff7", func := "platen/platenlaw17.LayoutSuffixes", spec := "layoutSuffixes", inPlace := ["internal/bytealg.IndexByteString", "internal/bytealg.IndexString", "internal/abi.NoEscape", "internal/bytealg.MakeNoZero"], unfollowed := true, recurses := true, named := ["unicode/utf8.first", "unicode/utf8.acceptRanges", "internal/bytealg.MaxLen"], apart := false, laid := [("unicode/utf8.acceptRanges", laid_unicode_utf8_acceptRanges), ("unicode/utf8.first", laid_unicode_utf8_first)], narrowed := true }
def LayoutSuffixesUptoSaid : Prop := layoutSuffixesUptoRow.holds Tryd.pinned (OpenSpec.upto layoutSuffixesSpec)

/-- 'platenlaw17.LayoutChoices', WHERE WHAT IT READS IS OF BULK AT MOST 1048576: true; the input reads as it did. -/
def layoutChoicesUptoRow : OpenClaim := { program := "ythljgiimdcbfpaadoor", sum := "77b951dcc4de6216313e658f523bb7ca65871df008cf5468d24c10042c2f9ff7", func := "platen/platenlaw17.LayoutChoices", spec := "layoutChoices", inPlace := ["internal/bytealg.IndexByteString", "internal/bytealg.IndexString", "internal/abi.NoEscape", "internal/bytealg.MakeNoZero"], unfollowed := true, recurses := true, named := ["unicode/utf8.first", "unicode/utf8.acceptRanges", "internal/bytealg.MaxLen"], apart := false, laid := [("unicode/utf8.acceptRanges", laid_unicode_utf8_acceptRanges), ("unicode/utf8.first", laid_unicode_utf8_first)], narrowed := true }
def LayoutChoicesUptoSaid : Prop := layoutChoicesUptoRow.holds Tryd.pinned (OpenSpec.upto layoutChoicesSpec)

/-- 'platenlaw17.LayoutConds', WHERE WHAT IT READS IS OF BULK AT MOST 1048576: true; the input reads as it did. -/
def layoutCondsUptoRow : OpenClaim := { program := "ythljgiimdcbfpaadoor", sum := "77b951dcc4de6216313e658f523bb7ca65871df008cf5468d24c10042c2f9ff7", func := "platen/platenlaw17.LayoutConds", spec := "layoutConds", inPlace := ["internal/bytealg.IndexByteString", "internal/bytealg.IndexString", "internal/abi.NoEscape", "internal/bytealg.MakeNoZero"], unfollowed := true, recurses := true, named := ["unicode/utf8.first", "unicode/utf8.acceptRanges", "internal/bytealg.MaxLen"], apart := false, laid := [("unicode/utf8.acceptRanges", laid_unicode_utf8_acceptRanges), ("unicode/utf8.first", laid_unicode_utf8_first)], narrowed := true }
def LayoutCondsUptoSaid : Prop := layoutCondsUptoRow.holds Tryd.pinned (OpenSpec.upto layoutCondsSpec)

/-- 'platenlaw17.LayoutGroups', WHERE WHAT IT READS IS OF BULK AT MOST 1048576: true; the input reads as it did. -/
def layoutGroupsUptoRow : OpenClaim := { program := "ythljgiimdcbfpaadoor", sum := "77b951dcc4de6216313e658f523bb7ca65871df008cf5468d24c10042c2f9ff7", func := "platen/platenlaw17.LayoutGroups", spec := "layoutGroups", inPlace := ["internal/bytealg.IndexByteString", "internal/bytealg.IndexString", "internal/abi.NoEscape", "internal/bytealg.MakeNoZero"], unfollowed := true, recurses := true, named := ["unicode/utf8.first", "unicode/utf8.acceptRanges", "internal/bytealg.MaxLen"], apart := false, laid := [("unicode/utf8.acceptRanges", laid_unicode_utf8_acceptRanges), ("unicode/utf8.first", laid_unicode_utf8_first)], narrowed := true }
def LayoutGroupsUptoSaid : Prop := layoutGroupsUptoRow.holds Tryd.pinned (OpenSpec.upto layoutGroupsSpec)

/-- 'platenlaw17.LayoutLiterals', WHERE WHAT IT READS IS OF BULK AT MOST 1048576: true; the input reads as it did. -/
def layoutLiteralsUptoRow : OpenClaim := { program := "ythljgiimdcbfpaadoor", sum := "77b951dcc4de6216313e658f523bb7ca65871df008cf5468d24c10042c2f9ff7", func := "platen/platenlaw17.LayoutLiterals", spec := "layoutLiterals", inPlace := ["internal/bytealg.IndexByteString", "internal/bytealg.IndexString", "internal/abi.NoEscape", "internal/bytealg.MakeNoZero"], unfollowed := true, recurses := true, named := ["unicode/utf8.first", "unicode/utf8.acceptRanges", "internal/bytealg.MaxLen"], apart := false, laid := [("unicode/utf8.acceptRanges", laid_unicode_utf8_acceptRanges), ("unicode/utf8.first", laid_unicode_utf8_first)], narrowed := true }
def LayoutLiteralsUptoSaid : Prop := layoutLiteralsUptoRow.holds Tryd.pinned (OpenSpec.upto layoutLiteralsSpec)

/-- 'platenlaw17.LayoutFlats', WHERE WHAT IT READS IS OF BULK AT MOST 1048576: true; the input reads as it did. -/
def layoutFlatsUptoRow : OpenClaim := { program := "ythljgiimdcbfpaadoor", sum := "77b951dcc4de6216313e658f523bb7ca65871df008cf5468d24c10042c2f9ff7", func := "platen/platenlaw17.LayoutFlats", spec := "layoutFlats", inPlace := ["internal/bytealg.IndexByteString", "internal/bytealg.IndexString", "internal/abi.NoEscape", "internal/bytealg.MakeNoZero"], unfollowed := true, recurses := true, named := ["unicode/utf8.first", "unicode/utf8.acceptRanges", "internal/bytealg.MaxLen"], loops := true, apart := false, laid := [("unicode/utf8.acceptRanges", laid_unicode_utf8_acceptRanges), ("unicode/utf8.first", laid_unicode_utf8_first)], narrowed := true }
def LayoutFlatsUptoSaid : Prop := layoutFlatsUptoRow.holds Tryd.pinned (OpenSpec.upto layoutFlatsSpec)

/-- 'platenlaw17.LayoutWidths', WHERE WHAT IT READS IS OF BULK AT MOST 1048576: true; the input reads as it did. -/
def layoutWidthsUptoRow : OpenClaim := { program := "ythljgiimdcbfpaadoor", sum := "77b951dcc4de6216313e658f523bb7ca65871df008cf5468d24c10042c2f9ff7", func := "platen/platenlaw17.LayoutWidths", spec := "layoutWidths", inPlace := ["internal/bytealg.IndexByteString", "internal/bytealg.IndexString", "internal/abi.NoEscape", "internal/bytealg.MakeNoZero"], unfollowed := true, recurses := true, named := ["unicode/utf8.first", "unicode/utf8.acceptRanges", "internal/bytealg.MaxLen"], loops := true, apart := false, laid := [("unicode/utf8.acceptRanges", laid_unicode_utf8_acceptRanges), ("unicode/utf8.first", laid_unicode_utf8_first)], narrowed := true }
def LayoutWidthsUptoSaid : Prop := layoutWidthsUptoRow.holds Tryd.pinned (OpenSpec.upto layoutWidthsSpec)

end Rows
end Go.Proofs.YthljgiimdcbfpaaDoor
