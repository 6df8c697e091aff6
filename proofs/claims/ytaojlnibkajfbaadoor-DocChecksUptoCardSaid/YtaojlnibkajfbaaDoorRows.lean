/-
  NARROWER THAN 'FOR EVERY INPUT', by the rows' own cells (each row's printed sentence says how): SpreadDocs: loops, laid · SpreadWays: laid · DocChecks: loops, laid · DocJoins: loops, laid · DocFlats: loops, laid · DocKinds: laid · DocFields: laid.
  DERIVED. THE GIVEN ROWS OF THIS SEAT. 7 by the template 'for every input the law returns true; each argument reads behind the call as it read before'; 0 by the template 'total and deterministic' (their statements: YtaojlnibkajfbaaDoorTotals.lean).
  GIVEN WITH THE SEED: the statements are not yours to turn. If you find one false, say at which input.
  Laid BY PROGRAM, IN A SANDBOX (cutbox-rows.mjs): the forced cells as the released guide's own fill.sh prints them over the translation 1a26383b52520b6c… (all of the seat's roots in one cut). By AI agents, Wed Nov 11 2026. No macro, syntax, notation, axiom, sorry.
-/
import Derived.Test.YtaojlnibkajfbaaDoorChecked
import GoSem.PinnedTables
import GoSem.Claim
import GoSem.ClaimJoined
import GoSem.ClaimMapViews
import Derived.JoinedTies
import Derived.KernelRfl
namespace Go.Proofs.YtaojlnibkajfbaaDoor
/- THE CELL 'sum', in the pinned program and in every row, IS THE sha256 OF THE DUMP (.gsa) THAT YtaojlnibkajfbaaDoorProg.lean LOADS. Nothing in Lean hashes anything: it is a label: what it is worth is what the hold of that sum in a sandbox is worth. -/
noncomputable def Tryd.pinned : Pinned := { name := "ytaojlnibkajfbaadoor", sum := "1a26383b52520b6c36a34d9874bae20f998da3b55c0c232360f4e1da234e2cf5", checked := Tryd.checked }
namespace Rows
def none {H : Type} : Left H := { results := [], args := [] }

/- WHAT THE LISTED PACKAGE-LEVEL VARIABLES READ AS WHEN THE CALL BEGINS. Each datum BY PROGRAM (the guide's laid-datum.mjs) off the statement by which the dump's own 'gosem.cut.vars' lays the variable. In a bare row this is a premise. The card (YtaojlnibkajfbaaDoorCards.lean) ties it to the program's text. -/
def laid_unicode_utf8_acceptRanges {H : Type} : DataW H := .agg [.agg [.lit (.int .u8 128), .lit (.int .u8 191)], .agg [.lit (.int .u8 160), .lit (.int .u8 191)], .agg [.lit (.int .u8 128), .lit (.int .u8 159)], .agg [.lit (.int .u8 144), .lit (.int .u8 191)], .agg [.lit (.int .u8 128), .lit (.int .u8 143)], .agg [.lit (.int .u8 0), .lit (.int .u8 0)], .agg [.lit (.int .u8 0), .lit (.int .u8 0)], .agg [.lit (.int .u8 0), .lit (.int .u8 0)], .agg [.lit (.int .u8 0), .lit (.int .u8 0)], .agg [.lit (.int .u8 0), .lit (.int .u8 0)], .agg [.lit (.int .u8 0), .lit (.int .u8 0)], .agg [.lit (.int .u8 0), .lit (.int .u8 0)], .agg [.lit (.int .u8 0), .lit (.int .u8 0)], .agg [.lit (.int .u8 0), .lit (.int .u8 0)], .agg [.lit (.int .u8 0), .lit (.int .u8 0)], .agg [.lit (.int .u8 0), .lit (.int .u8 0)]]
/-- One of Go's own tables, pinned by name: the form's constant. -/
def laid_unicode_utf8_first : DataW Unit := Go.Pinned.utf8First

/-- 'platenlaw16.SpreadDocs': WHATEVER THE INPUT: true; the input reads as it did. -/
def spreadDocsSpec : ChangeSpec := { name := "spreadDocs", fn := fun _ => fun
  | [d] => { results := [.lit (.bool true)], args := [d] }
  | _ => none }
def spreadDocsRow : OpenClaim := { program := "ytaojlnibkajfbaadoor", sum := "1a26383b52520b6c36a34d9874bae20f998da3b55c0c232360f4e1da234e2cf5", func := "platen/platenlaw16.SpreadDocs", spec := "spreadDocs", inPlace := ["internal/bytealg.IndexByteString", "internal/bytealg.IndexString"], unfollowed := true, recurses := true, named := ["unicode/utf8.first", "unicode/utf8.acceptRanges", "internal/bytealg.MaxLen"], loops := true, apart := false, laid := [("unicode/utf8.acceptRanges", laid_unicode_utf8_acceptRanges), ("unicode/utf8.first", laid_unicode_utf8_first)] }
def SpreadDocsSaid : Prop := spreadDocsRow.holds Tryd.pinned (OpenSpec.ofChange spreadDocsSpec)

/-- ITS FALSE NEIGHBOUR: 'it returns false'. Refute it at one input. -/
def spreadDocsWrong : ChangeSpec := { name := "spreadDocs", fn := fun _ => fun
  | [d] => { results := [.lit (.bool false)], args := [d] }
  | _ => none }
def SpreadDocsWrongFalsely : Prop := spreadDocsRow.holds Tryd.pinned (OpenSpec.ofChange spreadDocsWrong)

/-- 'platenlaw16.SpreadWays': WHATEVER THE INPUT: true; the input reads as it did. -/
def spreadWaysSpec : ChangeSpec := { name := "spreadWays", fn := fun _ => fun
  | [d1, d2] => { results := [.lit (.bool true)], args := [d1, d2] }
  | _ => none }
def spreadWaysRow : OpenClaim := { program := "ytaojlnibkajfbaadoor", sum := "1a26383b52520b6c36a34d9874bae20f998da3b55c0c232360f4e1da234e2cf5", func := "platen/platenlaw16.SpreadWays", spec := "spreadWays", inPlace := ["internal/bytealg.IndexByteString", "internal/bytealg.IndexString"], unfollowed := true, recurses := true, named := ["unicode/utf8.first", "unicode/utf8.acceptRanges", "internal/bytealg.MaxLen"], apart := false, laid := [("unicode/utf8.acceptRanges", laid_unicode_utf8_acceptRanges), ("unicode/utf8.first", laid_unicode_utf8_first)] }
def SpreadWaysSaid : Prop := spreadWaysRow.holds Tryd.pinned (OpenSpec.ofChange spreadWaysSpec)

/-- ITS FALSE NEIGHBOUR: 'it returns false'. Refute it at one input. -/
def spreadWaysWrong : ChangeSpec := { name := "spreadWays", fn := fun _ => fun
  | [d1, d2] => { results := [.lit (.bool false)], args := [d1, d2] }
  | _ => none }
def SpreadWaysWrongFalsely : Prop := spreadWaysRow.holds Tryd.pinned (OpenSpec.ofChange spreadWaysWrong)

/-- 'platenlaw15.DocChecks': WHATEVER THE INPUT: true; the input reads as it did. -/
def docChecksSpec : ChangeSpec := { name := "docChecks", fn := fun _ => fun
  | [d] => { results := [.lit (.bool true)], args := [d] }
  | _ => none }
def docChecksRow : OpenClaim := { program := "ytaojlnibkajfbaadoor", sum := "1a26383b52520b6c36a34d9874bae20f998da3b55c0c232360f4e1da234e2cf5", func := "platen/platenlaw15.DocChecks", spec := "docChecks", inPlace := ["internal/bytealg.IndexByteString", "internal/bytealg.IndexString", "internal/abi.NoEscape"], unfollowed := true, recurses := true, named := ["unicode/utf8.first", "unicode/utf8.acceptRanges", "internal/bytealg.MaxLen"], loops := true, apart := false, laid := [("unicode/utf8.acceptRanges", laid_unicode_utf8_acceptRanges), ("unicode/utf8.first", laid_unicode_utf8_first)] }
def DocChecksSaid : Prop := docChecksRow.holds Tryd.pinned (OpenSpec.ofChange docChecksSpec)

/-- ITS FALSE NEIGHBOUR: 'it returns false'. Refute it at one input. -/
def docChecksWrong : ChangeSpec := { name := "docChecks", fn := fun _ => fun
  | [d] => { results := [.lit (.bool false)], args := [d] }
  | _ => none }
def DocChecksWrongFalsely : Prop := docChecksRow.holds Tryd.pinned (OpenSpec.ofChange docChecksWrong)

/-- 'platenlaw15.DocJoins': WHATEVER THE INPUT: true; the input reads as it did. -/
def docJoinsSpec : ChangeSpec := { name := "docJoins", fn := fun _ => fun
  | [d1, d2] => { results := [.lit (.bool true)], args := [d1, d2] }
  | _ => none }
def docJoinsRow : OpenClaim := { program := "ytaojlnibkajfbaadoor", sum := "1a26383b52520b6c36a34d9874bae20f998da3b55c0c232360f4e1da234e2cf5", func := "platen/platenlaw15.DocJoins", spec := "docJoins", inPlace := ["internal/bytealg.IndexByteString", "internal/bytealg.IndexString", "internal/abi.NoEscape"], unfollowed := true, recurses := true, named := ["unicode/utf8.first", "unicode/utf8.acceptRanges", "internal/bytealg.MaxLen"], loops := true, apart := false, laid := [("unicode/utf8.acceptRanges", laid_unicode_utf8_acceptRanges), ("unicode/utf8.first", laid_unicode_utf8_first)] }
def DocJoinsSaid : Prop := docJoinsRow.holds Tryd.pinned (OpenSpec.ofChange docJoinsSpec)

/-- ITS FALSE NEIGHBOUR: 'it returns false'. Refute it at one input. -/
def docJoinsWrong : ChangeSpec := { name := "docJoins", fn := fun _ => fun
  | [d1, d2] => { results := [.lit (.bool false)], args := [d1, d2] }
  | _ => none }
def DocJoinsWrongFalsely : Prop := docJoinsRow.holds Tryd.pinned (OpenSpec.ofChange docJoinsWrong)

/-- 'platenlaw15.DocFlats': WHATEVER THE INPUT: true; the input reads as it did. -/
def docFlatsSpec : ChangeSpec := { name := "docFlats", fn := fun _ => fun
  | [d1, d2] => { results := [.lit (.bool true)], args := [d1, d2] }
  | _ => none }
def docFlatsRow : OpenClaim := { program := "ytaojlnibkajfbaadoor", sum := "1a26383b52520b6c36a34d9874bae20f998da3b55c0c232360f4e1da234e2cf5", func := "platen/platenlaw15.DocFlats", spec := "docFlats", inPlace := ["internal/bytealg.IndexByteString", "internal/bytealg.IndexString", "internal/abi.NoEscape"], unfollowed := true, recurses := true, named := ["unicode/utf8.first", "unicode/utf8.acceptRanges", "internal/bytealg.MaxLen"], loops := true, apart := false, laid := [("unicode/utf8.acceptRanges", laid_unicode_utf8_acceptRanges), ("unicode/utf8.first", laid_unicode_utf8_first)] }
def DocFlatsSaid : Prop := docFlatsRow.holds Tryd.pinned (OpenSpec.ofChange docFlatsSpec)

/-- ITS FALSE NEIGHBOUR: 'it returns false'. Refute it at one input. -/
def docFlatsWrong : ChangeSpec := { name := "docFlats", fn := fun _ => fun
  | [d1, d2] => { results := [.lit (.bool false)], args := [d1, d2] }
  | _ => none }
def DocFlatsWrongFalsely : Prop := docFlatsRow.holds Tryd.pinned (OpenSpec.ofChange docFlatsWrong)

/-- 'platenlaw15.DocKinds': WHATEVER THE INPUT: true; the input reads as it did. -/
def docKindsSpec : ChangeSpec := { name := "docKinds", fn := fun _ => fun
  | [d1, d2] => { results := [.lit (.bool true)], args := [d1, d2] }
  | _ => none }
def docKindsRow : OpenClaim := { program := "ytaojlnibkajfbaadoor", sum := "1a26383b52520b6c36a34d9874bae20f998da3b55c0c232360f4e1da234e2cf5", func := "platen/platenlaw15.DocKinds", spec := "docKinds", inPlace := ["internal/bytealg.IndexByteString", "internal/bytealg.IndexString", "internal/abi.NoEscape"], unfollowed := true, recurses := true, named := ["unicode/utf8.first", "unicode/utf8.acceptRanges", "internal/bytealg.MaxLen"], apart := false, laid := [("unicode/utf8.acceptRanges", laid_unicode_utf8_acceptRanges), ("unicode/utf8.first", laid_unicode_utf8_first)] }
def DocKindsSaid : Prop := docKindsRow.holds Tryd.pinned (OpenSpec.ofChange docKindsSpec)

/-- ITS FALSE NEIGHBOUR: 'it returns false'. Refute it at one input. -/
def docKindsWrong : ChangeSpec := { name := "docKinds", fn := fun _ => fun
  | [d1, d2] => { results := [.lit (.bool false)], args := [d1, d2] }
  | _ => none }
def DocKindsWrongFalsely : Prop := docKindsRow.holds Tryd.pinned (OpenSpec.ofChange docKindsWrong)

/-- 'platenlaw15.DocFields': WHATEVER THE INPUT: true; the input reads as it did. -/
def docFieldsSpec : ChangeSpec := { name := "docFields", fn := fun _ => fun
  | [d1, d2] => { results := [.lit (.bool true)], args := [d1, d2] }
  | _ => none }
def docFieldsRow : OpenClaim := { program := "ytaojlnibkajfbaadoor", sum := "1a26383b52520b6c36a34d9874bae20f998da3b55c0c232360f4e1da234e2cf5", func := "platen/platenlaw15.DocFields", spec := "docFields", inPlace := ["internal/bytealg.IndexByteString", "internal/bytealg.IndexString", "internal/abi.NoEscape"], unfollowed := true, recurses := true, named := ["unicode/utf8.first", "unicode/utf8.acceptRanges", "internal/bytealg.MaxLen"], apart := false, laid := [("unicode/utf8.acceptRanges", laid_unicode_utf8_acceptRanges), ("unicode/utf8.first", laid_unicode_utf8_first)] }
def DocFieldsSaid : Prop := docFieldsRow.holds Tryd.pinned (OpenSpec.ofChange docFieldsSpec)

/-- ITS FALSE NEIGHBOUR: 'it returns false'. Refute it at one input. -/
def docFieldsWrong : ChangeSpec := { name := "docFields", fn := fun _ => fun
  | [d1, d2] => { results := [.lit (.bool false)], args := [d1, d2] }
  | _ => none }
def DocFieldsWrongFalsely : Prop := docFieldsRow.holds Tryd.pinned (OpenSpec.ofChange docFieldsWrong)

/- THE SECOND FORM. 'bulk': how many values and letters a reading holds, each counted each time it is reached (what is shared counts as often as it is met; a slice's spare places count too). A statement '..UptoSaid' is the law's where the arguments, and the package variables that the reading takes, are together of bulk at most 1048576: NARROWER than '..Said'. Prove '..Said' where nothing that the law and all that it calls make is longer than what came in: it says more and counts as full. Else prove '..UptoSaid'. A law counts once. -/
mutual
def uptoBulk {H : Type} : DataW H → Nat
  | .lit (.string bytes) => bytes.length + 1
  | .lit _ => 1
  | .nil => 1
  | .ptr d => uptoBulk d + 1
  | .slice elems spare => uptoBulkAll elems + uptoBulkAll spare + 1
  | .agg parts => uptoBulkAll parts + 1
  | .iface _ d => uptoBulk d + 1
  | .map entries => uptoBulkEntries entries + 1
  | .held _ => 1
def uptoBulkAll {H : Type} : List (DataW H) → Nat
  | [] => 0
  | d :: r => uptoBulk d + uptoBulkAll r
def uptoBulkEntries {H : Type} : List (Lit × DataW H) → Nat
  | [] => 0
  | x :: r => uptoBulkEntry x + uptoBulkEntries r
def uptoBulkEntry {H : Type} : Lit × DataW H → Nat
  | (.string bytes, d) => bytes.length + uptoBulk d + 1
  | (_, d) => uptoBulk d + 1
 end
def uptoSmall : (H : Type) → List (DataW H) → Bool := fun _ ds => decide (uptoBulkAll ds ≤ 1048576)
def OpenSpec.upto (s : _root_.Go.ChangeSpec) : _root_.Go.OpenSpec := { _root_.Go.OpenSpec.ofChange s with cond := some uptoSmall }

/-- 'platenlaw16.SpreadDocs', WHERE WHAT IT READS IS OF BULK AT MOST 1048576: true; the input reads as it did. -/
def spreadDocsUptoRow : OpenClaim := { program := "ytaojlnibkajfbaadoor", sum := "1a26383b52520b6c36a34d9874bae20f998da3b55c0c232360f4e1da234e2cf5", func := "platen/platenlaw16.SpreadDocs", spec := "spreadDocs", inPlace := ["internal/bytealg.IndexByteString", "internal/bytealg.IndexString"], unfollowed := true, recurses := true, named := ["unicode/utf8.first", "unicode/utf8.acceptRanges", "internal/bytealg.MaxLen"], loops := true, apart := false, laid := [("unicode/utf8.acceptRanges", laid_unicode_utf8_acceptRanges), ("unicode/utf8.first", laid_unicode_utf8_first)], narrowed := true }
def SpreadDocsUptoSaid : Prop := spreadDocsUptoRow.holds Tryd.pinned (OpenSpec.upto spreadDocsSpec)

/-- 'platenlaw16.SpreadWays', WHERE WHAT IT READS IS OF BULK AT MOST 1048576: true; the input reads as it did. -/
def spreadWaysUptoRow : OpenClaim := { program := "ytaojlnibkajfbaadoor", sum := "1a26383b52520b6c36a34d9874bae20f998da3b55c0c232360f4e1da234e2cf5", func := "platen/platenlaw16.SpreadWays", spec := "spreadWays", inPlace := ["internal/bytealg.IndexByteString", "internal/bytealg.IndexString"], unfollowed := true, recurses := true, named := ["unicode/utf8.first", "unicode/utf8.acceptRanges", "internal/bytealg.MaxLen"], apart := false, laid := [("unicode/utf8.acceptRanges", laid_unicode_utf8_acceptRanges), ("unicode/utf8.first", laid_unicode_utf8_first)], narrowed := true }
def SpreadWaysUptoSaid : Prop := spreadWaysUptoRow.holds Tryd.pinned (OpenSpec.upto spreadWaysSpec)

/-- 'platenlaw15.DocChecks', WHERE WHAT IT READS IS OF BULK AT MOST 1048576: true; the input reads as it did. -/
def docChecksUptoRow : OpenClaim := { program := "ytaojlnibkajfbaadoor", sum := "1a26383b52520b6c36a34d9874bae20f998da3b55c0c232360f4e1da234e2cf5", func := "platen/platenlaw15.DocChecks", spec := "docChecks", inPlace := ["internal/bytealg.IndexByteString", "internal/bytealg.IndexString", "internal/abi.NoEscape"], unfollowed := true, recurses := true, named := ["unicode/utf8.first", "unicode/utf8.acceptRanges", "internal/bytealg.MaxLen"], loops := true, apart := false, laid := [("unicode/utf8.acceptRanges", laid_unicode_utf8_acceptRanges), ("unicode/utf8.first", laid_unicode_utf8_first)], narrowed := true }
def DocChecksUptoSaid : Prop := docChecksUptoRow.holds Tryd.pinned (OpenSpec.upto docChecksSpec)

/-- 'platenlaw15.DocJoins', WHERE WHAT IT READS IS OF BULK AT MOST 1048576: true; the input reads as it did. -/
def docJoinsUptoRow : OpenClaim := { program := "ytaojlnibkajfbaadoor", sum := "1a26383b52520b6c36a34d9874bae20f998da3b55c0c232360f4e1da234e2cf5", func := "platen/platenlaw15.DocJoins", spec := "docJoins", inPlace := ["internal/bytealg.IndexByteString", "internal/bytealg.IndexString", "internal/abi.NoEscape"], unfollowed := true, recurses := true, named := ["unicode/utf8.first", "unicode/utf8.acceptRanges", "internal/bytealg.MaxLen"], loops := true, apart := false, laid := [("unicode/utf8.acceptRanges", laid_unicode_utf8_acceptRanges), ("unicode/utf8.first", laid_unicode_utf8_first)], narrowed := true }
def DocJoinsUptoSaid : Prop := docJoinsUptoRow.holds Tryd.pinned (OpenSpec.upto docJoinsSpec)

/-- 'platenlaw15.DocFlats', WHERE WHAT IT READS IS OF BULK AT MOST 1048576: true; the input reads as it did. -/
def docFlatsUptoRow : OpenClaim := { program := "ytaojlnibkajfbaadoor", sum := "1a26383b52520b6c36a34d9874bae20f998da3b55c0c232360f4e1da234e2cf5", func := "platen/platenlaw15.DocFlats", spec := "docFlats", inPlace := ["internal/bytealg.IndexByteString", "internal/bytealg.IndexString", "internal/abi.NoEscape"], unfollowed := true, recurses := true, named := ["unicode/utf8.first", "unicode/utf8.acceptRanges", "internal/bytealg.MaxLen"], loops := true, apart := false, laid := [("unicode/utf8.acceptRanges", laid_unicode_utf8_acceptRanges), ("unicode/utf8.first", laid_unicode_utf8_first)], narrowed := true }
def DocFlatsUptoSaid : Prop := docFlatsUptoRow.holds Tryd.pinned (OpenSpec.upto docFlatsSpec)

/-- 'platenlaw15.DocKinds', WHERE WHAT IT READS IS OF BULK AT MOST 1048576: true; the input reads as it did. -/
def docKindsUptoRow : OpenClaim := { program := "ytaojlnibkajfbaadoor", sum := "1a26383b52520b6c36a34d9874bae20f998da3b55c0c232360f4e1da234e2cf5", func := "platen/platenlaw15.DocKinds", spec := "docKinds", inPlace := ["internal/bytealg.IndexByteString", "internal/bytealg.IndexString", "internal/abi.NoEscape"], unfollowed := true, recurses := true, named := ["unicode/utf8.first", "unicode/utf8.acceptRanges", "internal/bytealg.MaxLen"], apart := false, laid := [("unicode/utf8.acceptRanges", laid_unicode_utf8_acceptRanges), ("unicode/utf8.first", laid_unicode_utf8_first)], narrowed := true }
def DocKindsUptoSaid : Prop := docKindsUptoRow.holds Tryd.pinned (OpenSpec.upto docKindsSpec)

/-- 'platenlaw15.DocFields', WHERE WHAT IT READS IS OF BULK AT MOST 1048576: true; the input reads as it did. -/
def docFieldsUptoRow : OpenClaim := { program := "ytaojlnibkajfbaadoor", sum := "1a26383b52520b6c36a34d9874bae20f998da3b55c0c232360f4e1da234e2cf5", func := "platen/platenlaw15.DocFields", spec := "docFields", inPlace := ["internal/bytealg.IndexByteString", "internal/bytealg.IndexString", "internal/abi.NoEscape"], unfollowed := true, recurses := true, named := ["unicode/utf8.first", "unicode/utf8.acceptRanges", "internal/bytealg.MaxLen"], apart := false, laid := [("unicode/utf8.acceptRanges", laid_unicode_utf8_acceptRanges), ("unicode/utf8.first", laid_unicode_utf8_first)], narrowed := true }
def DocFieldsUptoSaid : Prop := docFieldsUptoRow.holds Tryd.pinned (OpenSpec.upto docFieldsSpec)

end Rows
end Go.Proofs.YtaojlnibkajfbaaDoor
