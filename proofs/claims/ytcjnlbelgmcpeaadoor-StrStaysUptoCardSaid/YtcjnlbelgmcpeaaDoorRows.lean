/-
  NARROWER THAN 'FOR EVERY INPUT', by the rows' own cells (each row's printed sentence says how): StrForms: laid · StrUnits: laid · StrQuotes: laid · StrStays: laid · StrJoins: laid · StrEscapes: laid · StrChosen: laid.
  DERIVED. THE GIVEN ROWS OF THIS SEAT. 7 by the template 'for every input the law returns true; each argument reads behind the call as it read before'; 0 by the template 'total and deterministic' (their statements: YtcjnlbelgmcpeaaDoorTotals.lean).
  GIVEN WITH THE SEED: the statements are not yours to turn. If you find one false, say at which input.
  Laid BY PROGRAM, IN A SANDBOX (cutbox-rows.mjs): the forced cells as the released guide's own fill.sh prints them over the translation 2bbf62807e9c627b… (all of the seat's roots in one cut). By AI agents, Wed Nov 11 2026. No macro, syntax, notation, axiom, sorry.
-/
import Derived.Test.YtcjnlbelgmcpeaaDoorChecked
import GoSem.PinnedTables
import GoSem.Claim
import GoSem.ClaimJoined
import GoSem.ClaimMapViews
import Derived.JoinedTies
import Derived.KernelRfl
namespace Go.Proofs.YtcjnlbelgmcpeaaDoor
/- THE CELL 'sum', in the pinned program and in every row, IS THE sha256 OF THE DUMP (.gsa) THAT YtcjnlbelgmcpeaaDoorProg.lean LOADS. Nothing in Lean hashes anything: it is a label: what it is worth is what the hold of that sum in a sandbox is worth. -/
noncomputable def Tryd.pinned : Pinned := { name := "ytcjnlbelgmcpeaadoor", sum := "2bbf62807e9c627bb3a036b7c5f12e2afa6d358eae3726862ee26f701bd196f8", checked := Tryd.checked }
namespace Rows
def none {H : Type} : Left H := { results := [], args := [] }

/- WHAT THE LISTED PACKAGE-LEVEL VARIABLES READ AS WHEN THE CALL BEGINS. Each datum BY PROGRAM (the guide's laid-datum.mjs) off the statement by which the dump's own 'gosem.cut.vars' lays the variable. In a bare row this is a premise. The card (YtcjnlbelgmcpeaaDoorCards.lean) ties it to the program's text. -/
def laid_unicode_utf8_acceptRanges {H : Type} : DataW H := .agg [.agg [.lit (.int .u8 128), .lit (.int .u8 191)], .agg [.lit (.int .u8 160), .lit (.int .u8 191)], .agg [.lit (.int .u8 128), .lit (.int .u8 159)], .agg [.lit (.int .u8 144), .lit (.int .u8 191)], .agg [.lit (.int .u8 128), .lit (.int .u8 143)], .agg [.lit (.int .u8 0), .lit (.int .u8 0)], .agg [.lit (.int .u8 0), .lit (.int .u8 0)], .agg [.lit (.int .u8 0), .lit (.int .u8 0)], .agg [.lit (.int .u8 0), .lit (.int .u8 0)], .agg [.lit (.int .u8 0), .lit (.int .u8 0)], .agg [.lit (.int .u8 0), .lit (.int .u8 0)], .agg [.lit (.int .u8 0), .lit (.int .u8 0)], .agg [.lit (.int .u8 0), .lit (.int .u8 0)], .agg [.lit (.int .u8 0), .lit (.int .u8 0)], .agg [.lit (.int .u8 0), .lit (.int .u8 0)], .agg [.lit (.int .u8 0), .lit (.int .u8 0)]]
/-- One of Go's own tables, pinned by name: the form's constant. -/
def laid_unicode_utf8_first : DataW Unit := Go.Pinned.utf8First

/-- 'platenlaw3.StrForms': WHATEVER THE INPUT: true; the input reads as it did. -/
def strFormsSpec : ChangeSpec := { name := "strForms", fn := fun _ => fun
  | [d] => { results := [.lit (.bool true)], args := [d] }
  | _ => none }
def strFormsRow : OpenClaim := { program := "ytcjnlbelgmcpeaadoor", sum := "2bbf62807e9c627bb3a036b7c5f12e2afa6d358eae3726862ee26f701bd196f8", func := "platen/platenlaw3.StrForms", spec := "strForms", inPlace := ["internal/bytealg.IndexByteString", "internal/bytealg.IndexString"], unfollowed := true, recurses := true, named := ["unicode/utf8.first", "unicode/utf8.acceptRanges", "internal/bytealg.MaxLen"], apart := false, laid := [("unicode/utf8.acceptRanges", laid_unicode_utf8_acceptRanges), ("unicode/utf8.first", laid_unicode_utf8_first)] }
def StrFormsSaid : Prop := strFormsRow.holds Tryd.pinned (OpenSpec.ofChange strFormsSpec)

/-- ITS FALSE NEIGHBOUR: 'it returns false'. Refute it at one input. -/
def strFormsWrong : ChangeSpec := { name := "strForms", fn := fun _ => fun
  | [d] => { results := [.lit (.bool false)], args := [d] }
  | _ => none }
def StrFormsWrongFalsely : Prop := strFormsRow.holds Tryd.pinned (OpenSpec.ofChange strFormsWrong)

/-- 'platenlaw3.StrUnits': WHATEVER THE INPUT: true; the input reads as it did. -/
def strUnitsSpec : ChangeSpec := { name := "strUnits", fn := fun _ => fun
  | [d] => { results := [.lit (.bool true)], args := [d] }
  | _ => none }
def strUnitsRow : OpenClaim := { program := "ytcjnlbelgmcpeaadoor", sum := "2bbf62807e9c627bb3a036b7c5f12e2afa6d358eae3726862ee26f701bd196f8", func := "platen/platenlaw3.StrUnits", spec := "strUnits", inPlace := ["internal/bytealg.IndexByteString", "internal/bytealg.IndexString"], unfollowed := true, recurses := true, named := ["unicode/utf8.first", "unicode/utf8.acceptRanges", "internal/bytealg.MaxLen"], apart := false, laid := [("unicode/utf8.acceptRanges", laid_unicode_utf8_acceptRanges), ("unicode/utf8.first", laid_unicode_utf8_first)] }
def StrUnitsSaid : Prop := strUnitsRow.holds Tryd.pinned (OpenSpec.ofChange strUnitsSpec)

/-- ITS FALSE NEIGHBOUR: 'it returns false'. Refute it at one input. -/
def strUnitsWrong : ChangeSpec := { name := "strUnits", fn := fun _ => fun
  | [d] => { results := [.lit (.bool false)], args := [d] }
  | _ => none }
def StrUnitsWrongFalsely : Prop := strUnitsRow.holds Tryd.pinned (OpenSpec.ofChange strUnitsWrong)

/-- 'platenlaw3.StrQuotes': WHATEVER THE INPUT: true; the input reads as it did. -/
def strQuotesSpec : ChangeSpec := { name := "strQuotes", fn := fun _ => fun
  | [d1, d2] => { results := [.lit (.bool true)], args := [d1, d2] }
  | _ => none }
def strQuotesRow : OpenClaim := { program := "ytcjnlbelgmcpeaadoor", sum := "2bbf62807e9c627bb3a036b7c5f12e2afa6d358eae3726862ee26f701bd196f8", func := "platen/platenlaw3.StrQuotes", spec := "strQuotes", inPlace := ["internal/bytealg.IndexByteString", "internal/bytealg.IndexString"], unfollowed := true, recurses := true, named := ["unicode/utf8.first", "unicode/utf8.acceptRanges", "internal/bytealg.MaxLen"], apart := false, laid := [("unicode/utf8.acceptRanges", laid_unicode_utf8_acceptRanges), ("unicode/utf8.first", laid_unicode_utf8_first)] }
def StrQuotesSaid : Prop := strQuotesRow.holds Tryd.pinned (OpenSpec.ofChange strQuotesSpec)

/-- ITS FALSE NEIGHBOUR: 'it returns false'. Refute it at one input. -/
def strQuotesWrong : ChangeSpec := { name := "strQuotes", fn := fun _ => fun
  | [d1, d2] => { results := [.lit (.bool false)], args := [d1, d2] }
  | _ => none }
def StrQuotesWrongFalsely : Prop := strQuotesRow.holds Tryd.pinned (OpenSpec.ofChange strQuotesWrong)

/-- 'platenlaw3.StrStays': WHATEVER THE INPUT: true; the input reads as it did. -/
def strStaysSpec : ChangeSpec := { name := "strStays", fn := fun _ => fun
  | [d1, d2] => { results := [.lit (.bool true)], args := [d1, d2] }
  | _ => none }
def strStaysRow : OpenClaim := { program := "ytcjnlbelgmcpeaadoor", sum := "2bbf62807e9c627bb3a036b7c5f12e2afa6d358eae3726862ee26f701bd196f8", func := "platen/platenlaw3.StrStays", spec := "strStays", inPlace := ["internal/bytealg.IndexByteString", "internal/bytealg.IndexString"], unfollowed := true, recurses := true, named := ["unicode/utf8.first", "unicode/utf8.acceptRanges", "internal/bytealg.MaxLen"], apart := false, laid := [("unicode/utf8.acceptRanges", laid_unicode_utf8_acceptRanges), ("unicode/utf8.first", laid_unicode_utf8_first)] }
def StrStaysSaid : Prop := strStaysRow.holds Tryd.pinned (OpenSpec.ofChange strStaysSpec)

/-- ITS FALSE NEIGHBOUR: 'it returns false'. Refute it at one input. -/
def strStaysWrong : ChangeSpec := { name := "strStays", fn := fun _ => fun
  | [d1, d2] => { results := [.lit (.bool false)], args := [d1, d2] }
  | _ => none }
def StrStaysWrongFalsely : Prop := strStaysRow.holds Tryd.pinned (OpenSpec.ofChange strStaysWrong)

/-- 'platenlaw3.StrJoins': WHATEVER THE INPUT: true; the input reads as it did. -/
def strJoinsSpec : ChangeSpec := { name := "strJoins", fn := fun _ => fun
  | [d1, d2] => { results := [.lit (.bool true)], args := [d1, d2] }
  | _ => none }
def strJoinsRow : OpenClaim := { program := "ytcjnlbelgmcpeaadoor", sum := "2bbf62807e9c627bb3a036b7c5f12e2afa6d358eae3726862ee26f701bd196f8", func := "platen/platenlaw3.StrJoins", spec := "strJoins", inPlace := ["internal/bytealg.IndexByteString", "internal/bytealg.IndexString"], unfollowed := true, recurses := true, named := ["unicode/utf8.first", "unicode/utf8.acceptRanges", "internal/bytealg.MaxLen"], apart := false, laid := [("unicode/utf8.acceptRanges", laid_unicode_utf8_acceptRanges), ("unicode/utf8.first", laid_unicode_utf8_first)] }
def StrJoinsSaid : Prop := strJoinsRow.holds Tryd.pinned (OpenSpec.ofChange strJoinsSpec)

/-- ITS FALSE NEIGHBOUR: 'it returns false'. Refute it at one input. -/
def strJoinsWrong : ChangeSpec := { name := "strJoins", fn := fun _ => fun
  | [d1, d2] => { results := [.lit (.bool false)], args := [d1, d2] }
  | _ => none }
def StrJoinsWrongFalsely : Prop := strJoinsRow.holds Tryd.pinned (OpenSpec.ofChange strJoinsWrong)

/-- 'platenlaw3.StrEscapes': WHATEVER THE INPUT: true; the input reads as it did. -/
def strEscapesSpec : ChangeSpec := { name := "strEscapes", fn := fun _ => fun
  | [d1, d2] => { results := [.lit (.bool true)], args := [d1, d2] }
  | _ => none }
def strEscapesRow : OpenClaim := { program := "ytcjnlbelgmcpeaadoor", sum := "2bbf62807e9c627bb3a036b7c5f12e2afa6d358eae3726862ee26f701bd196f8", func := "platen/platenlaw3.StrEscapes", spec := "strEscapes", inPlace := ["internal/bytealg.IndexByteString", "internal/bytealg.IndexString"], unfollowed := true, recurses := true, named := ["unicode/utf8.first", "unicode/utf8.acceptRanges", "internal/bytealg.MaxLen"], apart := false, laid := [("unicode/utf8.acceptRanges", laid_unicode_utf8_acceptRanges), ("unicode/utf8.first", laid_unicode_utf8_first)] }
def StrEscapesSaid : Prop := strEscapesRow.holds Tryd.pinned (OpenSpec.ofChange strEscapesSpec)

/-- ITS FALSE NEIGHBOUR: 'it returns false'. Refute it at one input. -/
def strEscapesWrong : ChangeSpec := { name := "strEscapes", fn := fun _ => fun
  | [d1, d2] => { results := [.lit (.bool false)], args := [d1, d2] }
  | _ => none }
def StrEscapesWrongFalsely : Prop := strEscapesRow.holds Tryd.pinned (OpenSpec.ofChange strEscapesWrong)

/-- 'platenlaw3.StrChosen': WHATEVER THE INPUT: true; the input reads as it did. -/
def strChosenSpec : ChangeSpec := { name := "strChosen", fn := fun _ => fun
  | [d1, d2, d3] => { results := [.lit (.bool true)], args := [d1, d2, d3] }
  | _ => none }
def strChosenRow : OpenClaim := { program := "ytcjnlbelgmcpeaadoor", sum := "2bbf62807e9c627bb3a036b7c5f12e2afa6d358eae3726862ee26f701bd196f8", func := "platen/platenlaw3.StrChosen", spec := "strChosen", inPlace := ["internal/bytealg.IndexByteString", "internal/bytealg.IndexString"], unfollowed := true, recurses := true, named := ["unicode/utf8.first", "unicode/utf8.acceptRanges", "internal/bytealg.MaxLen"], apart := false, laid := [("unicode/utf8.acceptRanges", laid_unicode_utf8_acceptRanges), ("unicode/utf8.first", laid_unicode_utf8_first)] }
def StrChosenSaid : Prop := strChosenRow.holds Tryd.pinned (OpenSpec.ofChange strChosenSpec)

/-- ITS FALSE NEIGHBOUR: 'it returns false'. Refute it at one input. -/
def strChosenWrong : ChangeSpec := { name := "strChosen", fn := fun _ => fun
  | [d1, d2, d3] => { results := [.lit (.bool false)], args := [d1, d2, d3] }
  | _ => none }
def StrChosenWrongFalsely : Prop := strChosenRow.holds Tryd.pinned (OpenSpec.ofChange strChosenWrong)

/- THE SECOND FORM. 'bulk': how many values and letters a reading holds, each counted each time it is reached (what is shared counts as often as it is met; a slice's spare places count too). A statement '..UptoSaid' is the law's where the arguments, and the package variables that the reading takes, are together of bulk at most 1048576: NARROWER than '..Said'. Prove '..Said' where nothing that the law and all that it calls make is longer than what came in: it says more and counts as full. Else prove '..UptoSaid'. A law counts once. -/
mutual
def uptoBulk {H : Type} : DataW H → Nat
  | .lit (.string bytes) => bytes.length + 1
  | .lit _ => 1
  | .nil => 1
  | .ptr d => uptoBulk d + 1
  | .slice elems spare => uptoBulkAll elems + uptoBulkAll spare + 1
  | .agg parts => uptoBulkAll parts + 1
  | .iface _ d => uptoBulk d + 1
  | .map entries => uptoBulkEntries entries + 1
  | .held _ => 1
def uptoBulkAll {H : Type} : List (DataW H) → Nat
  | [] => 0
  | d :: r => uptoBulk d + uptoBulkAll r
def uptoBulkEntries {H : Type} : List (Lit × DataW H) → Nat
  | [] => 0
  | x :: r => uptoBulkEntry x + uptoBulkEntries r
def uptoBulkEntry {H : Type} : Lit × DataW H → Nat
  | (.string bytes, d) => bytes.length + uptoBulk d + 1
  | (_, d) => uptoBulk d + 1
 end
def uptoSmall : (H : Type) → List (DataW H) → Bool := fun _ ds => decide (uptoBulkAll ds ≤ 1048576)
def OpenSpec.upto (s : _root_.Go.ChangeSpec) : _root_.Go.OpenSpec := { _root_.Go.OpenSpec.ofChange s with cond := some uptoSmall }

/-- 'platenlaw3.StrForms', WHERE WHAT IT READS IS OF BULK AT MOST 1048576: true; the input reads as it did. -/
def strFormsUptoRow : OpenClaim := { program := "ytcjnlbelgmcpeaadoor", sum := "2bbf62807e9c627bb3a036b7c5f12e2afa6d358eae3726862ee26f701bd196f8", func := "platen/platenlaw3.StrForms", spec := "strForms", inPlace := ["internal/bytealg.IndexByteString", "internal/bytealg.IndexString"], unfollowed := true, recurses := true, named := ["unicode/utf8.first", "unicode/utf8.acceptRanges", "internal/bytealg.MaxLen"], apart := false, laid := [("unicode/utf8.acceptRanges", laid_unicode_utf8_acceptRanges), ("unicode/utf8.first", laid_unicode_utf8_first)], narrowed := true }
def StrFormsUptoSaid : Prop := strFormsUptoRow.holds Tryd.pinned (OpenSpec.upto strFormsSpec)

/-- 'platenlaw3.StrUnits', WHERE WHAT IT READS IS OF BULK AT MOST 1048576: true; the input reads as it did. -/
def strUnitsUptoRow : OpenClaim := { program := "ytcjnlbelgmcpeaadoor", sum := "2bbf62807e9c627bb3a036b7c5f12e2afa6d358eae3726862ee26f701bd196f8", func := "platen/platenlaw3.StrUnits", spec := "strUnits", inPlace := ["internal/bytealg.IndexByteString", "internal/bytealg.IndexString"], unfollowed := true, recurses := true, named := ["unicode/utf8.first", "unicode/utf8.acceptRanges", "internal/bytealg.MaxLen"], apart := false, laid := [("unicode/utf8.acceptRanges", laid_unicode_utf8_acceptRanges), ("unicode/utf8.first", laid_unicode_utf8_first)], narrowed := true }
def StrUnitsUptoSaid : Prop := strUnitsUptoRow.holds Tryd.pinned (OpenSpec.upto strUnitsSpec)

/-- 'platenlaw3.StrQuotes', WHERE WHAT IT READS IS OF BULK AT MOST 1048576: true; the input reads as it did. -/
def strQuotesUptoRow : OpenClaim := { program := "ytcjnlbelgmcpeaadoor", sum := "2bbf62807e9c627bb3a036b7c5f12e2afa6d358eae3726862ee26f701bd196f8", func := "platen/platenlaw3.StrQuotes", spec := "strQuotes", inPlace := ["internal/bytealg.IndexByteString", "internal/bytealg.IndexString"], unfollowed := true, recurses := true, named := ["unicode/utf8.first", "unicode/utf8.acceptRanges", "internal/bytealg.MaxLen"], apart := false, laid := [("unicode/utf8.acceptRanges", laid_unicode_utf8_acceptRanges), ("unicode/utf8.first", laid_unicode_utf8_first)], narrowed := true }
def StrQuotesUptoSaid : Prop := strQuotesUptoRow.holds Tryd.pinned (OpenSpec.upto strQuotesSpec)

/-- 'platenlaw3.StrStays', WHERE WHAT IT READS IS OF BULK AT MOST 1048576: true; the input reads as it did. -/
def strStaysUptoRow : OpenClaim := { program := "ytcjnlbelgmcpeaadoor", sum := "2bbf62807e9c627bb3a036b7c5f12e2afa6d358eae3726862ee26f701bd196f8", func := "platen/platenlaw3.StrStays", spec := "strStays", inPlace := ["internal/bytealg.IndexByteString", "internal/bytealg.IndexString"], unfollowed := true, recurses := true, named := ["unicode/utf8.first", "unicode/utf8.acceptRanges", "internal/bytealg.MaxLen"], apart := false, laid := [("unicode/utf8.acceptRanges", laid_unicode_utf8_acceptRanges), ("unicode/utf8.first", laid_unicode_utf8_first)], narrowed := true }
def StrStaysUptoSaid : Prop := strStaysUptoRow.holds Tryd.pinned (OpenSpec.upto strStaysSpec)

/-- 'platenlaw3.StrJoins', WHERE WHAT IT READS IS OF BULK AT MOST 1048576: true; the input reads as it did. -/
def strJoinsUptoRow : OpenClaim := { program := "ytcjnlbelgmcpeaadoor", sum := "2bbf62807e9c627bb3a036b7c5f12e2afa6d358eae3726862ee26f701bd196f8", func := "platen/platenlaw3.StrJoins", spec := "strJoins", inPlace := ["internal/bytealg.IndexByteString", "internal/bytealg.IndexString"], unfollowed := true, recurses := true, named := ["unicode/utf8.first", "unicode/utf8.acceptRanges", "internal/bytealg.MaxLen"], apart := false, laid := [("unicode/utf8.acceptRanges", laid_unicode_utf8_acceptRanges), ("unicode/utf8.first", laid_unicode_utf8_first)], narrowed := true }
def StrJoinsUptoSaid : Prop := strJoinsUptoRow.holds Tryd.pinned (OpenSpec.upto strJoinsSpec)

/-- 'platenlaw3.StrEscapes', WHERE WHAT IT READS IS OF BULK AT MOST 1048576: true; the input reads as it did. -/
def strEscapesUptoRow : OpenClaim := { program := "ytcjnlbelgmcpeaadoor", sum := "2bbf62807e9c627bb3a036b7c5f12e2afa6d358eae3726862ee26f701bd196f8", func := "platen/platenlaw3.StrEscapes", spec := "strEscapes", inPlace := ["internal/bytealg.IndexByteString", "internal/bytealg.IndexString"], unfollowed := true, recurses := true, named := ["unicode/utf8.first", "unicode/utf8.acceptRanges", "internal/bytealg.MaxLen"], apart := false, laid := [("unicode/utf8.acceptRanges", laid_unicode_utf8_acceptRanges), ("unicode/utf8.first", laid_unicode_utf8_first)], narrowed := true }
def StrEscapesUptoSaid : Prop := strEscapesUptoRow.holds Tryd.pinned (OpenSpec.upto strEscapesSpec)

/-- 'platenlaw3.StrChosen', WHERE WHAT IT READS IS OF BULK AT MOST 1048576: true; the input reads as it did. -/
def strChosenUptoRow : OpenClaim := { program := "ytcjnlbelgmcpeaadoor", sum := "2bbf62807e9c627bb3a036b7c5f12e2afa6d358eae3726862ee26f701bd196f8", func := "platen/platenlaw3.StrChosen", spec := "strChosen", inPlace := ["internal/bytealg.IndexByteString", "internal/bytealg.IndexString"], unfollowed := true, recurses := true, named := ["unicode/utf8.first", "unicode/utf8.acceptRanges", "internal/bytealg.MaxLen"], apart := false, laid := [("unicode/utf8.acceptRanges", laid_unicode_utf8_acceptRanges), ("unicode/utf8.first", laid_unicode_utf8_first)], narrowed := true }
def StrChosenUptoSaid : Prop := strChosenUptoRow.holds Tryd.pinned (OpenSpec.upto strChosenSpec)

end Rows
end Go.Proofs.YtcjnlbelgmcpeaaDoor
