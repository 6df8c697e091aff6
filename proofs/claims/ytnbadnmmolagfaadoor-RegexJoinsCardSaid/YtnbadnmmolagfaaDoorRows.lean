/-
  NARROWER THAN 'FOR EVERY INPUT', by the rows' own cells (each row's printed sentence says how): RegexJoins: laid · RegexGroups: laid · RegexRanges: laid · RegexNames: laid · RegexTimes: laid · RegexFlags: laid.
  DERIVED. THE GIVEN ROWS OF THIS SEAT. 6 by the template 'for every input the law returns true; each argument reads behind the call as it read before'; 0 by the template 'total and deterministic' (their statements: YtnbadnmmolagfaaDoorTotals.lean).
  GIVEN WITH THE SEED: the statements are not yours to turn. If you find one false, say at which input.
  Laid BY PROGRAM, IN A SANDBOX (cutbox-rows.mjs): the forced cells as the released guide's own fill.sh prints them over the translation 6c4ce4975a8885de… (all of the seat's roots in one cut). By AI agents, Wed Nov 11 2026. No macro, syntax, notation, axiom, sorry.
-/
import Derived.Test.YtnbadnmmolagfaaDoorChecked
import GoSem.PinnedTables
import GoSem.Claim
import GoSem.ClaimJoined
import GoSem.ClaimMapViews
import Derived.JoinedTies
import Derived.KernelRfl
namespace Go.Proofs.YtnbadnmmolagfaaDoor
/- THE CELL 'sum', in the pinned program and in every row, IS THE sha256 OF THE DUMP (.gsa) THAT YtnbadnmmolagfaaDoorProg.lean LOADS. Nothing in Lean hashes anything: it is a label: what it is worth is what the hold of that sum in a sandbox is worth. -/
noncomputable def Tryd.pinned : Pinned := { name := "ytnbadnmmolagfaadoor", sum := "6c4ce4975a8885de7f772c8b97bcc7134c8306d0f59bb8c89195a654d5b61594", checked := Tryd.checked }
namespace Rows
def none {H : Type} : Left H := { results := [], args := [] }

/- WHAT THE LISTED PACKAGE-LEVEL VARIABLES READ AS WHEN THE CALL BEGINS. Each datum BY PROGRAM (the guide's laid-datum.mjs) off the statement by which the dump's own 'gosem.cut.vars' lays the variable. In a bare row this is a premise. The card (YtnbadnmmolagfaaDoorCards.lean) ties it to the program's text. -/
def laid_unicode_utf8_acceptRanges {H : Type} : DataW H := .agg [.agg [.lit (.int .u8 128), .lit (.int .u8 191)], .agg [.lit (.int .u8 160), .lit (.int .u8 191)], .agg [.lit (.int .u8 128), .lit (.int .u8 159)], .agg [.lit (.int .u8 144), .lit (.int .u8 191)], .agg [.lit (.int .u8 128), .lit (.int .u8 143)], .agg [.lit (.int .u8 0), .lit (.int .u8 0)], .agg [.lit (.int .u8 0), .lit (.int .u8 0)], .agg [.lit (.int .u8 0), .lit (.int .u8 0)], .agg [.lit (.int .u8 0), .lit (.int .u8 0)], .agg [.lit (.int .u8 0), .lit (.int .u8 0)], .agg [.lit (.int .u8 0), .lit (.int .u8 0)], .agg [.lit (.int .u8 0), .lit (.int .u8 0)], .agg [.lit (.int .u8 0), .lit (.int .u8 0)], .agg [.lit (.int .u8 0), .lit (.int .u8 0)], .agg [.lit (.int .u8 0), .lit (.int .u8 0)], .agg [.lit (.int .u8 0), .lit (.int .u8 0)]]
/-- One of Go's own tables, pinned by name: the form's constant. -/
def laid_unicode_utf8_first : DataW Unit := Go.Pinned.utf8First

/-- 'platenlaw4.RegexJoins': WHATEVER THE INPUT: true; the input reads as it did. -/
def regexJoinsSpec : ChangeSpec := { name := "regexJoins", fn := fun _ => fun
  | [d1, d2, d3] => { results := [.lit (.bool true)], args := [d1, d2, d3] }
  | _ => none }
def regexJoinsRow : OpenClaim := { program := "ytnbadnmmolagfaadoor", sum := "6c4ce4975a8885de7f772c8b97bcc7134c8306d0f59bb8c89195a654d5b61594", func := "platen/platenlaw4.RegexJoins", spec := "regexJoins", inPlace := ["internal/bytealg.IndexByteString", "internal/bytealg.IndexString"], unfollowed := true, recurses := true, named := ["unicode/utf8.first", "unicode/utf8.acceptRanges", "internal/bytealg.MaxLen"], apart := false, laid := [("unicode/utf8.acceptRanges", laid_unicode_utf8_acceptRanges), ("unicode/utf8.first", laid_unicode_utf8_first)] }
def RegexJoinsSaid : Prop := regexJoinsRow.holds Tryd.pinned (OpenSpec.ofChange regexJoinsSpec)

/-- ITS FALSE NEIGHBOUR: 'it returns false'. Refute it at one input. -/
def regexJoinsWrong : ChangeSpec := { name := "regexJoins", fn := fun _ => fun
  | [d1, d2, d3] => { results := [.lit (.bool false)], args := [d1, d2, d3] }
  | _ => none }
def RegexJoinsWrongFalsely : Prop := regexJoinsRow.holds Tryd.pinned (OpenSpec.ofChange regexJoinsWrong)

/-- 'platenlaw4.RegexGroups': WHATEVER THE INPUT: true; the input reads as it did. -/
def regexGroupsSpec : ChangeSpec := { name := "regexGroups", fn := fun _ => fun
  | [d1, d2] => { results := [.lit (.bool true)], args := [d1, d2] }
  | _ => none }
def regexGroupsRow : OpenClaim := { program := "ytnbadnmmolagfaadoor", sum := "6c4ce4975a8885de7f772c8b97bcc7134c8306d0f59bb8c89195a654d5b61594", func := "platen/platenlaw4.RegexGroups", spec := "regexGroups", inPlace := ["internal/bytealg.IndexByteString", "internal/bytealg.IndexString"], unfollowed := true, recurses := true, named := ["unicode/utf8.first", "unicode/utf8.acceptRanges", "internal/bytealg.MaxLen"], apart := false, laid := [("unicode/utf8.acceptRanges", laid_unicode_utf8_acceptRanges), ("unicode/utf8.first", laid_unicode_utf8_first)] }
def RegexGroupsSaid : Prop := regexGroupsRow.holds Tryd.pinned (OpenSpec.ofChange regexGroupsSpec)

/-- ITS FALSE NEIGHBOUR: 'it returns false'. Refute it at one input. -/
def regexGroupsWrong : ChangeSpec := { name := "regexGroups", fn := fun _ => fun
  | [d1, d2] => { results := [.lit (.bool false)], args := [d1, d2] }
  | _ => none }
def RegexGroupsWrongFalsely : Prop := regexGroupsRow.holds Tryd.pinned (OpenSpec.ofChange regexGroupsWrong)

/-- 'platenlaw4.RegexRanges': WHATEVER THE INPUT: true; the input reads as it did. -/
def regexRangesSpec : ChangeSpec := { name := "regexRanges", fn := fun _ => fun
  | [d1, d2] => { results := [.lit (.bool true)], args := [d1, d2] }
  | _ => none }
def regexRangesRow : OpenClaim := { program := "ytnbadnmmolagfaadoor", sum := "6c4ce4975a8885de7f772c8b97bcc7134c8306d0f59bb8c89195a654d5b61594", func := "platen/platenlaw4.RegexRanges", spec := "regexRanges", inPlace := ["internal/bytealg.IndexByteString", "internal/bytealg.IndexString"], unfollowed := true, recurses := true, named := ["unicode/utf8.first", "unicode/utf8.acceptRanges", "internal/bytealg.MaxLen"], apart := false, laid := [("unicode/utf8.acceptRanges", laid_unicode_utf8_acceptRanges), ("unicode/utf8.first", laid_unicode_utf8_first)] }
def RegexRangesSaid : Prop := regexRangesRow.holds Tryd.pinned (OpenSpec.ofChange regexRangesSpec)

/-- ITS FALSE NEIGHBOUR: 'it returns false'. Refute it at one input. -/
def regexRangesWrong : ChangeSpec := { name := "regexRanges", fn := fun _ => fun
  | [d1, d2] => { results := [.lit (.bool false)], args := [d1, d2] }
  | _ => none }
def RegexRangesWrongFalsely : Prop := regexRangesRow.holds Tryd.pinned (OpenSpec.ofChange regexRangesWrong)

/-- 'platenlaw4.RegexNames': WHATEVER THE INPUT: true; the input reads as it did. -/
def regexNamesSpec : ChangeSpec := { name := "regexNames", fn := fun _ => fun
  | [d1, d2, d3] => { results := [.lit (.bool true)], args := [d1, d2, d3] }
  | _ => none }
def regexNamesRow : OpenClaim := { program := "ytnbadnmmolagfaadoor", sum := "6c4ce4975a8885de7f772c8b97bcc7134c8306d0f59bb8c89195a654d5b61594", func := "platen/platenlaw4.RegexNames", spec := "regexNames", inPlace := ["internal/bytealg.IndexByteString", "internal/bytealg.IndexString"], unfollowed := true, recurses := true, named := ["unicode/utf8.first", "unicode/utf8.acceptRanges", "internal/bytealg.MaxLen"], apart := false, laid := [("unicode/utf8.acceptRanges", laid_unicode_utf8_acceptRanges), ("unicode/utf8.first", laid_unicode_utf8_first)] }
def RegexNamesSaid : Prop := regexNamesRow.holds Tryd.pinned (OpenSpec.ofChange regexNamesSpec)

/-- ITS FALSE NEIGHBOUR: 'it returns false'. Refute it at one input. -/
def regexNamesWrong : ChangeSpec := { name := "regexNames", fn := fun _ => fun
  | [d1, d2, d3] => { results := [.lit (.bool false)], args := [d1, d2, d3] }
  | _ => none }
def RegexNamesWrongFalsely : Prop := regexNamesRow.holds Tryd.pinned (OpenSpec.ofChange regexNamesWrong)

/-- 'platenlaw4.RegexTimes': WHATEVER THE INPUT: true; the input reads as it did. -/
def regexTimesSpec : ChangeSpec := { name := "regexTimes", fn := fun _ => fun
  | [d1, d2, d3] => { results := [.lit (.bool true)], args := [d1, d2, d3] }
  | _ => none }
def regexTimesRow : OpenClaim := { program := "ytnbadnmmolagfaadoor", sum := "6c4ce4975a8885de7f772c8b97bcc7134c8306d0f59bb8c89195a654d5b61594", func := "platen/platenlaw4.RegexTimes", spec := "regexTimes", inPlace := ["internal/bytealg.IndexByteString", "internal/bytealg.IndexString"], unfollowed := true, recurses := true, named := ["unicode/utf8.first", "unicode/utf8.acceptRanges", "internal/bytealg.MaxLen"], apart := false, laid := [("unicode/utf8.acceptRanges", laid_unicode_utf8_acceptRanges), ("unicode/utf8.first", laid_unicode_utf8_first)] }
def RegexTimesSaid : Prop := regexTimesRow.holds Tryd.pinned (OpenSpec.ofChange regexTimesSpec)

/-- ITS FALSE NEIGHBOUR: 'it returns false'. Refute it at one input. -/
def regexTimesWrong : ChangeSpec := { name := "regexTimes", fn := fun _ => fun
  | [d1, d2, d3] => { results := [.lit (.bool false)], args := [d1, d2, d3] }
  | _ => none }
def RegexTimesWrongFalsely : Prop := regexTimesRow.holds Tryd.pinned (OpenSpec.ofChange regexTimesWrong)

/-- 'platenlaw4.RegexFlags': WHATEVER THE INPUT: true; the input reads as it did. -/
def regexFlagsSpec : ChangeSpec := { name := "regexFlags", fn := fun _ => fun
  | [d] => { results := [.lit (.bool true)], args := [d] }
  | _ => none }
def regexFlagsRow : OpenClaim := { program := "ytnbadnmmolagfaadoor", sum := "6c4ce4975a8885de7f772c8b97bcc7134c8306d0f59bb8c89195a654d5b61594", func := "platen/platenlaw4.RegexFlags", spec := "regexFlags", inPlace := ["internal/bytealg.IndexByteString", "internal/bytealg.IndexString"], unfollowed := true, recurses := true, named := ["unicode/utf8.first", "unicode/utf8.acceptRanges", "internal/bytealg.MaxLen"], apart := false, laid := [("unicode/utf8.acceptRanges", laid_unicode_utf8_acceptRanges), ("unicode/utf8.first", laid_unicode_utf8_first)] }
def RegexFlagsSaid : Prop := regexFlagsRow.holds Tryd.pinned (OpenSpec.ofChange regexFlagsSpec)

/-- ITS FALSE NEIGHBOUR: 'it returns false'. Refute it at one input. -/
def regexFlagsWrong : ChangeSpec := { name := "regexFlags", fn := fun _ => fun
  | [d] => { results := [.lit (.bool false)], args := [d] }
  | _ => none }
def RegexFlagsWrongFalsely : Prop := regexFlagsRow.holds Tryd.pinned (OpenSpec.ofChange regexFlagsWrong)

/- THE SECOND FORM. 'bulk': how many values and letters a reading holds, each counted each time it is reached (what is shared counts as often as it is met; a slice's spare places count too). A statement '..UptoSaid' is the law's where the arguments, and the package variables that the reading takes, are together of bulk at most 1048576: NARROWER than '..Said'. Prove '..Said' where nothing that the law and all that it calls make is longer than what came in: it says more and counts as full. Else prove '..UptoSaid'. A law counts once. -/
mutual
def uptoBulk {H : Type} : DataW H → Nat
  | .lit (.string bytes) => bytes.length + 1
  | .lit _ => 1
  | .nil => 1
  | .ptr d => uptoBulk d + 1
  | .slice elems spare => uptoBulkAll elems + uptoBulkAll spare + 1
  | .agg parts => uptoBulkAll parts + 1
  | .iface _ d => uptoBulk d + 1
  | .map entries => uptoBulkEntries entries + 1
  | .held _ => 1
def uptoBulkAll {H : Type} : List (DataW H) → Nat
  | [] => 0
  | d :: r => uptoBulk d + uptoBulkAll r
def uptoBulkEntries {H : Type} : List (Lit × DataW H) → Nat
  | [] => 0
  | x :: r => uptoBulkEntry x + uptoBulkEntries r
def uptoBulkEntry {H : Type} : Lit × DataW H → Nat
  | (.string bytes, d) => bytes.length + uptoBulk d + 1
  | (_, d) => uptoBulk d + 1
 end
def uptoSmall : (H : Type) → List (DataW H) → Bool := fun _ ds => decide (uptoBulkAll ds ≤ 1048576)
def OpenSpec.upto (s : _root_.Go.ChangeSpec) : _root_.Go.OpenSpec := { _root_.Go.OpenSpec.ofChange s with cond := some uptoSmall }

/-- 'platenlaw4.RegexJoins', WHERE WHAT IT READS IS OF BULK AT MOST 1048576: true; the input reads as it did. -/
def regexJoinsUptoRow : OpenClaim := { program := "ytnbadnmmolagfaadoor", sum := "6c4ce4975a8885de7f772c8b97bcc7134c8306d0f59bb8c89195a654d5b61594", func := "platen/platenlaw4.RegexJoins", spec := "regexJoins", inPlace := ["internal/bytealg.IndexByteString", "internal/bytealg.IndexString"], unfollowed := true, recurses := true, named := ["unicode/utf8.first", "unicode/utf8.acceptRanges", "internal/bytealg.MaxLen"], apart := false, laid := [("unicode/utf8.acceptRanges", laid_unicode_utf8_acceptRanges), ("unicode/utf8.first", laid_unicode_utf8_first)], narrowed := true }
def RegexJoinsUptoSaid : Prop := regexJoinsUptoRow.holds Tryd.pinned (OpenSpec.upto regexJoinsSpec)

/-- 'platenlaw4.RegexGroups', WHERE WHAT IT READS IS OF BULK AT MOST 1048576: true; the input reads as it did. -/
def regexGroupsUptoRow : OpenClaim := { program := "ytnbadnmmolagfaadoor", sum := "6c4ce4975a8885de7f772c8b97bcc7134c8306d0f59bb8c89195a654d5b61594", func := "platen/platenlaw4.RegexGroups", spec := "regexGroups", inPlace := ["internal/bytealg.IndexByteString", "internal/bytealg.IndexString"], unfollowed := true, recurses := true, named := ["unicode/utf8.first", "unicode/utf8.acceptRanges", "internal/bytealg.MaxLen"], apart := false, laid := [("unicode/utf8.acceptRanges", laid_unicode_utf8_acceptRanges), ("unicode/utf8.first", laid_unicode_utf8_first)], narrowed := true }
def RegexGroupsUptoSaid : Prop := regexGroupsUptoRow.holds Tryd.pinned (OpenSpec.upto regexGroupsSpec)

/-- 'platenlaw4.RegexRanges', WHERE WHAT IT READS IS OF BULK AT MOST 1048576: true; the input reads as it did. -/
def regexRangesUptoRow : OpenClaim := { program := "ytnbadnmmolagfaadoor", sum := "6c4ce4975a8885de7f772c8b97bcc7134c8306d0f59bb8c89195a654d5b61594", func := "platen/platenlaw4.RegexRanges", spec := "regexRanges", inPlace := ["internal/bytealg.IndexByteString", "internal/bytealg.IndexString"], unfollowed := true, recurses := true, named := ["unicode/utf8.first", "unicode/utf8.acceptRanges", "internal/bytealg.MaxLen"], apart := false, laid := [("unicode/utf8.acceptRanges", laid_unicode_utf8_acceptRanges), ("unicode/utf8.first", laid_unicode_utf8_first)], narrowed := true }
def RegexRangesUptoSaid : Prop := regexRangesUptoRow.holds Tryd.pinned (OpenSpec.upto regexRangesSpec)

/-- 'platenlaw4.RegexNames', WHERE WHAT IT READS IS OF BULK AT MOST 1048576: true; the input reads as it did. -/
def regexNamesUptoRow : OpenClaim := { program := "ytnbadnmmolagfaadoor", sum := "6c4ce4975a8885de7f772c8b97bcc7134c8306d0f59bb8c89195a654d5b61594", func := "platen/platenlaw4.RegexNames", spec := "regexNames", inPlace := ["internal/bytealg.IndexByteString", "internal/bytealg.IndexString"], unfollowed := true, recurses := true, named := ["unicode/utf8.first", "unicode/utf8.acceptRanges", "internal/bytealg.MaxLen"], apart := false, laid := [("unicode/utf8.acceptRanges", laid_unicode_utf8_acceptRanges), ("unicode/utf8.first", laid_unicode_utf8_first)], narrowed := true }
def RegexNamesUptoSaid : Prop := regexNamesUptoRow.holds Tryd.pinned (OpenSpec.upto regexNamesSpec)

/-- 'platenlaw4.RegexTimes', WHERE WHAT IT READS IS OF BULK AT MOST 1048576: true; the input reads as it did. -/
def regexTimesUptoRow : OpenClaim := { program := "ytnbadnmmolagfaadoor", sum := "6c4ce4975a8885de7f772c8b97bcc7134c8306d0f59bb8c89195a654d5b61594", func := "platen/platenlaw4.RegexTimes", spec := "regexTimes", inPlace := ["internal/bytealg.IndexByteString", "internal/bytealg.IndexString"], unfollowed := true, recurses := true, named := ["unicode/utf8.first", "unicode/utf8.acceptRanges", "internal/bytealg.MaxLen"], apart := false, laid := [("unicode/utf8.acceptRanges", laid_unicode_utf8_acceptRanges), ("unicode/utf8.first", laid_unicode_utf8_first)], narrowed := true }
def RegexTimesUptoSaid : Prop := regexTimesUptoRow.holds Tryd.pinned (OpenSpec.upto regexTimesSpec)

/-- 'platenlaw4.RegexFlags', WHERE WHAT IT READS IS OF BULK AT MOST 1048576: true; the input reads as it did. -/
def regexFlagsUptoRow : OpenClaim := { program := "ytnbadnmmolagfaadoor", sum := "6c4ce4975a8885de7f772c8b97bcc7134c8306d0f59bb8c89195a654d5b61594", func := "platen/platenlaw4.RegexFlags", spec := "regexFlags", inPlace := ["internal/bytealg.IndexByteString", "internal/bytealg.IndexString"], unfollowed := true, recurses := true, named := ["unicode/utf8.first", "unicode/utf8.acceptRanges", "internal/bytealg.MaxLen"], apart := false, laid := [("unicode/utf8.acceptRanges", laid_unicode_utf8_acceptRanges), ("unicode/utf8.first", laid_unicode_utf8_first)], narrowed := true }
def RegexFlagsUptoSaid : Prop := regexFlagsUptoRow.holds Tryd.pinned (OpenSpec.upto regexFlagsSpec)

end Rows
end Go.Proofs.YtnbadnmmolagfaaDoor
