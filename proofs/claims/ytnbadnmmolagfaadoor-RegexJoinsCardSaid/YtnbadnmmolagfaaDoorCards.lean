/-
  DERIVED. GIVEN WITH THE SEED: THE CARDS: each row of YtnbadnmmolagfaaDoorRows.lean that lists a variable, with what it lists TIED to the program's text (the seventh form; the later family's looks); each row that meets fmt, with fmt's text TOLD by the authors' own Lean function (tested against real Go, not proved from fmt's source: count such statements apart). THE CARD IS WHAT COUNTS. Prove the row's statement (the work); the ties are given (YtnbadnmmolagfaaDoorTie.lean); close each card by the builder's one call (the guide's Derived/Test/ToyasCard.lean, 'card_holds'). Laid BY PROGRAM, IN A SANDBOX (cutbox-door.mjs). By AI agents, Wed Nov 11 2026. No macro, syntax, notation, axiom, sorry.
-/
import Derived.Test.YtnbadnmmolagfaaDoorRows
import GoSem.ClaimSeven
namespace Go.Proofs.YtnbadnmmolagfaaDoor
namespace Rows

/-- THE TIED CARD OF 'platenlaw4.RegexJoins'. -/
def regexJoinsCard : Claim7 := { stood := { row := regexJoinsRow, standIns := [], harness := (true, "2bf8471501e5107b9c918c52055cfa9055eb3852f664f78503effb7f7c40c8d6"), looks := true }, kinds := [], alts := [], laidByText := true, laidKinds := [.data, .pinned], laidTests := true, laidLooks := .later }
def RegexJoinsCardSaid : Prop := Claim7.holds Tryd.pinned (.plain (OpenSpec.ofChange regexJoinsSpec)) regexJoinsCard

/-- THE TIED CARD OF 'platenlaw4.RegexGroups'. -/
def regexGroupsCard : Claim7 := { stood := { row := regexGroupsRow, standIns := [], harness := (true, "2bf8471501e5107b9c918c52055cfa9055eb3852f664f78503effb7f7c40c8d6"), looks := true }, kinds := [], alts := [], laidByText := true, laidKinds := [.data, .pinned], laidTests := true, laidLooks := .later }
def RegexGroupsCardSaid : Prop := Claim7.holds Tryd.pinned (.plain (OpenSpec.ofChange regexGroupsSpec)) regexGroupsCard

/-- THE TIED CARD OF 'platenlaw4.RegexRanges'. -/
def regexRangesCard : Claim7 := { stood := { row := regexRangesRow, standIns := [], harness := (true, "2bf8471501e5107b9c918c52055cfa9055eb3852f664f78503effb7f7c40c8d6"), looks := true }, kinds := [], alts := [], laidByText := true, laidKinds := [.data, .pinned], laidTests := true, laidLooks := .later }
def RegexRangesCardSaid : Prop := Claim7.holds Tryd.pinned (.plain (OpenSpec.ofChange regexRangesSpec)) regexRangesCard

/-- THE TIED CARD OF 'platenlaw4.RegexNames'. -/
def regexNamesCard : Claim7 := { stood := { row := regexNamesRow, standIns := [], harness := (true, "2bf8471501e5107b9c918c52055cfa9055eb3852f664f78503effb7f7c40c8d6"), looks := true }, kinds := [], alts := [], laidByText := true, laidKinds := [.data, .pinned], laidTests := true, laidLooks := .later }
def RegexNamesCardSaid : Prop := Claim7.holds Tryd.pinned (.plain (OpenSpec.ofChange regexNamesSpec)) regexNamesCard

/-- THE TIED CARD OF 'platenlaw4.RegexTimes'. -/
def regexTimesCard : Claim7 := { stood := { row := regexTimesRow, standIns := [], harness := (true, "2bf8471501e5107b9c918c52055cfa9055eb3852f664f78503effb7f7c40c8d6"), looks := true }, kinds := [], alts := [], laidByText := true, laidKinds := [.data, .pinned], laidTests := true, laidLooks := .later }
def RegexTimesCardSaid : Prop := Claim7.holds Tryd.pinned (.plain (OpenSpec.ofChange regexTimesSpec)) regexTimesCard

/-- THE TIED CARD OF 'platenlaw4.RegexFlags'. -/
def regexFlagsCard : Claim7 := { stood := { row := regexFlagsRow, standIns := [], harness := (true, "2bf8471501e5107b9c918c52055cfa9055eb3852f664f78503effb7f7c40c8d6"), looks := true }, kinds := [], alts := [], laidByText := true, laidKinds := [.data, .pinned], laidTests := true, laidLooks := .later }
def RegexFlagsCardSaid : Prop := Claim7.holds Tryd.pinned (.plain (OpenSpec.ofChange regexFlagsSpec)) regexFlagsCard

/-- THE SECOND FORM's CARD OF 'platenlaw4.RegexJoins'. -/
def regexJoinsUptoCard : Claim7 := { stood := { row := regexJoinsUptoRow, standIns := [], harness := (true, "2bf8471501e5107b9c918c52055cfa9055eb3852f664f78503effb7f7c40c8d6"), looks := true }, kinds := [], alts := [], laidByText := true, laidKinds := [.data, .pinned], laidTests := true, laidLooks := .later }
def RegexJoinsUptoCardSaid : Prop := Claim7.holds Tryd.pinned (.plain (OpenSpec.upto regexJoinsSpec)) regexJoinsUptoCard

/-- THE SECOND FORM's CARD OF 'platenlaw4.RegexGroups'. -/
def regexGroupsUptoCard : Claim7 := { stood := { row := regexGroupsUptoRow, standIns := [], harness := (true, "2bf8471501e5107b9c918c52055cfa9055eb3852f664f78503effb7f7c40c8d6"), looks := true }, kinds := [], alts := [], laidByText := true, laidKinds := [.data, .pinned], laidTests := true, laidLooks := .later }
def RegexGroupsUptoCardSaid : Prop := Claim7.holds Tryd.pinned (.plain (OpenSpec.upto regexGroupsSpec)) regexGroupsUptoCard

/-- THE SECOND FORM's CARD OF 'platenlaw4.RegexRanges'. -/
def regexRangesUptoCard : Claim7 := { stood := { row := regexRangesUptoRow, standIns := [], harness := (true, "2bf8471501e5107b9c918c52055cfa9055eb3852f664f78503effb7f7c40c8d6"), looks := true }, kinds := [], alts := [], laidByText := true, laidKinds := [.data, .pinned], laidTests := true, laidLooks := .later }
def RegexRangesUptoCardSaid : Prop := Claim7.holds Tryd.pinned (.plain (OpenSpec.upto regexRangesSpec)) regexRangesUptoCard

/-- THE SECOND FORM's CARD OF 'platenlaw4.RegexNames'. -/
def regexNamesUptoCard : Claim7 := { stood := { row := regexNamesUptoRow, standIns := [], harness := (true, "2bf8471501e5107b9c918c52055cfa9055eb3852f664f78503effb7f7c40c8d6"), looks := true }, kinds := [], alts := [], laidByText := true, laidKinds := [.data, .pinned], laidTests := true, laidLooks := .later }
def RegexNamesUptoCardSaid : Prop := Claim7.holds Tryd.pinned (.plain (OpenSpec.upto regexNamesSpec)) regexNamesUptoCard

/-- THE SECOND FORM's CARD OF 'platenlaw4.RegexTimes'. -/
def regexTimesUptoCard : Claim7 := { stood := { row := regexTimesUptoRow, standIns := [], harness := (true, "2bf8471501e5107b9c918c52055cfa9055eb3852f664f78503effb7f7c40c8d6"), looks := true }, kinds := [], alts := [], laidByText := true, laidKinds := [.data, .pinned], laidTests := true, laidLooks := .later }
def RegexTimesUptoCardSaid : Prop := Claim7.holds Tryd.pinned (.plain (OpenSpec.upto regexTimesSpec)) regexTimesUptoCard

/-- THE SECOND FORM's CARD OF 'platenlaw4.RegexFlags'. -/
def regexFlagsUptoCard : Claim7 := { stood := { row := regexFlagsUptoRow, standIns := [], harness := (true, "2bf8471501e5107b9c918c52055cfa9055eb3852f664f78503effb7f7c40c8d6"), looks := true }, kinds := [], alts := [], laidByText := true, laidKinds := [.data, .pinned], laidTests := true, laidLooks := .later }
def RegexFlagsUptoCardSaid : Prop := Claim7.holds Tryd.pinned (.plain (OpenSpec.upto regexFlagsSpec)) regexFlagsUptoCard
end Rows
end Go.Proofs.YtnbadnmmolagfaaDoor
