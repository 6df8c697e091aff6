/-
  DERIVED. GIVEN WITH THE SEED: THE CARDS: each row of YthljgiimdcbfpaaDoorRows.lean that lists a variable, with what it lists TIED to the program's text (the seventh form; the later family's looks); each row that meets fmt, with fmt's text TOLD by the authors' own Lean function (tested against real Go, not proved from fmt's source: count such statements apart). THE CARD IS WHAT COUNTS. Prove the row's statement (the work); the ties are given (YthljgiimdcbfpaaDoorTie.lean); close each card by the builder's one call (the guide's Derived/Test/ToyasCard.lean, 'card_holds'). Laid BY PROGRAM, IN A SANDBOX (cutbox-door.mjs). By AI agents, Wed Nov 11 2026. No macro, syntax, notation, axiom, sorry.
-/
import Derived.Test.YthljgiimdcbfpaaDoorRows
import GoSem.ClaimSeven
namespace Go.Proofs.YthljgiimdcbfpaaDoor
namespace Rows

/-- THE TIED CARD OF 'platenlaw17.LayoutLines'. -/
def layoutLinesCard : Claim7 := { stood := { row := layoutLinesRow, standIns := [], harness := (true, "f99417051cff31ed83ecf31feccb78b16a84273fa0d67cbfb1abfd3402ca031d"), looks := true }, kinds := [], alts := [], laidByText := true, laidKinds := [.data, .pinned], laidTests := true, laidLooks := .later }
def LayoutLinesCardSaid : Prop := Claim7.holds Tryd.pinned (.plain (OpenSpec.ofChange layoutLinesSpec)) layoutLinesCard

/-- THE TIED CARD OF 'platenlaw17.LayoutTexts'. -/
def layoutTextsCard : Claim7 := { stood := { row := layoutTextsRow, standIns := [], harness := (true, "f99417051cff31ed83ecf31feccb78b16a84273fa0d67cbfb1abfd3402ca031d"), looks := true }, kinds := [], alts := [], laidByText := true, laidKinds := [.data, .pinned], laidTests := true, laidLooks := .later }
def LayoutTextsCardSaid : Prop := Claim7.holds Tryd.pinned (.plain (OpenSpec.ofChange layoutTextsSpec)) layoutTextsCard

/-- THE TIED CARD OF 'platenlaw17.LayoutFills'. -/
def layoutFillsCard : Claim7 := { stood := { row := layoutFillsRow, standIns := [], harness := (true, "f99417051cff31ed83ecf31feccb78b16a84273fa0d67cbfb1abfd3402ca031d"), looks := true }, kinds := [], alts := [], laidByText := true, laidKinds := [.data, .pinned], laidTests := true, laidLooks := .later }
def LayoutFillsCardSaid : Prop := Claim7.holds Tryd.pinned (.plain (OpenSpec.ofChange layoutFillsSpec)) layoutFillsCard

/-- THE TIED CARD OF 'platenlaw17.LayoutSuffixes'. -/
def layoutSuffixesCard : Claim7 := { stood := { row := layoutSuffixesRow, standIns := [], harness := (true, "f99417051cff31ed83ecf31feccb78b16a84273fa0d67cbfb1abfd3402ca031d"), looks := true }, kinds := [], alts := [], laidByText := true, laidKinds := [.data, .pinned], laidTests := true, laidLooks := .later }
def LayoutSuffixesCardSaid : Prop := Claim7.holds Tryd.pinned (.plain (OpenSpec.ofChange layoutSuffixesSpec)) layoutSuffixesCard

/-- THE TIED CARD OF 'platenlaw17.LayoutChoices'. -/
def layoutChoicesCard : Claim7 := { stood := { row := layoutChoicesRow, standIns := [], harness := (true, "f99417051cff31ed83ecf31feccb78b16a84273fa0d67cbfb1abfd3402ca031d"), looks := true }, kinds := [], alts := [], laidByText := true, laidKinds := [.data, .pinned], laidTests := true, laidLooks := .later }
def LayoutChoicesCardSaid : Prop := Claim7.holds Tryd.pinned (.plain (OpenSpec.ofChange layoutChoicesSpec)) layoutChoicesCard

/-- THE TIED CARD OF 'platenlaw17.LayoutConds'. -/
def layoutCondsCard : Claim7 := { stood := { row := layoutCondsRow, standIns := [], harness := (true, "f99417051cff31ed83ecf31feccb78b16a84273fa0d67cbfb1abfd3402ca031d"), looks := true }, kinds := [], alts := [], laidByText := true, laidKinds := [.data, .pinned], laidTests := true, laidLooks := .later }
def LayoutCondsCardSaid : Prop := Claim7.holds Tryd.pinned (.plain (OpenSpec.ofChange layoutCondsSpec)) layoutCondsCard

/-- THE TIED CARD OF 'platenlaw17.LayoutGroups'. -/
def layoutGroupsCard : Claim7 := { stood := { row := layoutGroupsRow, standIns := [], harness := (true, "f99417051cff31ed83ecf31feccb78b16a84273fa0d67cbfb1abfd3402ca031d"), looks := true }, kinds := [], alts := [], laidByText := true, laidKinds := [.data, .pinned], laidTests := true, laidLooks := .later }
def LayoutGroupsCardSaid : Prop := Claim7.holds Tryd.pinned (.plain (OpenSpec.ofChange layoutGroupsSpec)) layoutGroupsCard

/-- THE TIED CARD OF 'platenlaw17.LayoutLiterals'. -/
def layoutLiteralsCard : Claim7 := { stood := { row := layoutLiteralsRow, standIns := [], harness := (true, "f99417051cff31ed83ecf31feccb78b16a84273fa0d67cbfb1abfd3402ca031d"), looks := true }, kinds := [], alts := [], laidByText := true, laidKinds := [.data, .pinned], laidTests := true, laidLooks := .later }
def LayoutLiteralsCardSaid : Prop := Claim7.holds Tryd.pinned (.plain (OpenSpec.ofChange layoutLiteralsSpec)) layoutLiteralsCard

/-- THE TIED CARD OF 'platenlaw17.LayoutFlats'. -/
def layoutFlatsCard : Claim7 := { stood := { row := layoutFlatsRow, standIns := [], harness := (true, "f99417051cff31ed83ecf31feccb78b16a84273fa0d67cbfb1abfd3402ca031d"), looks := true }, kinds := [], alts := [], laidByText := true, laidKinds := [.data, .pinned], laidTests := true, laidLooks := .later }
def LayoutFlatsCardSaid : Prop := Claim7.holds Tryd.pinned (.plain (OpenSpec.ofChange layoutFlatsSpec)) layoutFlatsCard

/-- THE TIED CARD OF 'platenlaw17.LayoutWidths'. -/
def layoutWidthsCard : Claim7 := { stood := { row := layoutWidthsRow, standIns := [], harness := (true, "f99417051cff31ed83ecf31feccb78b16a84273fa0d67cbfb1abfd3402ca031d"), looks := true }, kinds := [], alts := [], laidByText := true, laidKinds := [.data, .pinned], laidTests := true, laidLooks := .later }
def LayoutWidthsCardSaid : Prop := Claim7.holds Tryd.pinned (.plain (OpenSpec.ofChange layoutWidthsSpec)) layoutWidthsCard

/-- THE SECOND FORM's CARD OF 'platenlaw17.LayoutLines'. -/
def layoutLinesUptoCard : Claim7 := { stood := { row := layoutLinesUptoRow, standIns := [], harness := (true, "f99417051cff31ed83ecf31feccb78b16a84273fa0d67cbfb1abfd3402ca031d"), looks := true }, kinds := [], alts := [], laidByText := true, laidKinds := [.data, .pinned], laidTests := true, laidLooks := .later }
def LayoutLinesUptoCardSaid : Prop := Claim7.holds Tryd.pinned (.plain (OpenSpec.upto layoutLinesSpec)) layoutLinesUptoCard

/-- THE SECOND FORM's CARD OF 'platenlaw17.LayoutTexts'. -/
def layoutTextsUptoCard : Claim7 := { stood := { row := layoutTextsUptoRow, standIns := [], harness := (true, "f99417051cff31ed83ecf31feccb78b16a84273fa0d67cbfb1abfd3402ca031d"), looks := true }, kinds := [], alts := [], laidByText := true, laidKinds := [.data, .pinned], laidTests := true, laidLooks := .later }
def LayoutTextsUptoCardSaid : Prop := Claim7.holds Tryd.pinned (.plain (OpenSpec.upto layoutTextsSpec)) layoutTextsUptoCard

/-- THE SECOND FORM's CARD OF 'platenlaw17.LayoutFills'. -/
def layoutFillsUptoCard : Claim7 := { stood := { row := layoutFillsUptoRow, standIns := [], harness := (true, "f99417051cff31ed83ecf31feccb78b16a84273fa0d67cbfb1abfd3402ca031d"), looks := true }, kinds := [], alts := [], laidByText := true, laidKinds := [.data, .pinned], laidTests := true, laidLooks := .later }
def LayoutFillsUptoCardSaid : Prop := Claim7.holds Tryd.pinned (.plain (OpenSpec.upto layoutFillsSpec)) layoutFillsUptoCard

/-- THE SECOND FORM's CARD OF 'platenlaw17.LayoutSuffixes'. -/
def layoutSuffixesUptoCard : Claim7 := { stood := { row := layoutSuffixesUptoRow, standIns := [], harness := (true, "f99417051cff31ed83ecf31feccb78b16a84273fa0d67cbfb1abfd3402ca031d"), looks := true }, kinds := [], alts := [], laidByText := true, laidKinds := [.data, .pinned], laidTests := true, laidLooks := .later }
def LayoutSuffixesUptoCardSaid : Prop := Claim7.holds Tryd.pinned (.plain (OpenSpec.upto layoutSuffixesSpec)) layoutSuffixesUptoCard

/-- THE SECOND FORM's CARD OF 'platenlaw17.LayoutChoices'. -/
def layoutChoicesUptoCard : Claim7 := { stood := { row := layoutChoicesUptoRow, standIns := [], harness := (true, "f99417051cff31ed83ecf31feccb78b16a84273fa0d67cbfb1abfd3402ca031d"), looks := true }, kinds := [], alts := [], laidByText := true, laidKinds := [.data, .pinned], laidTests := true, laidLooks := .later }
def LayoutChoicesUptoCardSaid : Prop := Claim7.holds Tryd.pinned (.plain (OpenSpec.upto layoutChoicesSpec)) layoutChoicesUptoCard

/-- THE SECOND FORM's CARD OF 'platenlaw17.LayoutConds'. -/
def layoutCondsUptoCard : Claim7 := { stood := { row := layoutCondsUptoRow, standIns := [], harness := (true, "f99417051cff31ed83ecf31feccb78b16a84273fa0d67cbfb1abfd3402ca031d"), looks := true }, kinds := [], alts := [], laidByText := true, laidKinds := [.data, .pinned], laidTests := true, laidLooks := .later }
def LayoutCondsUptoCardSaid : Prop := Claim7.holds Tryd.pinned (.plain (OpenSpec.upto layoutCondsSpec)) layoutCondsUptoCard

/-- THE SECOND FORM's CARD OF 'platenlaw17.LayoutGroups'. -/
def layoutGroupsUptoCard : Claim7 := { stood := { row := layoutGroupsUptoRow, standIns := [], harness := (true, "f99417051cff31ed83ecf31feccb78b16a84273fa0d67cbfb1abfd3402ca031d"), looks := true }, kinds := [], alts := [], laidByText := true, laidKinds := [.data, .pinned], laidTests := true, laidLooks := .later }
def LayoutGroupsUptoCardSaid : Prop := Claim7.holds Tryd.pinned (.plain (OpenSpec.upto layoutGroupsSpec)) layoutGroupsUptoCard

/-- THE SECOND FORM's CARD OF 'platenlaw17.LayoutLiterals'. -/
def layoutLiteralsUptoCard : Claim7 := { stood := { row := layoutLiteralsUptoRow, standIns := [], harness := (true, "f99417051cff31ed83ecf31feccb78b16a84273fa0d67cbfb1abfd3402ca031d"), looks := true }, kinds := [], alts := [], laidByText := true, laidKinds := [.data, .pinned], laidTests := true, laidLooks := .later }
def LayoutLiteralsUptoCardSaid : Prop := Claim7.holds Tryd.pinned (.plain (OpenSpec.upto layoutLiteralsSpec)) layoutLiteralsUptoCard

/-- THE SECOND FORM's CARD OF 'platenlaw17.LayoutFlats'. -/
def layoutFlatsUptoCard : Claim7 := { stood := { row := layoutFlatsUptoRow, standIns := [], harness := (true, "f99417051cff31ed83ecf31feccb78b16a84273fa0d67cbfb1abfd3402ca031d"), looks := true }, kinds := [], alts := [], laidByText := true, laidKinds := [.data, .pinned], laidTests := true, laidLooks := .later }
def LayoutFlatsUptoCardSaid : Prop := Claim7.holds Tryd.pinned (.plain (OpenSpec.upto layoutFlatsSpec)) layoutFlatsUptoCard

/-- THE SECOND FORM's CARD OF 'platenlaw17.LayoutWidths'. -/
def layoutWidthsUptoCard : Claim7 := { stood := { row := layoutWidthsUptoRow, standIns := [], harness := (true, "f99417051cff31ed83ecf31feccb78b16a84273fa0d67cbfb1abfd3402ca031d"), looks := true }, kinds := [], alts := [], laidByText := true, laidKinds := [.data, .pinned], laidTests := true, laidLooks := .later }
def LayoutWidthsUptoCardSaid : Prop := Claim7.holds Tryd.pinned (.plain (OpenSpec.upto layoutWidthsSpec)) layoutWidthsUptoCard
end Rows
end Go.Proofs.YthljgiimdcbfpaaDoor
