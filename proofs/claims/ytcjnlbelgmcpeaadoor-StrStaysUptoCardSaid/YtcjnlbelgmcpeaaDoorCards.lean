/-
  DERIVED. GIVEN WITH THE SEED: THE CARDS: each row of YtcjnlbelgmcpeaaDoorRows.lean that lists a variable, with what it lists TIED to the program's text (the seventh form; the later family's looks); each row that meets fmt, with fmt's text TOLD by the authors' own Lean function (tested against real Go, not proved from fmt's source: count such statements apart). THE CARD IS WHAT COUNTS. Prove the row's statement (the work); the ties are given (YtcjnlbelgmcpeaaDoorTie.lean); close each card by the builder's one call (the guide's Derived/Test/ToyasCard.lean, 'card_holds'). Laid BY PROGRAM, IN A SANDBOX (cutbox-door.mjs). By AI agents, Wed Nov 11 2026. No macro, syntax, notation, axiom, sorry.
-/
import Derived.Test.YtcjnlbelgmcpeaaDoorRows
import GoSem.ClaimSeven
namespace Go.Proofs.YtcjnlbelgmcpeaaDoor
namespace Rows

/-- THE TIED CARD OF 'platenlaw3.StrForms'. -/
def strFormsCard : Claim7 := { stood := { row := strFormsRow, standIns := [], harness := (true, "018ebd88ad4a6d228f30be76eb185991c7513ff383b608e8467a82422bd916c5"), looks := false }, kinds := [], alts := [], laidByText := true, laidKinds := [.data, .pinned], laidTests := true, laidLooks := .later }
def StrFormsCardSaid : Prop := Claim7.holds Tryd.pinned (.plain (OpenSpec.ofChange strFormsSpec)) strFormsCard

/-- THE TIED CARD OF 'platenlaw3.StrUnits'. -/
def strUnitsCard : Claim7 := { stood := { row := strUnitsRow, standIns := [], harness := (true, "018ebd88ad4a6d228f30be76eb185991c7513ff383b608e8467a82422bd916c5"), looks := false }, kinds := [], alts := [], laidByText := true, laidKinds := [.data, .pinned], laidTests := true, laidLooks := .later }
def StrUnitsCardSaid : Prop := Claim7.holds Tryd.pinned (.plain (OpenSpec.ofChange strUnitsSpec)) strUnitsCard

/-- THE TIED CARD OF 'platenlaw3.StrQuotes'. -/
def strQuotesCard : Claim7 := { stood := { row := strQuotesRow, standIns := [], harness := (true, "018ebd88ad4a6d228f30be76eb185991c7513ff383b608e8467a82422bd916c5"), looks := false }, kinds := [], alts := [], laidByText := true, laidKinds := [.data, .pinned], laidTests := true, laidLooks := .later }
def StrQuotesCardSaid : Prop := Claim7.holds Tryd.pinned (.plain (OpenSpec.ofChange strQuotesSpec)) strQuotesCard

/-- THE TIED CARD OF 'platenlaw3.StrStays'. -/
def strStaysCard : Claim7 := { stood := { row := strStaysRow, standIns := [], harness := (true, "018ebd88ad4a6d228f30be76eb185991c7513ff383b608e8467a82422bd916c5"), looks := false }, kinds := [], alts := [], laidByText := true, laidKinds := [.data, .pinned], laidTests := true, laidLooks := .later }
def StrStaysCardSaid : Prop := Claim7.holds Tryd.pinned (.plain (OpenSpec.ofChange strStaysSpec)) strStaysCard

/-- THE TIED CARD OF 'platenlaw3.StrJoins'. -/
def strJoinsCard : Claim7 := { stood := { row := strJoinsRow, standIns := [], harness := (true, "018ebd88ad4a6d228f30be76eb185991c7513ff383b608e8467a82422bd916c5"), looks := false }, kinds := [], alts := [], laidByText := true, laidKinds := [.data, .pinned], laidTests := true, laidLooks := .later }
def StrJoinsCardSaid : Prop := Claim7.holds Tryd.pinned (.plain (OpenSpec.ofChange strJoinsSpec)) strJoinsCard

/-- THE TIED CARD OF 'platenlaw3.StrEscapes'. -/
def strEscapesCard : Claim7 := { stood := { row := strEscapesRow, standIns := [], harness := (true, "018ebd88ad4a6d228f30be76eb185991c7513ff383b608e8467a82422bd916c5"), looks := false }, kinds := [], alts := [], laidByText := true, laidKinds := [.data, .pinned], laidTests := true, laidLooks := .later }
def StrEscapesCardSaid : Prop := Claim7.holds Tryd.pinned (.plain (OpenSpec.ofChange strEscapesSpec)) strEscapesCard

/-- THE TIED CARD OF 'platenlaw3.StrChosen'. -/
def strChosenCard : Claim7 := { stood := { row := strChosenRow, standIns := [], harness := (true, "018ebd88ad4a6d228f30be76eb185991c7513ff383b608e8467a82422bd916c5"), looks := false }, kinds := [], alts := [], laidByText := true, laidKinds := [.data, .pinned], laidTests := true, laidLooks := .later }
def StrChosenCardSaid : Prop := Claim7.holds Tryd.pinned (.plain (OpenSpec.ofChange strChosenSpec)) strChosenCard

/-- THE SECOND FORM's CARD OF 'platenlaw3.StrForms'. -/
def strFormsUptoCard : Claim7 := { stood := { row := strFormsUptoRow, standIns := [], harness := (true, "018ebd88ad4a6d228f30be76eb185991c7513ff383b608e8467a82422bd916c5"), looks := false }, kinds := [], alts := [], laidByText := true, laidKinds := [.data, .pinned], laidTests := true, laidLooks := .later }
def StrFormsUptoCardSaid : Prop := Claim7.holds Tryd.pinned (.plain (OpenSpec.upto strFormsSpec)) strFormsUptoCard

/-- THE SECOND FORM's CARD OF 'platenlaw3.StrUnits'. -/
def strUnitsUptoCard : Claim7 := { stood := { row := strUnitsUptoRow, standIns := [], harness := (true, "018ebd88ad4a6d228f30be76eb185991c7513ff383b608e8467a82422bd916c5"), looks := false }, kinds := [], alts := [], laidByText := true, laidKinds := [.data, .pinned], laidTests := true, laidLooks := .later }
def StrUnitsUptoCardSaid : Prop := Claim7.holds Tryd.pinned (.plain (OpenSpec.upto strUnitsSpec)) strUnitsUptoCard

/-- THE SECOND FORM's CARD OF 'platenlaw3.StrQuotes'. -/
def strQuotesUptoCard : Claim7 := { stood := { row := strQuotesUptoRow, standIns := [], harness := (true, "018ebd88ad4a6d228f30be76eb185991c7513ff383b608e8467a82422bd916c5"), looks := false }, kinds := [], alts := [], laidByText := true, laidKinds := [.data, .pinned], laidTests := true, laidLooks := .later }
def StrQuotesUptoCardSaid : Prop := Claim7.holds Tryd.pinned (.plain (OpenSpec.upto strQuotesSpec)) strQuotesUptoCard

/-- THE SECOND FORM's CARD OF 'platenlaw3.StrStays'. -/
def strStaysUptoCard : Claim7 := { stood := { row := strStaysUptoRow, standIns := [], harness := (true, "018ebd88ad4a6d228f30be76eb185991c7513ff383b608e8467a82422bd916c5"), looks := false }, kinds := [], alts := [], laidByText := true, laidKinds := [.data, .pinned], laidTests := true, laidLooks := .later }
def StrStaysUptoCardSaid : Prop := Claim7.holds Tryd.pinned (.plain (OpenSpec.upto strStaysSpec)) strStaysUptoCard

/-- THE SECOND FORM's CARD OF 'platenlaw3.StrJoins'. -/
def strJoinsUptoCard : Claim7 := { stood := { row := strJoinsUptoRow, standIns := [], harness := (true, "018ebd88ad4a6d228f30be76eb185991c7513ff383b608e8467a82422bd916c5"), looks := false }, kinds := [], alts := [], laidByText := true, laidKinds := [.data, .pinned], laidTests := true, laidLooks := .later }
def StrJoinsUptoCardSaid : Prop := Claim7.holds Tryd.pinned (.plain (OpenSpec.upto strJoinsSpec)) strJoinsUptoCard

/-- THE SECOND FORM's CARD OF 'platenlaw3.StrEscapes'. -/
def strEscapesUptoCard : Claim7 := { stood := { row := strEscapesUptoRow, standIns := [], harness := (true, "018ebd88ad4a6d228f30be76eb185991c7513ff383b608e8467a82422bd916c5"), looks := false }, kinds := [], alts := [], laidByText := true, laidKinds := [.data, .pinned], laidTests := true, laidLooks := .later }
def StrEscapesUptoCardSaid : Prop := Claim7.holds Tryd.pinned (.plain (OpenSpec.upto strEscapesSpec)) strEscapesUptoCard

/-- THE SECOND FORM's CARD OF 'platenlaw3.StrChosen'. -/
def strChosenUptoCard : Claim7 := { stood := { row := strChosenUptoRow, standIns := [], harness := (true, "018ebd88ad4a6d228f30be76eb185991c7513ff383b608e8467a82422bd916c5"), looks := false }, kinds := [], alts := [], laidByText := true, laidKinds := [.data, .pinned], laidTests := true, laidLooks := .later }
def StrChosenUptoCardSaid : Prop := Claim7.holds Tryd.pinned (.plain (OpenSpec.upto strChosenSpec)) strChosenUptoCard
end Rows
end Go.Proofs.YtcjnlbelgmcpeaaDoor
