/-
  DERIVED. GIVEN WITH THE SEED: THE CARDS: each row of YtaojlnibkajfbaaDoorRows.lean that lists a variable, with what it lists TIED to the program's text (the seventh form; the later family's looks); each row that meets fmt, with fmt's text TOLD by the authors' own Lean function (tested against real Go, not proved from fmt's source: count such statements apart). THE CARD IS WHAT COUNTS. Prove the row's statement (the work); the ties are given (YtaojlnibkajfbaaDoorTie.lean); close each card by the builder's one call (the guide's Derived/Test/ToyasCard.lean, 'card_holds'). Laid BY PROGRAM, IN A SANDBOX (cutbox-door.mjs). By AI agents, Wed Nov 11 2026. No macro, syntax, notation, axiom, sorry.
-/
import Derived.Test.YtaojlnibkajfbaaDoorRows
import GoSem.ClaimSeven
namespace Go.Proofs.YtaojlnibkajfbaaDoor
namespace Rows

/-- THE TIED CARD OF 'platenlaw16.SpreadDocs'. -/
def spreadDocsCard : Claim7 := { stood := { row := spreadDocsRow, standIns := [], harness := (true, "bdb8888e8bb9719cd6d84bba66e71b4a8190418069b10d9a40762e4f4e69c624"), looks := false }, kinds := [], alts := [], laidByText := true, laidKinds := [.data, .pinned], laidTests := true, laidLooks := .later }
def SpreadDocsCardSaid : Prop := Claim7.holds Tryd.pinned (.plain (OpenSpec.ofChange spreadDocsSpec)) spreadDocsCard

/-- THE TIED CARD OF 'platenlaw16.SpreadWays'. -/
def spreadWaysCard : Claim7 := { stood := { row := spreadWaysRow, standIns := [], harness := (true, "bdb8888e8bb9719cd6d84bba66e71b4a8190418069b10d9a40762e4f4e69c624"), looks := false }, kinds := [], alts := [], laidByText := true, laidKinds := [.data, .pinned], laidTests := true, laidLooks := .later }
def SpreadWaysCardSaid : Prop := Claim7.holds Tryd.pinned (.plain (OpenSpec.ofChange spreadWaysSpec)) spreadWaysCard

/-- THE TIED CARD OF 'platenlaw15.DocChecks'. -/
def docChecksCard : Claim7 := { stood := { row := docChecksRow, standIns := [], harness := (true, "bdb8888e8bb9719cd6d84bba66e71b4a8190418069b10d9a40762e4f4e69c624"), looks := false }, kinds := [], alts := [], laidByText := true, laidKinds := [.data, .pinned], laidTests := true, laidLooks := .later }
def DocChecksCardSaid : Prop := Claim7.holds Tryd.pinned (.plain (OpenSpec.ofChange docChecksSpec)) docChecksCard

/-- THE TIED CARD OF 'platenlaw15.DocJoins'. -/
def docJoinsCard : Claim7 := { stood := { row := docJoinsRow, standIns := [], harness := (true, "bdb8888e8bb9719cd6d84bba66e71b4a8190418069b10d9a40762e4f4e69c624"), looks := false }, kinds := [], alts := [], laidByText := true, laidKinds := [.data, .pinned], laidTests := true, laidLooks := .later }
def DocJoinsCardSaid : Prop := Claim7.holds Tryd.pinned (.plain (OpenSpec.ofChange docJoinsSpec)) docJoinsCard

/-- THE TIED CARD OF 'platenlaw15.DocFlats'. -/
def docFlatsCard : Claim7 := { stood := { row := docFlatsRow, standIns := [], harness := (true, "bdb8888e8bb9719cd6d84bba66e71b4a8190418069b10d9a40762e4f4e69c624"), looks := false }, kinds := [], alts := [], laidByText := true, laidKinds := [.data, .pinned], laidTests := true, laidLooks := .later }
def DocFlatsCardSaid : Prop := Claim7.holds Tryd.pinned (.plain (OpenSpec.ofChange docFlatsSpec)) docFlatsCard

/-- THE TIED CARD OF 'platenlaw15.DocKinds'. -/
def docKindsCard : Claim7 := { stood := { row := docKindsRow, standIns := [], harness := (true, "bdb8888e8bb9719cd6d84bba66e71b4a8190418069b10d9a40762e4f4e69c624"), looks := false }, kinds := [], alts := [], laidByText := true, laidKinds := [.data, .pinned], laidTests := true, laidLooks := .later }
def DocKindsCardSaid : Prop := Claim7.holds Tryd.pinned (.plain (OpenSpec.ofChange docKindsSpec)) docKindsCard

/-- THE TIED CARD OF 'platenlaw15.DocFields'. -/
def docFieldsCard : Claim7 := { stood := { row := docFieldsRow, standIns := [], harness := (true, "bdb8888e8bb9719cd6d84bba66e71b4a8190418069b10d9a40762e4f4e69c624"), looks := false }, kinds := [], alts := [], laidByText := true, laidKinds := [.data, .pinned], laidTests := true, laidLooks := .later }
def DocFieldsCardSaid : Prop := Claim7.holds Tryd.pinned (.plain (OpenSpec.ofChange docFieldsSpec)) docFieldsCard

/-- THE SECOND FORM's CARD OF 'platenlaw16.SpreadDocs'. -/
def spreadDocsUptoCard : Claim7 := { stood := { row := spreadDocsUptoRow, standIns := [], harness := (true, "bdb8888e8bb9719cd6d84bba66e71b4a8190418069b10d9a40762e4f4e69c624"), looks := false }, kinds := [], alts := [], laidByText := true, laidKinds := [.data, .pinned], laidTests := true, laidLooks := .later }
def SpreadDocsUptoCardSaid : Prop := Claim7.holds Tryd.pinned (.plain (OpenSpec.upto spreadDocsSpec)) spreadDocsUptoCard

/-- THE SECOND FORM's CARD OF 'platenlaw16.SpreadWays'. -/
def spreadWaysUptoCard : Claim7 := { stood := { row := spreadWaysUptoRow, standIns := [], harness := (true, "bdb8888e8bb9719cd6d84bba66e71b4a8190418069b10d9a40762e4f4e69c624"), looks := false }, kinds := [], alts := [], laidByText := true, laidKinds := [.data, .pinned], laidTests := true, laidLooks := .later }
def SpreadWaysUptoCardSaid : Prop := Claim7.holds Tryd.pinned (.plain (OpenSpec.upto spreadWaysSpec)) spreadWaysUptoCard

/-- THE SECOND FORM's CARD OF 'platenlaw15.DocChecks'. -/
def docChecksUptoCard : Claim7 := { stood := { row := docChecksUptoRow, standIns := [], harness := (true, "bdb8888e8bb9719cd6d84bba66e71b4a8190418069b10d9a40762e4f4e69c624"), looks := false }, kinds := [], alts := [], laidByText := true, laidKinds := [.data, .pinned], laidTests := true, laidLooks := .later }
def DocChecksUptoCardSaid : Prop := Claim7.holds Tryd.pinned (.plain (OpenSpec.upto docChecksSpec)) docChecksUptoCard

/-- THE SECOND FORM's CARD OF 'platenlaw15.DocJoins'. -/
def docJoinsUptoCard : Claim7 := { stood := { row := docJoinsUptoRow, standIns := [], harness := (true, "bdb8888e8bb9719cd6d84bba66e71b4a8190418069b10d9a40762e4f4e69c624"), looks := false }, kinds := [], alts := [], laidByText := true, laidKinds := [.data, .pinned], laidTests := true, laidLooks := .later }
def DocJoinsUptoCardSaid : Prop := Claim7.holds Tryd.pinned (.plain (OpenSpec.upto docJoinsSpec)) docJoinsUptoCard

/-- THE SECOND FORM's CARD OF 'platenlaw15.DocFlats'. -/
def docFlatsUptoCard : Claim7 := { stood := { row := docFlatsUptoRow, standIns := [], harness := (true, "bdb8888e8bb9719cd6d84bba66e71b4a8190418069b10d9a40762e4f4e69c624"), looks := false }, kinds := [], alts := [], laidByText := true, laidKinds := [.data, .pinned], laidTests := true, laidLooks := .later }
def DocFlatsUptoCardSaid : Prop := Claim7.holds Tryd.pinned (.plain (OpenSpec.upto docFlatsSpec)) docFlatsUptoCard

/-- THE SECOND FORM's CARD OF 'platenlaw15.DocKinds'. -/
def docKindsUptoCard : Claim7 := { stood := { row := docKindsUptoRow, standIns := [], harness := (true, "bdb8888e8bb9719cd6d84bba66e71b4a8190418069b10d9a40762e4f4e69c624"), looks := false }, kinds := [], alts := [], laidByText := true, laidKinds := [.data, .pinned], laidTests := true, laidLooks := .later }
def DocKindsUptoCardSaid : Prop := Claim7.holds Tryd.pinned (.plain (OpenSpec.upto docKindsSpec)) docKindsUptoCard

/-- THE SECOND FORM's CARD OF 'platenlaw15.DocFields'. -/
def docFieldsUptoCard : Claim7 := { stood := { row := docFieldsUptoRow, standIns := [], harness := (true, "bdb8888e8bb9719cd6d84bba66e71b4a8190418069b10d9a40762e4f4e69c624"), looks := false }, kinds := [], alts := [], laidByText := true, laidKinds := [.data, .pinned], laidTests := true, laidLooks := .later }
def DocFieldsUptoCardSaid : Prop := Claim7.holds Tryd.pinned (.plain (OpenSpec.upto docFieldsSpec)) docFieldsUptoCard
end Rows
end Go.Proofs.YtaojlnibkajfbaaDoor
