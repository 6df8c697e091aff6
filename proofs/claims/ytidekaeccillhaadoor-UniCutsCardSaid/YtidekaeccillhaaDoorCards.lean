/-
  DERIVED. GIVEN WITH THE SEED: THE CARDS: each row of YtidekaeccillhaaDoorRows.lean that lists a variable, with what it lists TIED to the program's text (the seventh form; the later family's looks); each row that meets fmt, with fmt's text TOLD by the authors' own Lean function (tested against real Go, not proved from fmt's source: count such statements apart). THE CARD IS WHAT COUNTS. Prove the row's statement (the work); the ties are given (YtidekaeccillhaaDoorTie.lean); close each card by the builder's one call (the guide's Derived/Test/ToyasCard.lean, 'card_holds'). Laid BY PROGRAM, IN A SANDBOX (cutbox-door.mjs). By AI agents, Wed Nov 11 2026. No macro, syntax, notation, axiom, sorry.
-/
import Derived.Test.YtidekaeccillhaaDoorRows
import GoSem.ClaimSeven
namespace Go.Proofs.YtidekaeccillhaaDoor
namespace Rows

/-- THE TIED CARD OF 'platenlaw1.UniValids'. -/
def uniValidsCard : Claim7 := { stood := { row := uniValidsRow, standIns := [], harness := (true, "0a08d0701f355060ea9f3404aeb5e5707049dc2baa115ba6434e2895a942cef7"), looks := false }, kinds := [], alts := [], laidByText := true, laidKinds := [.data, .pinned], laidTests := true, laidLooks := .later }
def UniValidsCardSaid : Prop := Claim7.holds Tryd.pinned (.plain (OpenSpec.ofChange uniValidsSpec)) uniValidsCard

/-- THE TIED CARD OF 'platenlaw1.UniRunes'. -/
def uniRunesCard : Claim7 := { stood := { row := uniRunesRow, standIns := [], harness := (true, "0a08d0701f355060ea9f3404aeb5e5707049dc2baa115ba6434e2895a942cef7"), looks := false }, kinds := [], alts := [], laidByText := true, laidKinds := [.data, .pinned], laidTests := true, laidLooks := .later }
def UniRunesCardSaid : Prop := Claim7.holds Tryd.pinned (.plain (OpenSpec.ofChange uniRunesSpec)) uniRunesCard

/-- THE TIED CARD OF 'platenlaw1.UniWidths'. -/
def uniWidthsCard : Claim7 := { stood := { row := uniWidthsRow, standIns := [], harness := (true, "0a08d0701f355060ea9f3404aeb5e5707049dc2baa115ba6434e2895a942cef7"), looks := false }, kinds := [], alts := [], laidByText := true, laidKinds := [.data, .pinned], laidTests := true, laidLooks := .later }
def UniWidthsCardSaid : Prop := Claim7.holds Tryd.pinned (.plain (OpenSpec.ofChange uniWidthsSpec)) uniWidthsCard

/-- THE TIED CARD OF 'platenlaw1.UniKinds'. -/
def uniKindsCard : Claim7 := { stood := { row := uniKindsRow, standIns := [], harness := (true, "0a08d0701f355060ea9f3404aeb5e5707049dc2baa115ba6434e2895a942cef7"), looks := false }, kinds := [], alts := [], laidByText := true, laidKinds := [.data, .pinned], laidTests := true, laidLooks := .later }
def UniKindsCardSaid : Prop := Claim7.holds Tryd.pinned (.plain (OpenSpec.ofChange uniKindsSpec)) uniKindsCard

/-- THE TIED CARD OF 'platenlaw1.UniJoins'. -/
def uniJoinsCard : Claim7 := { stood := { row := uniJoinsRow, standIns := [], harness := (true, "0a08d0701f355060ea9f3404aeb5e5707049dc2baa115ba6434e2895a942cef7"), looks := false }, kinds := [], alts := [], laidByText := true, laidKinds := [.data, .pinned], laidTests := true, laidLooks := .later }
def UniJoinsCardSaid : Prop := Claim7.holds Tryd.pinned (.plain (OpenSpec.ofChange uniJoinsSpec)) uniJoinsCard

/-- THE TIED CARD OF 'platenlaw1.UniRanges'. -/
def uniRangesCard : Claim7 := { stood := { row := uniRangesRow, standIns := [], harness := (true, "0a08d0701f355060ea9f3404aeb5e5707049dc2baa115ba6434e2895a942cef7"), looks := false }, kinds := [], alts := [], laidByText := true, laidKinds := [.data, .pinned], laidTests := true, laidLooks := .later }
def UniRangesCardSaid : Prop := Claim7.holds Tryd.pinned (.plain (OpenSpec.ofChange uniRangesSpec)) uniRangesCard

/-- THE TIED CARD OF 'platenlaw1.UniCuts'. -/
def uniCutsCard : Claim7 := { stood := { row := uniCutsRow, standIns := [], harness := (true, "0a08d0701f355060ea9f3404aeb5e5707049dc2baa115ba6434e2895a942cef7"), looks := false }, kinds := [], alts := [], laidByText := true, laidKinds := [.data, .pinned], laidTests := true, laidLooks := .later }
def UniCutsCardSaid : Prop := Claim7.holds Tryd.pinned (.plain (OpenSpec.ofChange uniCutsSpec)) uniCutsCard

/-- THE TIED CARD OF 'platenlaw6.WordNames'. -/
def wordNamesCard : Claim7 := { stood := { row := wordNamesRow, standIns := [], harness := (true, "0a08d0701f355060ea9f3404aeb5e5707049dc2baa115ba6434e2895a942cef7"), looks := false }, kinds := [], alts := [], laidByText := true, laidKinds := [.data, .pinned], laidTests := true, laidLooks := .later }
def WordNamesCardSaid : Prop := Claim7.holds Tryd.pinned (.plain (OpenSpec.ofChange wordNamesSpec)) wordNamesCard

/-- THE SECOND FORM's CARD OF 'platenlaw1.UniValids'. -/
def uniValidsUptoCard : Claim7 := { stood := { row := uniValidsUptoRow, standIns := [], harness := (true, "0a08d0701f355060ea9f3404aeb5e5707049dc2baa115ba6434e2895a942cef7"), looks := false }, kinds := [], alts := [], laidByText := true, laidKinds := [.data, .pinned], laidTests := true, laidLooks := .later }
def UniValidsUptoCardSaid : Prop := Claim7.holds Tryd.pinned (.plain (OpenSpec.upto uniValidsSpec)) uniValidsUptoCard

/-- THE SECOND FORM's CARD OF 'platenlaw1.UniRunes'. -/
def uniRunesUptoCard : Claim7 := { stood := { row := uniRunesUptoRow, standIns := [], harness := (true, "0a08d0701f355060ea9f3404aeb5e5707049dc2baa115ba6434e2895a942cef7"), looks := false }, kinds := [], alts := [], laidByText := true, laidKinds := [.data, .pinned], laidTests := true, laidLooks := .later }
def UniRunesUptoCardSaid : Prop := Claim7.holds Tryd.pinned (.plain (OpenSpec.upto uniRunesSpec)) uniRunesUptoCard

/-- THE SECOND FORM's CARD OF 'platenlaw1.UniWidths'. -/
def uniWidthsUptoCard : Claim7 := { stood := { row := uniWidthsUptoRow, standIns := [], harness := (true, "0a08d0701f355060ea9f3404aeb5e5707049dc2baa115ba6434e2895a942cef7"), looks := false }, kinds := [], alts := [], laidByText := true, laidKinds := [.data, .pinned], laidTests := true, laidLooks := .later }
def UniWidthsUptoCardSaid : Prop := Claim7.holds Tryd.pinned (.plain (OpenSpec.upto uniWidthsSpec)) uniWidthsUptoCard

/-- THE SECOND FORM's CARD OF 'platenlaw1.UniKinds'. -/
def uniKindsUptoCard : Claim7 := { stood := { row := uniKindsUptoRow, standIns := [], harness := (true, "0a08d0701f355060ea9f3404aeb5e5707049dc2baa115ba6434e2895a942cef7"), looks := false }, kinds := [], alts := [], laidByText := true, laidKinds := [.data, .pinned], laidTests := true, laidLooks := .later }
def UniKindsUptoCardSaid : Prop := Claim7.holds Tryd.pinned (.plain (OpenSpec.upto uniKindsSpec)) uniKindsUptoCard

/-- THE SECOND FORM's CARD OF 'platenlaw1.UniJoins'. -/
def uniJoinsUptoCard : Claim7 := { stood := { row := uniJoinsUptoRow, standIns := [], harness := (true, "0a08d0701f355060ea9f3404aeb5e5707049dc2baa115ba6434e2895a942cef7"), looks := false }, kinds := [], alts := [], laidByText := true, laidKinds := [.data, .pinned], laidTests := true, laidLooks := .later }
def UniJoinsUptoCardSaid : Prop := Claim7.holds Tryd.pinned (.plain (OpenSpec.upto uniJoinsSpec)) uniJoinsUptoCard

/-- THE SECOND FORM's CARD OF 'platenlaw1.UniRanges'. -/
def uniRangesUptoCard : Claim7 := { stood := { row := uniRangesUptoRow, standIns := [], harness := (true, "0a08d0701f355060ea9f3404aeb5e5707049dc2baa115ba6434e2895a942cef7"), looks := false }, kinds := [], alts := [], laidByText := true, laidKinds := [.data, .pinned], laidTests := true, laidLooks := .later }
def UniRangesUptoCardSaid : Prop := Claim7.holds Tryd.pinned (.plain (OpenSpec.upto uniRangesSpec)) uniRangesUptoCard

/-- THE SECOND FORM's CARD OF 'platenlaw1.UniCuts'. -/
def uniCutsUptoCard : Claim7 := { stood := { row := uniCutsUptoRow, standIns := [], harness := (true, "0a08d0701f355060ea9f3404aeb5e5707049dc2baa115ba6434e2895a942cef7"), looks := false }, kinds := [], alts := [], laidByText := true, laidKinds := [.data, .pinned], laidTests := true, laidLooks := .later }
def UniCutsUptoCardSaid : Prop := Claim7.holds Tryd.pinned (.plain (OpenSpec.upto uniCutsSpec)) uniCutsUptoCard

/-- THE SECOND FORM's CARD OF 'platenlaw6.WordNames'. -/
def wordNamesUptoCard : Claim7 := { stood := { row := wordNamesUptoRow, standIns := [], harness := (true, "0a08d0701f355060ea9f3404aeb5e5707049dc2baa115ba6434e2895a942cef7"), looks := false }, kinds := [], alts := [], laidByText := true, laidKinds := [.data, .pinned], laidTests := true, laidLooks := .later }
def WordNamesUptoCardSaid : Prop := Claim7.holds Tryd.pinned (.plain (OpenSpec.upto wordNamesSpec)) wordNamesUptoCard
end Rows
end Go.Proofs.YtidekaeccillhaaDoor
