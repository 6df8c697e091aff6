/-
  No cell of these rows narrows 'for every input' (looked for: loops, veiled, ifaces, maps, wideKeys, modest, calm, conditions, laid).
  DERIVED. THE GIVEN ROWS OF THIS SEAT. 6 by the template 'for every input the law returns true; each argument reads behind the call as it read before'; 0 by the template 'total and deterministic' (their statements: YtakolehlaejhfaaTotals.lean).
  GIVEN WITH THE SEED: the statements are not yours to turn. If you find one false, say at which input.
  Laid BY PROGRAM, IN A SANDBOX (cutbox-rows.mjs): the forced cells as the released guide's own fill.sh prints them over the translation e7d8a300f524be55… (all of the seat's roots in one cut). By AI agents, Wed Nov 11 2026. No macro, syntax, notation, axiom, sorry.
-/
import Derived.Test.YtakolehlaejhfaaChecked
import GoSem.Claim
import GoSem.ClaimJoined
import GoSem.ClaimMapViews
import Derived.JoinedTies
import Derived.KernelRfl
namespace Go.Proofs.Ytakolehlaejhfaa
/- THE CELL 'sum', in the pinned program and in every row, IS THE sha256 OF THE DUMP (.gsa) THAT YtakolehlaejhfaaProg.lean LOADS. Nothing in Lean hashes anything: it is a label: what it is worth is what the hold of that sum in a sandbox is worth. -/
noncomputable def Try.pinned : Pinned := { name := "ytakolehlaejhfaa", sum := "e7d8a300f524be55317048b0b301ba4e2b42507bbdb1729641ff5ea960b44b60", checked := Try.checked }
namespace Rows
def none {H : Type} : Left H := { results := [], args := [] }

/-- 'platenlaw24.EditsScripts': WHATEVER THE INPUT: true; the input reads as it did. -/
def editsScriptsSpec : ChangeSpec := { name := "editsScripts", fn := fun _ => fun
  | [d1, d2] => { results := [.lit (.bool true)], args := [d1, d2] }
  | _ => none }
def editsScriptsRow : OpenClaim := { program := "ytakolehlaejhfaa", sum := "e7d8a300f524be55317048b0b301ba4e2b42507bbdb1729641ff5ea960b44b60", func := "platen/platenlaw24.EditsScripts", spec := "editsScripts", inPlace := ["internal/bytealg.IndexByteString", "internal/abi.NoEscape"], unfollowed := true, recurses := true, apart := false }
def EditsScriptsSaid : Prop := editsScriptsRow.holds Try.pinned (OpenSpec.ofChange editsScriptsSpec)

/-- ITS FALSE NEIGHBOUR: 'it returns false'. Refute it at one input. -/
def editsScriptsWrong : ChangeSpec := { name := "editsScripts", fn := fun _ => fun
  | [d1, d2] => { results := [.lit (.bool false)], args := [d1, d2] }
  | _ => none }
def EditsScriptsWrongFalsely : Prop := editsScriptsRow.holds Try.pinned (OpenSpec.ofChange editsScriptsWrong)

/-- 'platenlaw24.EditsApplies': WHATEVER THE INPUT: true; the input reads as it did. -/
def editsAppliesSpec : ChangeSpec := { name := "editsApplies", fn := fun _ => fun
  | [d1, d2] => { results := [.lit (.bool true)], args := [d1, d2] }
  | _ => none }
def editsAppliesRow : OpenClaim := { program := "ytakolehlaejhfaa", sum := "e7d8a300f524be55317048b0b301ba4e2b42507bbdb1729641ff5ea960b44b60", func := "platen/platenlaw24.EditsApplies", spec := "editsApplies", inPlace := ["internal/bytealg.IndexByteString", "internal/abi.NoEscape"], unfollowed := true, recurses := true, apart := false }
def EditsAppliesSaid : Prop := editsAppliesRow.holds Try.pinned (OpenSpec.ofChange editsAppliesSpec)

/-- ITS FALSE NEIGHBOUR: 'it returns false'. Refute it at one input. -/
def editsAppliesWrong : ChangeSpec := { name := "editsApplies", fn := fun _ => fun
  | [d1, d2] => { results := [.lit (.bool false)], args := [d1, d2] }
  | _ => none }
def EditsAppliesWrongFalsely : Prop := editsAppliesRow.holds Try.pinned (OpenSpec.ofChange editsAppliesWrong)

/-- 'platenlaw24.EditsBack': WHATEVER THE INPUT: true; the input reads as it did. -/
def editsBackSpec : ChangeSpec := { name := "editsBack", fn := fun _ => fun
  | [d1, d2] => { results := [.lit (.bool true)], args := [d1, d2] }
  | _ => none }
def editsBackRow : OpenClaim := { program := "ytakolehlaejhfaa", sum := "e7d8a300f524be55317048b0b301ba4e2b42507bbdb1729641ff5ea960b44b60", func := "platen/platenlaw24.EditsBack", spec := "editsBack", inPlace := ["internal/bytealg.IndexByteString", "internal/abi.NoEscape"], unfollowed := true, recurses := true, apart := false }
def EditsBackSaid : Prop := editsBackRow.holds Try.pinned (OpenSpec.ofChange editsBackSpec)

/-- ITS FALSE NEIGHBOUR: 'it returns false'. Refute it at one input. -/
def editsBackWrong : ChangeSpec := { name := "editsBack", fn := fun _ => fun
  | [d1, d2] => { results := [.lit (.bool false)], args := [d1, d2] }
  | _ => none }
def EditsBackWrongFalsely : Prop := editsBackRow.holds Try.pinned (OpenSpec.ofChange editsBackWrong)

/-- 'platenlaw24.EditsOne': WHATEVER THE INPUT: true; the input reads as it did. -/
def editsOneSpec : ChangeSpec := { name := "editsOne", fn := fun _ => fun
  | [d1, d2, d3] => { results := [.lit (.bool true)], args := [d1, d2, d3] }
  | _ => none }
def editsOneRow : OpenClaim := { program := "ytakolehlaejhfaa", sum := "e7d8a300f524be55317048b0b301ba4e2b42507bbdb1729641ff5ea960b44b60", func := "platen/platenlaw24.EditsOne", spec := "editsOne", inPlace := ["internal/bytealg.IndexByteString", "internal/abi.NoEscape"], unfollowed := true, recurses := true, apart := false }
def EditsOneSaid : Prop := editsOneRow.holds Try.pinned (OpenSpec.ofChange editsOneSpec)

/-- ITS FALSE NEIGHBOUR: 'it returns false'. Refute it at one input. -/
def editsOneWrong : ChangeSpec := { name := "editsOne", fn := fun _ => fun
  | [d1, d2, d3] => { results := [.lit (.bool false)], args := [d1, d2, d3] }
  | _ => none }
def EditsOneWrongFalsely : Prop := editsOneRow.holds Try.pinned (OpenSpec.ofChange editsOneWrong)

/-- 'platenlaw24.EditsLongest': WHATEVER THE INPUT: true; the input reads as it did. -/
def editsLongestSpec : ChangeSpec := { name := "editsLongest", fn := fun _ => fun
  | [d1, d2] => { results := [.lit (.bool true)], args := [d1, d2] }
  | _ => none }
def editsLongestRow : OpenClaim := { program := "ytakolehlaejhfaa", sum := "e7d8a300f524be55317048b0b301ba4e2b42507bbdb1729641ff5ea960b44b60", func := "platen/platenlaw24.EditsLongest", spec := "editsLongest", inPlace := ["internal/bytealg.IndexByteString", "internal/abi.NoEscape"], unfollowed := true, recurses := true, apart := false }
def EditsLongestSaid : Prop := editsLongestRow.holds Try.pinned (OpenSpec.ofChange editsLongestSpec)

/-- ITS FALSE NEIGHBOUR: 'it returns false'. Refute it at one input. -/
def editsLongestWrong : ChangeSpec := { name := "editsLongest", fn := fun _ => fun
  | [d1, d2] => { results := [.lit (.bool false)], args := [d1, d2] }
  | _ => none }
def EditsLongestWrongFalsely : Prop := editsLongestRow.holds Try.pinned (OpenSpec.ofChange editsLongestWrong)

/-- 'platenlaw24.EditsAll': WHATEVER THE INPUT: true; the input reads as it did. -/
def editsAllSpec : ChangeSpec := { name := "editsAll", fn := fun _ => fun
  | [d1, d2, d3, d4] => { results := [.lit (.bool true)], args := [d1, d2, d3, d4] }
  | _ => none }
def editsAllRow : OpenClaim := { program := "ytakolehlaejhfaa", sum := "e7d8a300f524be55317048b0b301ba4e2b42507bbdb1729641ff5ea960b44b60", func := "platen/platenlaw24.EditsAll", spec := "editsAll", inPlace := ["internal/bytealg.IndexByteString", "internal/abi.NoEscape"], unfollowed := true, recurses := true, apart := false }
def EditsAllSaid : Prop := editsAllRow.holds Try.pinned (OpenSpec.ofChange editsAllSpec)

/-- ITS FALSE NEIGHBOUR: 'it returns false'. Refute it at one input. -/
def editsAllWrong : ChangeSpec := { name := "editsAll", fn := fun _ => fun
  | [d1, d2, d3, d4] => { results := [.lit (.bool false)], args := [d1, d2, d3, d4] }
  | _ => none }
def EditsAllWrongFalsely : Prop := editsAllRow.holds Try.pinned (OpenSpec.ofChange editsAllWrong)

/- THE SECOND FORM. 'bulk': how many values and letters a reading holds, each counted each time it is reached (what is shared counts as often as it is met; a slice's spare places count too). A statement '..UptoSaid' is the law's where the arguments, and the package variables that the reading takes, are together of bulk at most 1048576: NARROWER than '..Said'. Prove '..Said' where nothing that the law and all that it calls make is longer than what came in: it says more and counts as full. Else prove '..UptoSaid'. A law counts once. -/
mutual
def uptoBulk {H : Type} : DataW H → Nat
  | .lit (.string bytes) => bytes.length + 1
  | .lit _ => 1
  | .nil => 1
  | .ptr d => uptoBulk d + 1
  | .slice elems spare => uptoBulkAll elems + uptoBulkAll spare + 1
  | .agg parts => uptoBulkAll parts + 1
  | .iface _ d => uptoBulk d + 1
  | .map entries => uptoBulkEntries entries + 1
  | .held _ => 1
def uptoBulkAll {H : Type} : List (DataW H) → Nat
  | [] => 0
  | d :: r => uptoBulk d + uptoBulkAll r
def uptoBulkEntries {H : Type} : List (Lit × DataW H) → Nat
  | [] => 0
  | x :: r => uptoBulkEntry x + uptoBulkEntries r
def uptoBulkEntry {H : Type} : Lit × DataW H → Nat
  | (.string bytes, d) => bytes.length + uptoBulk d + 1
  | (_, d) => uptoBulk d + 1
 end
def uptoSmall : (H : Type) → List (DataW H) → Bool := fun _ ds => decide (uptoBulkAll ds ≤ 1048576)
def OpenSpec.upto (s : _root_.Go.ChangeSpec) : _root_.Go.OpenSpec := { _root_.Go.OpenSpec.ofChange s with cond := some uptoSmall }

/-- 'platenlaw24.EditsScripts', WHERE WHAT IT READS IS OF BULK AT MOST 1048576: true; the input reads as it did. -/
def editsScriptsUptoRow : OpenClaim := { program := "ytakolehlaejhfaa", sum := "e7d8a300f524be55317048b0b301ba4e2b42507bbdb1729641ff5ea960b44b60", func := "platen/platenlaw24.EditsScripts", spec := "editsScripts", inPlace := ["internal/bytealg.IndexByteString", "internal/abi.NoEscape"], unfollowed := true, recurses := true, apart := false, narrowed := true }
def EditsScriptsUptoSaid : Prop := editsScriptsUptoRow.holds Try.pinned (OpenSpec.upto editsScriptsSpec)

/-- 'platenlaw24.EditsApplies', WHERE WHAT IT READS IS OF BULK AT MOST 1048576: true; the input reads as it did. -/
def editsAppliesUptoRow : OpenClaim := { program := "ytakolehlaejhfaa", sum := "e7d8a300f524be55317048b0b301ba4e2b42507bbdb1729641ff5ea960b44b60", func := "platen/platenlaw24.EditsApplies", spec := "editsApplies", inPlace := ["internal/bytealg.IndexByteString", "internal/abi.NoEscape"], unfollowed := true, recurses := true, apart := false, narrowed := true }
def EditsAppliesUptoSaid : Prop := editsAppliesUptoRow.holds Try.pinned (OpenSpec.upto editsAppliesSpec)

/-- 'platenlaw24.EditsBack', WHERE WHAT IT READS IS OF BULK AT MOST 1048576: true; the input reads as it did. -/
def editsBackUptoRow : OpenClaim := { program := "ytakolehlaejhfaa", sum := "e7d8a300f524be55317048b0b301ba4e2b42507bbdb1729641ff5ea960b44b60", func := "platen/platenlaw24.EditsBack", spec := "editsBack", inPlace := ["internal/bytealg.IndexByteString", "internal/abi.NoEscape"], unfollowed := true, recurses := true, apart := false, narrowed := true }
def EditsBackUptoSaid : Prop := editsBackUptoRow.holds Try.pinned (OpenSpec.upto editsBackSpec)

/-- 'platenlaw24.EditsOne', WHERE WHAT IT READS IS OF BULK AT MOST 1048576: true; the input reads as it did. -/
def editsOneUptoRow : OpenClaim := { program := "ytakolehlaejhfaa", sum := "e7d8a300f524be55317048b0b301ba4e2b42507bbdb1729641ff5ea960b44b60", func := "platen/platenlaw24.EditsOne", spec := "editsOne", inPlace := ["internal/bytealg.IndexByteString", "internal/abi.NoEscape"], unfollowed := true, recurses := true, apart := false, narrowed := true }
def EditsOneUptoSaid : Prop := editsOneUptoRow.holds Try.pinned (OpenSpec.upto editsOneSpec)

/-- 'platenlaw24.EditsLongest', WHERE WHAT IT READS IS OF BULK AT MOST 1048576: true; the input reads as it did. -/
def editsLongestUptoRow : OpenClaim := { program := "ytakolehlaejhfaa", sum := "e7d8a300f524be55317048b0b301ba4e2b42507bbdb1729641ff5ea960b44b60", func := "platen/platenlaw24.EditsLongest", spec := "editsLongest", inPlace := ["internal/bytealg.IndexByteString", "internal/abi.NoEscape"], unfollowed := true, recurses := true, apart := false, narrowed := true }
def EditsLongestUptoSaid : Prop := editsLongestUptoRow.holds Try.pinned (OpenSpec.upto editsLongestSpec)

/-- 'platenlaw24.EditsAll', WHERE WHAT IT READS IS OF BULK AT MOST 1048576: true; the input reads as it did. -/
def editsAllUptoRow : OpenClaim := { program := "ytakolehlaejhfaa", sum := "e7d8a300f524be55317048b0b301ba4e2b42507bbdb1729641ff5ea960b44b60", func := "platen/platenlaw24.EditsAll", spec := "editsAll", inPlace := ["internal/bytealg.IndexByteString", "internal/abi.NoEscape"], unfollowed := true, recurses := true, apart := false, narrowed := true }
def EditsAllUptoSaid : Prop := editsAllUptoRow.holds Try.pinned (OpenSpec.upto editsAllSpec)

end Rows
end Go.Proofs.Ytakolehlaejhfaa
