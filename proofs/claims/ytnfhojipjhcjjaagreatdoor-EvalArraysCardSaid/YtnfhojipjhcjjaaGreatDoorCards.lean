/-
  DERIVED. GIVEN WITH THE SEED: THE CARDS: each row of YtnfhojipjhcjjaaGreatDoorRows.lean that lists a variable, with what it lists TIED to the program's text (the seventh form; the later family's looks); each row that meets fmt, with fmt's text TOLD by the authors' own Lean function (tested against real Go, not proved from fmt's source: count such statements apart). THE CARD IS WHAT COUNTS. Prove the row's statement (the work); the ties are given (YtnfhojipjhcjjaaGreatDoorTie.lean); close each card by the builder's one call (the guide's Derived/Test/ToyasCard.lean, 'card_holds'). Laid BY PROGRAM, IN A SANDBOX (cutbox-door.mjs). By AI agents, Wed Nov 11 2026. No macro, syntax, notation, axiom, sorry.
-/
import Derived.Test.YtnfhojipjhcjjaaGreatDoorRows
import GoSem.ClaimSeven
namespace Go.Proofs.YtnfhojipjhcjjaaGreatDoor
namespace Rows

/-- THE TIED CARD OF 'enthymemelaw08.EvalNodes'. -/
def evalNodesCard : Claim7 := { stood := { row := evalNodesRow, standIns := [], harness := (true, "90d20748bcfbbe7422727def97e92f7c13041a458a9fe995ca84af1ac902e714"), looks := false }, kinds := [], alts := [], laidByText := true, laidKinds := [.data, .data, .pinned], laidTests := true, laidLooks := .later }
def EvalNodesCardSaid : Prop := Claim7.holds Tryz.pinned (.plain (OpenSpec.ofChange evalNodesSpec)) evalNodesCard

/-- THE TIED CARD OF 'enthymemelaw08.EvalStrings'. -/
def evalStringsCard : Claim7 := { stood := { row := evalStringsRow, standIns := [], harness := (true, "90d20748bcfbbe7422727def97e92f7c13041a458a9fe995ca84af1ac902e714"), looks := false }, kinds := [], alts := [], laidByText := true, laidKinds := [.data, .data, .pinned], laidTests := true, laidLooks := .later }
def EvalStringsCardSaid : Prop := Claim7.holds Tryz.pinned (.plain (OpenSpec.ofChange evalStringsSpec)) evalStringsCard

/-- THE TIED CARD OF 'enthymemelaw08.EvalArrays'. -/
def evalArraysCard : Claim7 := { stood := { row := evalArraysRow, standIns := [], harness := (true, "90d20748bcfbbe7422727def97e92f7c13041a458a9fe995ca84af1ac902e714"), looks := false }, kinds := [], alts := [], laidByText := true, laidKinds := [.data, .data, .pinned], laidTests := true, laidLooks := .later }
def EvalArraysCardSaid : Prop := Claim7.holds Tryz.pinned (.plain (OpenSpec.ofChange evalArraysSpec)) evalArraysCard

/-- THE SECOND FORM's CARD OF 'enthymemelaw08.EvalNodes'. -/
def evalNodesUptoCard : Claim7 := { stood := { row := evalNodesUptoRow, standIns := [], harness := (true, "90d20748bcfbbe7422727def97e92f7c13041a458a9fe995ca84af1ac902e714"), looks := false }, kinds := [], alts := [], laidByText := true, laidKinds := [.data, .data, .pinned], laidTests := true, laidLooks := .later }
def EvalNodesUptoCardSaid : Prop := Claim7.holds Tryz.pinned (.plain (OpenSpec.upto evalNodesSpec)) evalNodesUptoCard

/-- THE SECOND FORM's CARD OF 'enthymemelaw08.EvalStrings'. -/
def evalStringsUptoCard : Claim7 := { stood := { row := evalStringsUptoRow, standIns := [], harness := (true, "90d20748bcfbbe7422727def97e92f7c13041a458a9fe995ca84af1ac902e714"), looks := false }, kinds := [], alts := [], laidByText := true, laidKinds := [.data, .data, .pinned], laidTests := true, laidLooks := .later }
def EvalStringsUptoCardSaid : Prop := Claim7.holds Tryz.pinned (.plain (OpenSpec.upto evalStringsSpec)) evalStringsUptoCard

/-- THE SECOND FORM's CARD OF 'enthymemelaw08.EvalArrays'. -/
def evalArraysUptoCard : Claim7 := { stood := { row := evalArraysUptoRow, standIns := [], harness := (true, "90d20748bcfbbe7422727def97e92f7c13041a458a9fe995ca84af1ac902e714"), looks := false }, kinds := [], alts := [], laidByText := true, laidKinds := [.data, .data, .pinned], laidTests := true, laidLooks := .later }
def EvalArraysUptoCardSaid : Prop := Claim7.holds Tryz.pinned (.plain (OpenSpec.upto evalArraysSpec)) evalArraysUptoCard
end Rows
end Go.Proofs.YtnfhojipjhcjjaaGreatDoor
