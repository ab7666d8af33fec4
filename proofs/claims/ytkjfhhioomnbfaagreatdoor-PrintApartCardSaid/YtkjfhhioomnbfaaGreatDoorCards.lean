/-
  DERIVED. GIVEN WITH THE SEED: THE CARDS: each row of YtkjfhhioomnbfaaGreatDoorRows.lean that lists a variable, with what it lists TIED to the program's text (the seventh form; the later family's looks); each row that meets fmt, with fmt's text TOLD by the authors' own Lean function (tested against real Go, not proved from fmt's source: count such statements apart). THE CARD IS WHAT COUNTS. Prove the row's statement (the work); the ties are given (YtkjfhhioomnbfaaGreatDoorTie.lean); close each card by the builder's one call (the guide's Derived/Test/ToyasCard.lean, 'card_holds'). Laid BY PROGRAM, IN A SANDBOX (cutbox-door.mjs). By AI agents, Wed Nov 11 2026. No macro, syntax, notation, axiom, sorry.
-/
import Derived.Test.YtkjfhhioomnbfaaGreatDoorRows
import GoSem.ClaimSeven
namespace Go.Proofs.YtkjfhhioomnbfaaGreatDoor
namespace Rows

/-- THE TIED CARD OF 'norialaw13.PrintTexts'. -/
def printTextsCard : Claim7 := { stood := { row := printTextsRow, standIns := [], harness := (true, "7acfa4909183a553b67e0c404a76e2526b1b8b1240d786e39d1f89e92a3e8ed6"), looks := false }, kinds := [], alts := [], laidByText := true, laidKinds := [.data, .data, .data, .data, .pinned], laidTests := true, laidLooks := .later }
def PrintTextsCardSaid : Prop := Claim7.holds Tryz.pinned (.plain (OpenSpec.ofChange printTextsSpec)) printTextsCard

/-- THE TIED CARD OF 'norialaw13.PrintApart'. -/
def printApartCard : Claim7 := { stood := { row := printApartRow, standIns := [], harness := (true, "7acfa4909183a553b67e0c404a76e2526b1b8b1240d786e39d1f89e92a3e8ed6"), looks := false }, kinds := [], alts := [], laidByText := true, laidKinds := [.data, .data, .data, .data, .pinned], laidTests := true, laidLooks := .later }
def PrintApartCardSaid : Prop := Claim7.holds Tryz.pinned (.plain (OpenSpec.ofChange printApartSpec)) printApartCard

/-- THE TIED CARD OF 'norialaw13.PrintNodes'. -/
def printNodesCard : Claim7 := { stood := { row := printNodesRow, standIns := [], harness := (true, "7acfa4909183a553b67e0c404a76e2526b1b8b1240d786e39d1f89e92a3e8ed6"), looks := false }, kinds := [], alts := [], laidByText := true, laidKinds := [.data, .data, .data, .data, .pinned], laidTests := true, laidLooks := .later }
def PrintNodesCardSaid : Prop := Claim7.holds Tryz.pinned (.plain (OpenSpec.ofChange printNodesSpec)) printNodesCard

/-- THE SECOND FORM's CARD OF 'norialaw13.PrintTexts'. -/
def printTextsUptoCard : Claim7 := { stood := { row := printTextsUptoRow, standIns := [], harness := (true, "7acfa4909183a553b67e0c404a76e2526b1b8b1240d786e39d1f89e92a3e8ed6"), looks := false }, kinds := [], alts := [], laidByText := true, laidKinds := [.data, .data, .data, .data, .pinned], laidTests := true, laidLooks := .later }
def PrintTextsUptoCardSaid : Prop := Claim7.holds Tryz.pinned (.plain (OpenSpec.upto printTextsSpec)) printTextsUptoCard

/-- THE SECOND FORM's CARD OF 'norialaw13.PrintApart'. -/
def printApartUptoCard : Claim7 := { stood := { row := printApartUptoRow, standIns := [], harness := (true, "7acfa4909183a553b67e0c404a76e2526b1b8b1240d786e39d1f89e92a3e8ed6"), looks := false }, kinds := [], alts := [], laidByText := true, laidKinds := [.data, .data, .data, .data, .pinned], laidTests := true, laidLooks := .later }
def PrintApartUptoCardSaid : Prop := Claim7.holds Tryz.pinned (.plain (OpenSpec.upto printApartSpec)) printApartUptoCard

/-- THE SECOND FORM's CARD OF 'norialaw13.PrintNodes'. -/
def printNodesUptoCard : Claim7 := { stood := { row := printNodesUptoRow, standIns := [], harness := (true, "7acfa4909183a553b67e0c404a76e2526b1b8b1240d786e39d1f89e92a3e8ed6"), looks := false }, kinds := [], alts := [], laidByText := true, laidKinds := [.data, .data, .data, .data, .pinned], laidTests := true, laidLooks := .later }
def PrintNodesUptoCardSaid : Prop := Claim7.holds Tryz.pinned (.plain (OpenSpec.upto printNodesSpec)) printNodesUptoCard
end Rows
end Go.Proofs.YtkjfhhioomnbfaaGreatDoor
