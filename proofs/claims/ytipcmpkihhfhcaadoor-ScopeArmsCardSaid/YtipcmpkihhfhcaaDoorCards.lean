/-
  DERIVED. GIVEN WITH THE SEED: THE CARDS: each row of YtipcmpkihhfhcaaDoorRows.lean that lists a variable, with what it lists TIED to the program's text (the seventh form; the later family's looks); each row that meets fmt, with fmt's text TOLD by the authors' own Lean function (tested against real Go, not proved from fmt's source: count such statements apart). THE CARD IS WHAT COUNTS. Prove the row's statement (the work); the ties are given (YtipcmpkihhfhcaaDoorTie.lean); close each card by the builder's one call (the guide's Derived/Test/ToyasCard.lean, 'card_holds'). Laid BY PROGRAM, IN A SANDBOX (cutbox-door.mjs). By AI agents, Wed Nov 11 2026. No macro, syntax, notation, axiom, sorry.
-/
import Derived.Test.YtipcmpkihhfhcaaDoorRows
import GoSem.ClaimSeven
namespace Go.Proofs.YtipcmpkihhfhcaaDoor
namespace Rows

/-- THE TIED CARD OF 'norialaw09.ExprEach'. -/
def exprEachCard : Claim7 := { stood := { row := exprEachRow, standIns := [], harness := (true, "1ccc0d0a0820bc88c63bf6c8c0c294854f72db02f2139a435f5772169579ecc2"), looks := false }, kinds := [], alts := [], laidByText := true, laidKinds := [.data, .pinned], laidTests := true, laidLooks := .later }
def ExprEachCardSaid : Prop := Claim7.holds Tryd.pinned (.plain (OpenSpec.ofChange exprEachSpec)) exprEachCard

/-- THE TIED CARD OF 'norialaw15.ScopeArms'. -/
def scopeArmsCard : Claim7 := { stood := { row := scopeArmsRow, standIns := [], harness := (true, "1ccc0d0a0820bc88c63bf6c8c0c294854f72db02f2139a435f5772169579ecc2"), looks := false }, kinds := [], alts := [], laidByText := true, laidKinds := [.data, .pinned], laidTests := true, laidLooks := .later }
def ScopeArmsCardSaid : Prop := Claim7.holds Tryd.pinned (.plain (OpenSpec.ofChange scopeArmsSpec)) scopeArmsCard

/-- THE SECOND FORM's CARD OF 'norialaw09.ExprEach'. -/
def exprEachUptoCard : Claim7 := { stood := { row := exprEachUptoRow, standIns := [], harness := (true, "1ccc0d0a0820bc88c63bf6c8c0c294854f72db02f2139a435f5772169579ecc2"), looks := false }, kinds := [], alts := [], laidByText := true, laidKinds := [.data, .pinned], laidTests := true, laidLooks := .later }
def ExprEachUptoCardSaid : Prop := Claim7.holds Tryd.pinned (.plain (OpenSpec.upto exprEachSpec)) exprEachUptoCard

/-- THE SECOND FORM's CARD OF 'norialaw15.ScopeArms'. -/
def scopeArmsUptoCard : Claim7 := { stood := { row := scopeArmsUptoRow, standIns := [], harness := (true, "1ccc0d0a0820bc88c63bf6c8c0c294854f72db02f2139a435f5772169579ecc2"), looks := false }, kinds := [], alts := [], laidByText := true, laidKinds := [.data, .pinned], laidTests := true, laidLooks := .later }
def ScopeArmsUptoCardSaid : Prop := Claim7.holds Tryd.pinned (.plain (OpenSpec.upto scopeArmsSpec)) scopeArmsUptoCard
end Rows
end Go.Proofs.YtipcmpkihhfhcaaDoor
