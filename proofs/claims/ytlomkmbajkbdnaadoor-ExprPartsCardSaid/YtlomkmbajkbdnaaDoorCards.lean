/-
  DERIVED. GIVEN WITH THE SEED: THE CARDS: each row of YtlomkmbajkbdnaaDoorRows.lean that lists a variable, with what it lists TIED to the program's text (the seventh form; the later family's looks); each row that meets fmt, with fmt's text TOLD by the authors' own Lean function (tested against real Go, not proved from fmt's source: count such statements apart). THE CARD IS WHAT COUNTS. Prove the row's statement (the work); the ties are given (YtlomkmbajkbdnaaDoorTie.lean); close each card by the builder's one call (the guide's Derived/Test/ToyasCard.lean, 'card_holds'). Laid BY PROGRAM, IN A SANDBOX (cutbox-door.mjs). By AI agents, Wed Nov 11 2026. No macro, syntax, notation, axiom, sorry.
-/
import Derived.Test.YtlomkmbajkbdnaaDoorRows
import GoSem.ClaimSeven
namespace Go.Proofs.YtlomkmbajkbdnaaDoor
namespace Rows

/-- THE TIED CARD OF 'norialaw04.IdentPaths'. -/
def identPathsCard : Claim7 := { stood := { row := identPathsRow, standIns := [], harness := (true, "776c84fad4c55601f4eb35f50124cebdd2473bbe7c80b05209073652c9ce5cac"), looks := false }, kinds := [], alts := [], laidByText := true, laidKinds := [.data, .pinned], laidTests := true, laidLooks := .later }
def IdentPathsCardSaid : Prop := Claim7.holds Tryd.pinned (.plain (OpenSpec.ofChange identPathsSpec)) identPathsCard

/-- THE TIED CARD OF 'norialaw09.ExprRight'. -/
def exprRightCard : Claim7 := { stood := { row := exprRightRow, standIns := [], harness := (true, "776c84fad4c55601f4eb35f50124cebdd2473bbe7c80b05209073652c9ce5cac"), looks := false }, kinds := [], alts := [], laidByText := true, laidKinds := [.data, .pinned], laidTests := true, laidLooks := .later }
def ExprRightCardSaid : Prop := Claim7.holds Tryd.pinned (.plain (OpenSpec.ofChange exprRightSpec)) exprRightCard

/-- THE TIED CARD OF 'norialaw09.ExprParts'. -/
def exprPartsCard : Claim7 := { stood := { row := exprPartsRow, standIns := [], harness := (true, "776c84fad4c55601f4eb35f50124cebdd2473bbe7c80b05209073652c9ce5cac"), looks := false }, kinds := [], alts := [], laidByText := true, laidKinds := [.data, .pinned], laidTests := true, laidLooks := .later }
def ExprPartsCardSaid : Prop := Claim7.holds Tryd.pinned (.plain (OpenSpec.ofChange exprPartsSpec)) exprPartsCard

/-- THE TIED CARD OF 'norialaw09.ExprEach'. -/
def exprEachCard : Claim7 := { stood := { row := exprEachRow, standIns := [], harness := (true, "776c84fad4c55601f4eb35f50124cebdd2473bbe7c80b05209073652c9ce5cac"), looks := false }, kinds := [], alts := [], laidByText := true, laidKinds := [.data, .pinned], laidTests := true, laidLooks := .later }
def ExprEachCardSaid : Prop := Claim7.holds Tryd.pinned (.plain (OpenSpec.ofChange exprEachSpec)) exprEachCard

/-- THE TIED CARD OF 'norialaw09.ExprSame'. -/
def exprSameCard : Claim7 := { stood := { row := exprSameRow, standIns := [], harness := (true, "776c84fad4c55601f4eb35f50124cebdd2473bbe7c80b05209073652c9ce5cac"), looks := false }, kinds := [], alts := [], laidByText := true, laidKinds := [.data, .pinned], laidTests := true, laidLooks := .later }
def ExprSameCardSaid : Prop := Claim7.holds Tryd.pinned (.plain (OpenSpec.ofChange exprSameSpec)) exprSameCard

/-- THE TIED CARD OF 'norialaw15.ScopeArms'. -/
def scopeArmsCard : Claim7 := { stood := { row := scopeArmsRow, standIns := [], harness := (true, "776c84fad4c55601f4eb35f50124cebdd2473bbe7c80b05209073652c9ce5cac"), looks := false }, kinds := [], alts := [], laidByText := true, laidKinds := [.data, .pinned], laidTests := true, laidLooks := .later }
def ScopeArmsCardSaid : Prop := Claim7.holds Tryd.pinned (.plain (OpenSpec.ofChange scopeArmsSpec)) scopeArmsCard

/-- THE SECOND FORM's CARD OF 'norialaw04.IdentPaths'. -/
def identPathsUptoCard : Claim7 := { stood := { row := identPathsUptoRow, standIns := [], harness := (true, "776c84fad4c55601f4eb35f50124cebdd2473bbe7c80b05209073652c9ce5cac"), looks := false }, kinds := [], alts := [], laidByText := true, laidKinds := [.data, .pinned], laidTests := true, laidLooks := .later }
def IdentPathsUptoCardSaid : Prop := Claim7.holds Tryd.pinned (.plain (OpenSpec.upto identPathsSpec)) identPathsUptoCard

/-- THE SECOND FORM's CARD OF 'norialaw09.ExprRight'. -/
def exprRightUptoCard : Claim7 := { stood := { row := exprRightUptoRow, standIns := [], harness := (true, "776c84fad4c55601f4eb35f50124cebdd2473bbe7c80b05209073652c9ce5cac"), looks := false }, kinds := [], alts := [], laidByText := true, laidKinds := [.data, .pinned], laidTests := true, laidLooks := .later }
def ExprRightUptoCardSaid : Prop := Claim7.holds Tryd.pinned (.plain (OpenSpec.upto exprRightSpec)) exprRightUptoCard

/-- THE SECOND FORM's CARD OF 'norialaw09.ExprParts'. -/
def exprPartsUptoCard : Claim7 := { stood := { row := exprPartsUptoRow, standIns := [], harness := (true, "776c84fad4c55601f4eb35f50124cebdd2473bbe7c80b05209073652c9ce5cac"), looks := false }, kinds := [], alts := [], laidByText := true, laidKinds := [.data, .pinned], laidTests := true, laidLooks := .later }
def ExprPartsUptoCardSaid : Prop := Claim7.holds Tryd.pinned (.plain (OpenSpec.upto exprPartsSpec)) exprPartsUptoCard

/-- THE SECOND FORM's CARD OF 'norialaw09.ExprEach'. -/
def exprEachUptoCard : Claim7 := { stood := { row := exprEachUptoRow, standIns := [], harness := (true, "776c84fad4c55601f4eb35f50124cebdd2473bbe7c80b05209073652c9ce5cac"), looks := false }, kinds := [], alts := [], laidByText := true, laidKinds := [.data, .pinned], laidTests := true, laidLooks := .later }
def ExprEachUptoCardSaid : Prop := Claim7.holds Tryd.pinned (.plain (OpenSpec.upto exprEachSpec)) exprEachUptoCard

/-- THE SECOND FORM's CARD OF 'norialaw09.ExprSame'. -/
def exprSameUptoCard : Claim7 := { stood := { row := exprSameUptoRow, standIns := [], harness := (true, "776c84fad4c55601f4eb35f50124cebdd2473bbe7c80b05209073652c9ce5cac"), looks := false }, kinds := [], alts := [], laidByText := true, laidKinds := [.data, .pinned], laidTests := true, laidLooks := .later }
def ExprSameUptoCardSaid : Prop := Claim7.holds Tryd.pinned (.plain (OpenSpec.upto exprSameSpec)) exprSameUptoCard

/-- THE SECOND FORM's CARD OF 'norialaw15.ScopeArms'. -/
def scopeArmsUptoCard : Claim7 := { stood := { row := scopeArmsUptoRow, standIns := [], harness := (true, "776c84fad4c55601f4eb35f50124cebdd2473bbe7c80b05209073652c9ce5cac"), looks := false }, kinds := [], alts := [], laidByText := true, laidKinds := [.data, .pinned], laidTests := true, laidLooks := .later }
def ScopeArmsUptoCardSaid : Prop := Claim7.holds Tryd.pinned (.plain (OpenSpec.upto scopeArmsSpec)) scopeArmsUptoCard
end Rows
end Go.Proofs.YtlomkmbajkbdnaaDoor
