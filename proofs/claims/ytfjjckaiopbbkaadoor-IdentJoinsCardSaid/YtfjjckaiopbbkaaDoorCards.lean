/-
  DERIVED. GIVEN WITH THE SEED: THE CARDS: each row of YtfjjckaiopbbkaaDoorRows.lean that lists a variable, with what it lists TIED to the program's text (the seventh form; the later family's looks); each row that meets fmt, with fmt's text TOLD by the authors' own Lean function (tested against real Go, not proved from fmt's source: count such statements apart). THE CARD IS WHAT COUNTS. Prove the row's statement (the work); the ties are given (YtfjjckaiopbbkaaDoorTie.lean); close each card by the builder's one call (the guide's Derived/Test/ToyasCard.lean, 'card_holds'). Laid BY PROGRAM, IN A SANDBOX (cutbox-door.mjs). By AI agents, Wed Nov 11 2026. No macro, syntax, notation, axiom, sorry.
-/
import Derived.Test.YtfjjckaiopbbkaaDoorRows
import GoSem.ClaimSeven
namespace Go.Proofs.YtfjjckaiopbbkaaDoor
namespace Rows

/-- THE TIED CARD OF 'norialaw04.IdentTells'. -/
def identTellsCard : Claim7 := { stood := { row := identTellsRow, standIns := [], harness := (true, "db81f3b2980007b362e53bc8e71a77af9e377ee8af8758fd0a5c3e841eb4a8c3"), looks := false }, kinds := [], alts := [], laidByText := true, laidKinds := [.data, .pinned], laidTests := true, laidLooks := .later }
def IdentTellsCardSaid : Prop := Claim7.holds Tryd.pinned (.plain (OpenSpec.ofChange identTellsSpec)) identTellsCard

/-- THE TIED CARD OF 'norialaw04.IdentJoins'. -/
def identJoinsCard : Claim7 := { stood := { row := identJoinsRow, standIns := [], harness := (true, "db81f3b2980007b362e53bc8e71a77af9e377ee8af8758fd0a5c3e841eb4a8c3"), looks := false }, kinds := [], alts := [], laidByText := true, laidKinds := [.data, .pinned], laidTests := true, laidLooks := .later }
def IdentJoinsCardSaid : Prop := Claim7.holds Tryd.pinned (.plain (OpenSpec.ofChange identJoinsSpec)) identJoinsCard

/-- THE SECOND FORM's CARD OF 'norialaw04.IdentTells'. -/
def identTellsUptoCard : Claim7 := { stood := { row := identTellsUptoRow, standIns := [], harness := (true, "db81f3b2980007b362e53bc8e71a77af9e377ee8af8758fd0a5c3e841eb4a8c3"), looks := false }, kinds := [], alts := [], laidByText := true, laidKinds := [.data, .pinned], laidTests := true, laidLooks := .later }
def IdentTellsUptoCardSaid : Prop := Claim7.holds Tryd.pinned (.plain (OpenSpec.upto identTellsSpec)) identTellsUptoCard

/-- THE SECOND FORM's CARD OF 'norialaw04.IdentJoins'. -/
def identJoinsUptoCard : Claim7 := { stood := { row := identJoinsUptoRow, standIns := [], harness := (true, "db81f3b2980007b362e53bc8e71a77af9e377ee8af8758fd0a5c3e841eb4a8c3"), looks := false }, kinds := [], alts := [], laidByText := true, laidKinds := [.data, .pinned], laidTests := true, laidLooks := .later }
def IdentJoinsUptoCardSaid : Prop := Claim7.holds Tryd.pinned (.plain (OpenSpec.upto identJoinsSpec)) identJoinsUptoCard
end Rows
end Go.Proofs.YtfjjckaiopbbkaaDoor
