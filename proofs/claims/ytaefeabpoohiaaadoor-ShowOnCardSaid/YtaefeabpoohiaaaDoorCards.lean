/-
  DERIVED. GIVEN WITH THE SEED: THE CARDS: each row of YtaefeabpoohiaaaDoorRows.lean that lists a variable, with what it lists TIED to the program's text (the seventh form; the later family's looks); each row that meets fmt, with fmt's text TOLD by the authors' own Lean function (tested against real Go, not proved from fmt's source: count such statements apart). THE CARD IS WHAT COUNTS. Prove the row's statement (the work); the ties are given (YtaefeabpoohiaaaDoorTie.lean); close each card by the builder's one call (the guide's Derived/Test/ToyasCard.lean, 'card_holds'). Laid BY PROGRAM, IN A SANDBOX (cutbox-door.mjs). By AI agents, Wed Nov 11 2026. No macro, syntax, notation, axiom, sorry.
-/
import Derived.Test.YtaefeabpoohiaaaDoorRows
import GoSem.ClaimSeven
namespace Go.Proofs.YtaefeabpoohiaaaDoor
namespace Rows

/-- THE TIED CARD OF 'norialaw10.ShowOn'. -/
def showOnCard : Claim7 := { stood := { row := showOnRow, standIns := [], harness := (true, "50d381ff9b866d25c867e6907af138881bfc2b505722c8da996179a188606259"), looks := true }, kinds := [], alts := [], laidByText := true, laidKinds := [.data, .data, .data, .data, .pinned], laidTests := true, laidLooks := .later }
def ShowOnCardSaid : Prop := Claim7.holds Tryd.pinned (.plain (OpenSpec.ofChange showOnSpec)) showOnCard

/-- THE TIED CARD OF 'norialaw46.ScriptReplies'. -/
def scriptRepliesCard : Claim7 := { stood := { row := scriptRepliesRow, standIns := [], harness := (true, "50d381ff9b866d25c867e6907af138881bfc2b505722c8da996179a188606259"), looks := true }, kinds := [], alts := [], laidByText := true, laidKinds := [.data, .data, .data, .data, .sentinel, .sentinel, .pinned], laidTests := true, laidLooks := .later }
def ScriptRepliesCardSaid : Prop := Claim7.holds Tryd.pinned (.plain (OpenSpec.ofChange scriptRepliesSpec)) scriptRepliesCard

/-- THE SECOND FORM's CARD OF 'norialaw10.ShowOn'. -/
def showOnUptoCard : Claim7 := { stood := { row := showOnUptoRow, standIns := [], harness := (true, "50d381ff9b866d25c867e6907af138881bfc2b505722c8da996179a188606259"), looks := true }, kinds := [], alts := [], laidByText := true, laidKinds := [.data, .data, .data, .data, .pinned], laidTests := true, laidLooks := .later }
def ShowOnUptoCardSaid : Prop := Claim7.holds Tryd.pinned (.plain (OpenSpec.upto showOnSpec)) showOnUptoCard

/-- THE SECOND FORM's CARD OF 'norialaw46.ScriptReplies'. -/
def scriptRepliesUptoCard : Claim7 := { stood := { row := scriptRepliesUptoRow, standIns := [], harness := (true, "50d381ff9b866d25c867e6907af138881bfc2b505722c8da996179a188606259"), looks := true }, kinds := [], alts := [], laidByText := true, laidKinds := [.data, .data, .data, .data, .sentinel, .sentinel, .pinned], laidTests := true, laidLooks := .later }
def ScriptRepliesUptoCardSaid : Prop := Claim7.holds Tryd.pinned (.plain (OpenSpec.upto scriptRepliesSpec)) scriptRepliesUptoCard
end Rows
end Go.Proofs.YtaefeabpoohiaaaDoor
