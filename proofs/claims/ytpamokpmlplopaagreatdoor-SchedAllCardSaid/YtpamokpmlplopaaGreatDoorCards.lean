/-
  DERIVED. GIVEN WITH THE SEED: THE CARDS: each row of YtpamokpmlplopaaGreatDoorRows.lean that lists a variable, with what it lists TIED to the program's text (the seventh form; the later family's looks); each row that meets fmt, with fmt's text TOLD by the authors' own Lean function (tested against real Go, not proved from fmt's source: count such statements apart). THE CARD IS WHAT COUNTS. Prove the row's statement (the work); the ties are given (YtpamokpmlplopaaGreatDoorTie.lean); close each card by the builder's one call (the guide's Derived/Test/ToyasCard.lean, 'card_holds'). Laid BY PROGRAM, IN A SANDBOX (cutbox-door.mjs). By AI agents, Wed Nov 11 2026. No macro, syntax, notation, axiom, sorry.
-/
import Derived.Test.YtpamokpmlplopaaGreatDoorRows
import GoSem.ClaimSeven
namespace Go.Proofs.YtpamokpmlplopaaGreatDoor
namespace Rows

/-- THE TIED CARD OF 'norialaw21.NormFlows'. -/
def normFlowsCard : Claim7 := { stood := { row := normFlowsRow, standIns := [], harness := (true, "81f89e9c4ae2426c32557152c48f403adbd33a585f3b37a504f5540a69ab4ad7"), looks := false }, kinds := [], alts := [], laidByText := true, laidKinds := [.data, .data, .data, .data, .pinned], laidTests := true, laidLooks := .later }
def NormFlowsCardSaid : Prop := Claim7.holds Tryz.pinned (.plain (OpenSpec.ofChange normFlowsSpec)) normFlowsCard

/-- THE TIED CARD OF 'norialaw21.NormOnce'. -/
def normOnceCard : Claim7 := { stood := { row := normOnceRow, standIns := [], harness := (true, "81f89e9c4ae2426c32557152c48f403adbd33a585f3b37a504f5540a69ab4ad7"), looks := false }, kinds := [], alts := [], laidByText := true, laidKinds := [.data, .data, .data, .data, .pinned], laidTests := true, laidLooks := .later }
def NormOnceCardSaid : Prop := Claim7.holds Tryz.pinned (.plain (OpenSpec.ofChange normOnceSpec)) normOnceCard

/-- THE TIED CARD OF 'norialaw21.NormReads'. -/
def normReadsCard : Claim7 := { stood := { row := normReadsRow, standIns := [], harness := (true, "81f89e9c4ae2426c32557152c48f403adbd33a585f3b37a504f5540a69ab4ad7"), looks := false }, kinds := [], alts := [], laidByText := true, laidKinds := [.data, .data, .data, .data, .pinned], laidTests := true, laidLooks := .later }
def NormReadsCardSaid : Prop := Claim7.holds Tryz.pinned (.plain (OpenSpec.ofChange normReadsSpec)) normReadsCard

/-- THE TIED CARD OF 'norialaw22.SchedFlows'. -/
def schedFlowsCard : Claim7 := { stood := { row := schedFlowsRow, standIns := [], harness := (true, "81f89e9c4ae2426c32557152c48f403adbd33a585f3b37a504f5540a69ab4ad7"), looks := false }, kinds := [], alts := [], laidByText := true, laidKinds := [.data, .data, .data, .data, .pinned], laidTests := true, laidLooks := .later }
def SchedFlowsCardSaid : Prop := Claim7.holds Tryz.pinned (.plain (OpenSpec.ofChange schedFlowsSpec)) schedFlowsCard

/-- THE TIED CARD OF 'norialaw22.SchedAll'. -/
def schedAllCard : Claim7 := { stood := { row := schedAllRow, standIns := [], harness := (true, "81f89e9c4ae2426c32557152c48f403adbd33a585f3b37a504f5540a69ab4ad7"), looks := false }, kinds := [], alts := [], laidByText := true, laidKinds := [.data, .data, .data, .data, .pinned], laidTests := true, laidLooks := .later }
def SchedAllCardSaid : Prop := Claim7.holds Tryz.pinned (.plain (OpenSpec.ofChange schedAllSpec)) schedAllCard

/-- THE SECOND FORM's CARD OF 'norialaw21.NormFlows'. -/
def normFlowsUptoCard : Claim7 := { stood := { row := normFlowsUptoRow, standIns := [], harness := (true, "81f89e9c4ae2426c32557152c48f403adbd33a585f3b37a504f5540a69ab4ad7"), looks := false }, kinds := [], alts := [], laidByText := true, laidKinds := [.data, .data, .data, .data, .pinned], laidTests := true, laidLooks := .later }
def NormFlowsUptoCardSaid : Prop := Claim7.holds Tryz.pinned (.plain (OpenSpec.upto normFlowsSpec)) normFlowsUptoCard

/-- THE SECOND FORM's CARD OF 'norialaw21.NormOnce'. -/
def normOnceUptoCard : Claim7 := { stood := { row := normOnceUptoRow, standIns := [], harness := (true, "81f89e9c4ae2426c32557152c48f403adbd33a585f3b37a504f5540a69ab4ad7"), looks := false }, kinds := [], alts := [], laidByText := true, laidKinds := [.data, .data, .data, .data, .pinned], laidTests := true, laidLooks := .later }
def NormOnceUptoCardSaid : Prop := Claim7.holds Tryz.pinned (.plain (OpenSpec.upto normOnceSpec)) normOnceUptoCard

/-- THE SECOND FORM's CARD OF 'norialaw21.NormReads'. -/
def normReadsUptoCard : Claim7 := { stood := { row := normReadsUptoRow, standIns := [], harness := (true, "81f89e9c4ae2426c32557152c48f403adbd33a585f3b37a504f5540a69ab4ad7"), looks := false }, kinds := [], alts := [], laidByText := true, laidKinds := [.data, .data, .data, .data, .pinned], laidTests := true, laidLooks := .later }
def NormReadsUptoCardSaid : Prop := Claim7.holds Tryz.pinned (.plain (OpenSpec.upto normReadsSpec)) normReadsUptoCard

/-- THE SECOND FORM's CARD OF 'norialaw22.SchedFlows'. -/
def schedFlowsUptoCard : Claim7 := { stood := { row := schedFlowsUptoRow, standIns := [], harness := (true, "81f89e9c4ae2426c32557152c48f403adbd33a585f3b37a504f5540a69ab4ad7"), looks := false }, kinds := [], alts := [], laidByText := true, laidKinds := [.data, .data, .data, .data, .pinned], laidTests := true, laidLooks := .later }
def SchedFlowsUptoCardSaid : Prop := Claim7.holds Tryz.pinned (.plain (OpenSpec.upto schedFlowsSpec)) schedFlowsUptoCard

/-- THE SECOND FORM's CARD OF 'norialaw22.SchedAll'. -/
def schedAllUptoCard : Claim7 := { stood := { row := schedAllUptoRow, standIns := [], harness := (true, "81f89e9c4ae2426c32557152c48f403adbd33a585f3b37a504f5540a69ab4ad7"), looks := false }, kinds := [], alts := [], laidByText := true, laidKinds := [.data, .data, .data, .data, .pinned], laidTests := true, laidLooks := .later }
def SchedAllUptoCardSaid : Prop := Claim7.holds Tryz.pinned (.plain (OpenSpec.upto schedAllSpec)) schedAllUptoCard
end Rows
end Go.Proofs.YtpamokpmlplopaaGreatDoor
