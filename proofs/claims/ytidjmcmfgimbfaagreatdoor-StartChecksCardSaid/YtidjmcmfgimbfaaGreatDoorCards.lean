/-
  DERIVED. GIVEN WITH THE SEED: THE CARDS: each row of YtidjmcmfgimbfaaGreatDoorRows.lean that lists a variable, with what it lists TIED to the program's text (the seventh form; the later family's looks); each row that meets fmt, with fmt's text TOLD by the authors' own Lean function (tested against real Go, not proved from fmt's source: count such statements apart). THE CARD IS WHAT COUNTS. Prove the row's statement (the work); the ties are given (YtidjmcmfgimbfaaGreatDoorTie.lean); close each card by the builder's one call (the guide's Derived/Test/ToyasCard.lean, 'card_holds'). Laid BY PROGRAM, IN A SANDBOX (cutbox-door.mjs). By AI agents, Wed Nov 11 2026. No macro, syntax, notation, axiom, sorry.
-/
import Derived.Test.YtidjmcmfgimbfaaGreatDoorRows
import GoSem.ClaimSeven
namespace Go.Proofs.YtidjmcmfgimbfaaGreatDoor
namespace Rows

/-- THE TIED CARD OF 'norialaw16.TypesOf'. -/
def typesOfCard : Claim7 := { stood := { row := typesOfRow, standIns := [], harness := (true, "0ffa40571a63940b5dbb849020c1d5db96be2f97d17824b95300eabfa5289862"), looks := false }, kinds := [], alts := [], laidByText := true, laidKinds := [.data, .pinned], laidTests := true, laidLooks := .later }
def TypesOfCardSaid : Prop := Claim7.holds Tryz.pinned (.plain (OpenSpec.ofChange typesOfSpec)) typesOfCard

/-- THE TIED CARD OF 'norialaw16.TypesConst'. -/
def typesConstCard : Claim7 := { stood := { row := typesConstRow, standIns := [], harness := (true, "0ffa40571a63940b5dbb849020c1d5db96be2f97d17824b95300eabfa5289862"), looks := false }, kinds := [], alts := [], laidByText := true, laidKinds := [.data, .pinned], laidTests := true, laidLooks := .later }
def TypesConstCardSaid : Prop := Claim7.holds Tryz.pinned (.plain (OpenSpec.ofChange typesConstSpec)) typesConstCard

/-- THE TIED CARD OF 'norialaw16.TypesCheck'. -/
def typesCheckCard : Claim7 := { stood := { row := typesCheckRow, standIns := [], harness := (true, "0ffa40571a63940b5dbb849020c1d5db96be2f97d17824b95300eabfa5289862"), looks := false }, kinds := [], alts := [], laidByText := true, laidKinds := [.data, .pinned], laidTests := true, laidLooks := .later }
def TypesCheckCardSaid : Prop := Claim7.holds Tryz.pinned (.plain (OpenSpec.ofChange typesCheckSpec)) typesCheckCard

/-- THE TIED CARD OF 'norialaw17.ClockChecks'. -/
def clockChecksCard : Claim7 := { stood := { row := clockChecksRow, standIns := [], harness := (true, "0ffa40571a63940b5dbb849020c1d5db96be2f97d17824b95300eabfa5289862"), looks := false }, kinds := [], alts := [], laidByText := true, laidKinds := [.data, .pinned], laidTests := true, laidLooks := .later }
def ClockChecksCardSaid : Prop := Claim7.holds Tryz.pinned (.plain (OpenSpec.ofChange clockChecksSpec)) clockChecksCard

/-- THE TIED CARD OF 'norialaw17.ClockRows'. -/
def clockRowsCard : Claim7 := { stood := { row := clockRowsRow, standIns := [], harness := (true, "0ffa40571a63940b5dbb849020c1d5db96be2f97d17824b95300eabfa5289862"), looks := false }, kinds := [], alts := [], laidByText := true, laidKinds := [.data, .pinned], laidTests := true, laidLooks := .later }
def ClockRowsCardSaid : Prop := Claim7.holds Tryz.pinned (.plain (OpenSpec.ofChange clockRowsSpec)) clockRowsCard

/-- THE TIED CARD OF 'norialaw18.CauseChecks'. -/
def causeChecksCard : Claim7 := { stood := { row := causeChecksRow, standIns := [], harness := (true, "0ffa40571a63940b5dbb849020c1d5db96be2f97d17824b95300eabfa5289862"), looks := false }, kinds := [], alts := [], laidByText := true, laidKinds := [.data, .pinned], laidTests := true, laidLooks := .later }
def CauseChecksCardSaid : Prop := Claim7.holds Tryz.pinned (.plain (OpenSpec.ofChange causeChecksSpec)) causeChecksCard

/-- THE TIED CARD OF 'norialaw18.CauseAhead'. -/
def causeAheadCard : Claim7 := { stood := { row := causeAheadRow, standIns := [], harness := (true, "0ffa40571a63940b5dbb849020c1d5db96be2f97d17824b95300eabfa5289862"), looks := false }, kinds := [], alts := [], laidByText := true, laidKinds := [.data, .pinned], laidTests := true, laidLooks := .later }
def CauseAheadCardSaid : Prop := Claim7.holds Tryz.pinned (.plain (OpenSpec.ofChange causeAheadSpec)) causeAheadCard

/-- THE TIED CARD OF 'norialaw19.StartChecks'. -/
def startChecksCard : Claim7 := { stood := { row := startChecksRow, standIns := [], harness := (true, "0ffa40571a63940b5dbb849020c1d5db96be2f97d17824b95300eabfa5289862"), looks := false }, kinds := [], alts := [], laidByText := true, laidKinds := [.data, .pinned], laidTests := true, laidLooks := .later }
def StartChecksCardSaid : Prop := Claim7.holds Tryz.pinned (.plain (OpenSpec.ofChange startChecksSpec)) startChecksCard

/-- THE SECOND FORM's CARD OF 'norialaw16.TypesOf'. -/
def typesOfUptoCard : Claim7 := { stood := { row := typesOfUptoRow, standIns := [], harness := (true, "0ffa40571a63940b5dbb849020c1d5db96be2f97d17824b95300eabfa5289862"), looks := false }, kinds := [], alts := [], laidByText := true, laidKinds := [.data, .pinned], laidTests := true, laidLooks := .later }
def TypesOfUptoCardSaid : Prop := Claim7.holds Tryz.pinned (.plain (OpenSpec.upto typesOfSpec)) typesOfUptoCard

/-- THE SECOND FORM's CARD OF 'norialaw16.TypesConst'. -/
def typesConstUptoCard : Claim7 := { stood := { row := typesConstUptoRow, standIns := [], harness := (true, "0ffa40571a63940b5dbb849020c1d5db96be2f97d17824b95300eabfa5289862"), looks := false }, kinds := [], alts := [], laidByText := true, laidKinds := [.data, .pinned], laidTests := true, laidLooks := .later }
def TypesConstUptoCardSaid : Prop := Claim7.holds Tryz.pinned (.plain (OpenSpec.upto typesConstSpec)) typesConstUptoCard

/-- THE SECOND FORM's CARD OF 'norialaw16.TypesCheck'. -/
def typesCheckUptoCard : Claim7 := { stood := { row := typesCheckUptoRow, standIns := [], harness := (true, "0ffa40571a63940b5dbb849020c1d5db96be2f97d17824b95300eabfa5289862"), looks := false }, kinds := [], alts := [], laidByText := true, laidKinds := [.data, .pinned], laidTests := true, laidLooks := .later }
def TypesCheckUptoCardSaid : Prop := Claim7.holds Tryz.pinned (.plain (OpenSpec.upto typesCheckSpec)) typesCheckUptoCard

/-- THE SECOND FORM's CARD OF 'norialaw17.ClockChecks'. -/
def clockChecksUptoCard : Claim7 := { stood := { row := clockChecksUptoRow, standIns := [], harness := (true, "0ffa40571a63940b5dbb849020c1d5db96be2f97d17824b95300eabfa5289862"), looks := false }, kinds := [], alts := [], laidByText := true, laidKinds := [.data, .pinned], laidTests := true, laidLooks := .later }
def ClockChecksUptoCardSaid : Prop := Claim7.holds Tryz.pinned (.plain (OpenSpec.upto clockChecksSpec)) clockChecksUptoCard

/-- THE SECOND FORM's CARD OF 'norialaw17.ClockRows'. -/
def clockRowsUptoCard : Claim7 := { stood := { row := clockRowsUptoRow, standIns := [], harness := (true, "0ffa40571a63940b5dbb849020c1d5db96be2f97d17824b95300eabfa5289862"), looks := false }, kinds := [], alts := [], laidByText := true, laidKinds := [.data, .pinned], laidTests := true, laidLooks := .later }
def ClockRowsUptoCardSaid : Prop := Claim7.holds Tryz.pinned (.plain (OpenSpec.upto clockRowsSpec)) clockRowsUptoCard

/-- THE SECOND FORM's CARD OF 'norialaw18.CauseChecks'. -/
def causeChecksUptoCard : Claim7 := { stood := { row := causeChecksUptoRow, standIns := [], harness := (true, "0ffa40571a63940b5dbb849020c1d5db96be2f97d17824b95300eabfa5289862"), looks := false }, kinds := [], alts := [], laidByText := true, laidKinds := [.data, .pinned], laidTests := true, laidLooks := .later }
def CauseChecksUptoCardSaid : Prop := Claim7.holds Tryz.pinned (.plain (OpenSpec.upto causeChecksSpec)) causeChecksUptoCard

/-- THE SECOND FORM's CARD OF 'norialaw18.CauseAhead'. -/
def causeAheadUptoCard : Claim7 := { stood := { row := causeAheadUptoRow, standIns := [], harness := (true, "0ffa40571a63940b5dbb849020c1d5db96be2f97d17824b95300eabfa5289862"), looks := false }, kinds := [], alts := [], laidByText := true, laidKinds := [.data, .pinned], laidTests := true, laidLooks := .later }
def CauseAheadUptoCardSaid : Prop := Claim7.holds Tryz.pinned (.plain (OpenSpec.upto causeAheadSpec)) causeAheadUptoCard

/-- THE SECOND FORM's CARD OF 'norialaw19.StartChecks'. -/
def startChecksUptoCard : Claim7 := { stood := { row := startChecksUptoRow, standIns := [], harness := (true, "0ffa40571a63940b5dbb849020c1d5db96be2f97d17824b95300eabfa5289862"), looks := false }, kinds := [], alts := [], laidByText := true, laidKinds := [.data, .pinned], laidTests := true, laidLooks := .later }
def StartChecksUptoCardSaid : Prop := Claim7.holds Tryz.pinned (.plain (OpenSpec.upto startChecksSpec)) startChecksUptoCard
end Rows
end Go.Proofs.YtidjmcmfgimbfaaGreatDoor
