/-
  DERIVED. GIVEN WITH THE SEED: THE CARDS: each row of YtipcmpkihhfhcaaGreatDoorRows.lean that lists a variable, with what it lists TIED to the program's text (the seventh form; the later family's looks); each row that meets fmt, with fmt's text TOLD by the authors' own Lean function (tested against real Go, not proved from fmt's source: count such statements apart). THE CARD IS WHAT COUNTS. Prove the row's statement (the work); the ties are given (YtipcmpkihhfhcaaGreatDoorTie.lean); close each card by the builder's one call (the guide's Derived/Test/ToyasCard.lean, 'card_holds'). Laid BY PROGRAM, IN A SANDBOX (cutbox-door.mjs). By AI agents, Wed Nov 11 2026. No macro, syntax, notation, axiom, sorry.
-/
import Derived.Test.YtipcmpkihhfhcaaGreatDoorRows
import GoSem.ClaimSeven
namespace Go.Proofs.YtipcmpkihhfhcaaGreatDoor
namespace Rows

/-- THE TIED CARD OF 'norialaw12.ProgChecks'. -/
def progChecksCard : Claim7 := { stood := { row := progChecksRow, standIns := [], harness := (true, "0a26a288dd6551359402872bacdb028d8fd74c4595767e0e8bac2039532af3ac"), looks := false }, kinds := [], alts := [], laidByText := true, laidKinds := [.data, .pinned], laidTests := true, laidLooks := .later }
def ProgChecksCardSaid : Prop := Claim7.holds Tryz.pinned (.plain (OpenSpec.ofChange progChecksSpec)) progChecksCard

/-- THE TIED CARD OF 'norialaw15.ScopeChecks'. -/
def scopeChecksCard : Claim7 := { stood := { row := scopeChecksRow, standIns := [], harness := (true, "0a26a288dd6551359402872bacdb028d8fd74c4595767e0e8bac2039532af3ac"), looks := false }, kinds := [], alts := [], laidByText := true, laidKinds := [.data, .pinned], laidTests := true, laidLooks := .later }
def ScopeChecksCardSaid : Prop := Claim7.holds Tryz.pinned (.plain (OpenSpec.ofChange scopeChecksSpec)) scopeChecksCard

/-- THE TIED CARD OF 'norialaw15.ScopeOnce'. -/
def scopeOnceCard : Claim7 := { stood := { row := scopeOnceRow, standIns := [], harness := (true, "0a26a288dd6551359402872bacdb028d8fd74c4595767e0e8bac2039532af3ac"), looks := false }, kinds := [], alts := [], laidByText := true, laidKinds := [.data, .pinned], laidTests := true, laidLooks := .later }
def ScopeOnceCardSaid : Prop := Claim7.holds Tryz.pinned (.plain (OpenSpec.ofChange scopeOnceSpec)) scopeOnceCard

/-- THE TIED CARD OF 'norialaw16.TypesOf'. -/
def typesOfCard : Claim7 := { stood := { row := typesOfRow, standIns := [], harness := (true, "0a26a288dd6551359402872bacdb028d8fd74c4595767e0e8bac2039532af3ac"), looks := false }, kinds := [], alts := [], laidByText := true, laidKinds := [.data, .pinned], laidTests := true, laidLooks := .later }
def TypesOfCardSaid : Prop := Claim7.holds Tryz.pinned (.plain (OpenSpec.ofChange typesOfSpec)) typesOfCard

/-- THE TIED CARD OF 'norialaw16.TypesConst'. -/
def typesConstCard : Claim7 := { stood := { row := typesConstRow, standIns := [], harness := (true, "0a26a288dd6551359402872bacdb028d8fd74c4595767e0e8bac2039532af3ac"), looks := false }, kinds := [], alts := [], laidByText := true, laidKinds := [.data, .pinned], laidTests := true, laidLooks := .later }
def TypesConstCardSaid : Prop := Claim7.holds Tryz.pinned (.plain (OpenSpec.ofChange typesConstSpec)) typesConstCard

/-- THE TIED CARD OF 'norialaw16.TypesCheck'. -/
def typesCheckCard : Claim7 := { stood := { row := typesCheckRow, standIns := [], harness := (true, "0a26a288dd6551359402872bacdb028d8fd74c4595767e0e8bac2039532af3ac"), looks := false }, kinds := [], alts := [], laidByText := true, laidKinds := [.data, .pinned], laidTests := true, laidLooks := .later }
def TypesCheckCardSaid : Prop := Claim7.holds Tryz.pinned (.plain (OpenSpec.ofChange typesCheckSpec)) typesCheckCard

/-- THE SECOND FORM's CARD OF 'norialaw12.ProgChecks'. -/
def progChecksUptoCard : Claim7 := { stood := { row := progChecksUptoRow, standIns := [], harness := (true, "0a26a288dd6551359402872bacdb028d8fd74c4595767e0e8bac2039532af3ac"), looks := false }, kinds := [], alts := [], laidByText := true, laidKinds := [.data, .pinned], laidTests := true, laidLooks := .later }
def ProgChecksUptoCardSaid : Prop := Claim7.holds Tryz.pinned (.plain (OpenSpec.upto progChecksSpec)) progChecksUptoCard

/-- THE SECOND FORM's CARD OF 'norialaw15.ScopeChecks'. -/
def scopeChecksUptoCard : Claim7 := { stood := { row := scopeChecksUptoRow, standIns := [], harness := (true, "0a26a288dd6551359402872bacdb028d8fd74c4595767e0e8bac2039532af3ac"), looks := false }, kinds := [], alts := [], laidByText := true, laidKinds := [.data, .pinned], laidTests := true, laidLooks := .later }
def ScopeChecksUptoCardSaid : Prop := Claim7.holds Tryz.pinned (.plain (OpenSpec.upto scopeChecksSpec)) scopeChecksUptoCard

/-- THE SECOND FORM's CARD OF 'norialaw15.ScopeOnce'. -/
def scopeOnceUptoCard : Claim7 := { stood := { row := scopeOnceUptoRow, standIns := [], harness := (true, "0a26a288dd6551359402872bacdb028d8fd74c4595767e0e8bac2039532af3ac"), looks := false }, kinds := [], alts := [], laidByText := true, laidKinds := [.data, .pinned], laidTests := true, laidLooks := .later }
def ScopeOnceUptoCardSaid : Prop := Claim7.holds Tryz.pinned (.plain (OpenSpec.upto scopeOnceSpec)) scopeOnceUptoCard

/-- THE SECOND FORM's CARD OF 'norialaw16.TypesOf'. -/
def typesOfUptoCard : Claim7 := { stood := { row := typesOfUptoRow, standIns := [], harness := (true, "0a26a288dd6551359402872bacdb028d8fd74c4595767e0e8bac2039532af3ac"), looks := false }, kinds := [], alts := [], laidByText := true, laidKinds := [.data, .pinned], laidTests := true, laidLooks := .later }
def TypesOfUptoCardSaid : Prop := Claim7.holds Tryz.pinned (.plain (OpenSpec.upto typesOfSpec)) typesOfUptoCard

/-- THE SECOND FORM's CARD OF 'norialaw16.TypesConst'. -/
def typesConstUptoCard : Claim7 := { stood := { row := typesConstUptoRow, standIns := [], harness := (true, "0a26a288dd6551359402872bacdb028d8fd74c4595767e0e8bac2039532af3ac"), looks := false }, kinds := [], alts := [], laidByText := true, laidKinds := [.data, .pinned], laidTests := true, laidLooks := .later }
def TypesConstUptoCardSaid : Prop := Claim7.holds Tryz.pinned (.plain (OpenSpec.upto typesConstSpec)) typesConstUptoCard

/-- THE SECOND FORM's CARD OF 'norialaw16.TypesCheck'. -/
def typesCheckUptoCard : Claim7 := { stood := { row := typesCheckUptoRow, standIns := [], harness := (true, "0a26a288dd6551359402872bacdb028d8fd74c4595767e0e8bac2039532af3ac"), looks := false }, kinds := [], alts := [], laidByText := true, laidKinds := [.data, .pinned], laidTests := true, laidLooks := .later }
def TypesCheckUptoCardSaid : Prop := Claim7.holds Tryz.pinned (.plain (OpenSpec.upto typesCheckSpec)) typesCheckUptoCard
end Rows
end Go.Proofs.YtipcmpkihhfhcaaGreatDoor
