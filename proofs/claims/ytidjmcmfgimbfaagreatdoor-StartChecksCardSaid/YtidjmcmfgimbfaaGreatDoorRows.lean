/-
  NARROWER THAN 'FOR EVERY INPUT', by the rows' own cells (each row's printed sentence says how): TypesOf: loops, laid · TypesConst: loops, laid · TypesCheck: loops, laid · ClockChecks: loops, laid · ClockRows: loops, laid · CauseChecks: loops, laid · CauseAhead: loops, laid · StartChecks: loops, laid.
  DERIVED. THE GIVEN ROWS OF THIS SEAT. 8 by the template 'for every input the law returns true; each argument reads behind the call as it read before'; 0 by the template 'total and deterministic' (their statements: YtidjmcmfgimbfaaGreatDoorTotals.lean).
  GIVEN WITH THE SEED: the statements are not yours to turn. If you find one false, say at which input.
  Laid BY PROGRAM, IN A SANDBOX (cutbox-rows.mjs): the forced cells as the released guide's own fill.sh prints them over the translation 0d1f75f33a7ebb7e… (all of the seat's roots in one cut). By AI agents, Wed Nov 11 2026. No macro, syntax, notation, axiom, sorry.
-/
import Derived.Test.YtidjmcmfgimbfaaGreatDoorChecked
import GoSem.PinnedTables
import GoSem.Claim
import GoSem.ClaimJoined
import GoSem.ClaimMapViews
import Derived.JoinedTies
import Derived.KernelRfl
namespace Go.Proofs.YtidjmcmfgimbfaaGreatDoor
/- THE CELL 'sum', in the pinned program and in every row, IS THE sha256 OF THE DUMP (.gsa) THAT YtidjmcmfgimbfaaGreatDoorProg.lean LOADS. Nothing in Lean hashes anything: it is a label: what it is worth is what the hold of that sum in a sandbox is worth. -/
noncomputable def Tryz.pinned : Pinned := { name := "ytidjmcmfgimbfaagreatdoor", sum := "0d1f75f33a7ebb7ec1db815b3d097de1d0d6a50c76155e6e81a78d15340c27d6", checked := Tryz.checked }
namespace Rows
def none {H : Type} : Left H := { results := [], args := [] }

/- WHAT THE LISTED PACKAGE-LEVEL VARIABLES READ AS WHEN THE CALL BEGINS. Each datum BY PROGRAM (the guide's laid-datum.mjs) off the statement by which the dump's own 'gosem.cut.vars' lays the variable. In a bare row this is a premise. The card (YtidjmcmfgimbfaaGreatDoorCards.lean) ties it to the program's text. -/
def laid_unicode_utf8_acceptRanges {H : Type} : DataW H := .agg [.agg [.lit (.int .u8 128), .lit (.int .u8 191)], .agg [.lit (.int .u8 160), .lit (.int .u8 191)], .agg [.lit (.int .u8 128), .lit (.int .u8 159)], .agg [.lit (.int .u8 144), .lit (.int .u8 191)], .agg [.lit (.int .u8 128), .lit (.int .u8 143)], .agg [.lit (.int .u8 0), .lit (.int .u8 0)], .agg [.lit (.int .u8 0), .lit (.int .u8 0)], .agg [.lit (.int .u8 0), .lit (.int .u8 0)], .agg [.lit (.int .u8 0), .lit (.int .u8 0)], .agg [.lit (.int .u8 0), .lit (.int .u8 0)], .agg [.lit (.int .u8 0), .lit (.int .u8 0)], .agg [.lit (.int .u8 0), .lit (.int .u8 0)], .agg [.lit (.int .u8 0), .lit (.int .u8 0)], .agg [.lit (.int .u8 0), .lit (.int .u8 0)], .agg [.lit (.int .u8 0), .lit (.int .u8 0)], .agg [.lit (.int .u8 0), .lit (.int .u8 0)]]
/-- One of Go's own tables, pinned by name: the form's constant. -/
def laid_unicode_utf8_first : DataW Unit := Go.Pinned.utf8First

/-- 'norialaw16.TypesOf': WHATEVER THE INPUT: true; the input reads as it did. -/
def typesOfSpec : ChangeSpec := { name := "typesOf", fn := fun _ => fun
  | [d1, d2, d3] => { results := [.lit (.bool true)], args := [d1, d2, d3] }
  | _ => none }
def typesOfRow : OpenClaim := { program := "ytidjmcmfgimbfaagreatdoor", sum := "0d1f75f33a7ebb7ec1db815b3d097de1d0d6a50c76155e6e81a78d15340c27d6", func := "noria/norialaw16.TypesOf", spec := "typesOf", inPlace := ["internal/bytealg.CountString", "internal/bytealg.IndexByteString", "internal/bytealg.IndexString"], unfollowed := true, recurses := true, named := ["unicode/utf8.first", "unicode/utf8.acceptRanges", "internal/bytealg.MaxLen"], loops := true, apart := false, laid := [("unicode/utf8.acceptRanges", laid_unicode_utf8_acceptRanges), ("unicode/utf8.first", laid_unicode_utf8_first)] }
def TypesOfSaid : Prop := typesOfRow.holds Tryz.pinned (OpenSpec.ofChange typesOfSpec)

/-- ITS FALSE NEIGHBOUR: 'it returns false'. Refute it at one input. -/
def typesOfWrong : ChangeSpec := { name := "typesOf", fn := fun _ => fun
  | [d1, d2, d3] => { results := [.lit (.bool false)], args := [d1, d2, d3] }
  | _ => none }
def TypesOfWrongFalsely : Prop := typesOfRow.holds Tryz.pinned (OpenSpec.ofChange typesOfWrong)

/-- 'norialaw16.TypesConst': WHATEVER THE INPUT: true; the input reads as it did. -/
def typesConstSpec : ChangeSpec := { name := "typesConst", fn := fun _ => fun
  | [d1, d2] => { results := [.lit (.bool true)], args := [d1, d2] }
  | _ => none }
def typesConstRow : OpenClaim := { program := "ytidjmcmfgimbfaagreatdoor", sum := "0d1f75f33a7ebb7ec1db815b3d097de1d0d6a50c76155e6e81a78d15340c27d6", func := "noria/norialaw16.TypesConst", spec := "typesConst", inPlace := ["internal/bytealg.CountString", "internal/bytealg.IndexByteString", "internal/bytealg.IndexString"], unfollowed := true, recurses := true, named := ["unicode/utf8.first", "unicode/utf8.acceptRanges", "internal/bytealg.MaxLen"], loops := true, apart := false, laid := [("unicode/utf8.acceptRanges", laid_unicode_utf8_acceptRanges), ("unicode/utf8.first", laid_unicode_utf8_first)] }
def TypesConstSaid : Prop := typesConstRow.holds Tryz.pinned (OpenSpec.ofChange typesConstSpec)

/-- ITS FALSE NEIGHBOUR: 'it returns false'. Refute it at one input. -/
def typesConstWrong : ChangeSpec := { name := "typesConst", fn := fun _ => fun
  | [d1, d2] => { results := [.lit (.bool false)], args := [d1, d2] }
  | _ => none }
def TypesConstWrongFalsely : Prop := typesConstRow.holds Tryz.pinned (OpenSpec.ofChange typesConstWrong)

/-- 'norialaw16.TypesCheck': WHATEVER THE INPUT: true; the input reads as it did. -/
def typesCheckSpec : ChangeSpec := { name := "typesCheck", fn := fun _ => fun
  | [d] => { results := [.lit (.bool true)], args := [d] }
  | _ => none }
def typesCheckRow : OpenClaim := { program := "ytidjmcmfgimbfaagreatdoor", sum := "0d1f75f33a7ebb7ec1db815b3d097de1d0d6a50c76155e6e81a78d15340c27d6", func := "noria/norialaw16.TypesCheck", spec := "typesCheck", inPlace := ["internal/bytealg.CountString", "internal/bytealg.IndexByteString", "internal/bytealg.IndexString"], unfollowed := true, recurses := true, named := ["unicode/utf8.first", "unicode/utf8.acceptRanges", "internal/bytealg.MaxLen"], loops := true, apart := false, laid := [("unicode/utf8.acceptRanges", laid_unicode_utf8_acceptRanges), ("unicode/utf8.first", laid_unicode_utf8_first)] }
def TypesCheckSaid : Prop := typesCheckRow.holds Tryz.pinned (OpenSpec.ofChange typesCheckSpec)

/-- ITS FALSE NEIGHBOUR: 'it returns false'. Refute it at one input. -/
def typesCheckWrong : ChangeSpec := { name := "typesCheck", fn := fun _ => fun
  | [d] => { results := [.lit (.bool false)], args := [d] }
  | _ => none }
def TypesCheckWrongFalsely : Prop := typesCheckRow.holds Tryz.pinned (OpenSpec.ofChange typesCheckWrong)

/-- 'norialaw17.ClockChecks': WHATEVER THE INPUT: true; the input reads as it did. -/
def clockChecksSpec : ChangeSpec := { name := "clockChecks", fn := fun _ => fun
  | [d] => { results := [.lit (.bool true)], args := [d] }
  | _ => none }
def clockChecksRow : OpenClaim := { program := "ytidjmcmfgimbfaagreatdoor", sum := "0d1f75f33a7ebb7ec1db815b3d097de1d0d6a50c76155e6e81a78d15340c27d6", func := "noria/norialaw17.ClockChecks", spec := "clockChecks", inPlace := ["internal/bytealg.CountString", "internal/bytealg.IndexByteString", "internal/bytealg.IndexString"], unfollowed := true, recurses := true, named := ["unicode/utf8.first", "unicode/utf8.acceptRanges", "internal/bytealg.MaxLen"], loops := true, apart := false, laid := [("unicode/utf8.acceptRanges", laid_unicode_utf8_acceptRanges), ("unicode/utf8.first", laid_unicode_utf8_first)] }
def ClockChecksSaid : Prop := clockChecksRow.holds Tryz.pinned (OpenSpec.ofChange clockChecksSpec)

/-- ITS FALSE NEIGHBOUR: 'it returns false'. Refute it at one input. -/
def clockChecksWrong : ChangeSpec := { name := "clockChecks", fn := fun _ => fun
  | [d] => { results := [.lit (.bool false)], args := [d] }
  | _ => none }
def ClockChecksWrongFalsely : Prop := clockChecksRow.holds Tryz.pinned (OpenSpec.ofChange clockChecksWrong)

/-- 'norialaw17.ClockRows': WHATEVER THE INPUT: true; the input reads as it did. -/
def clockRowsSpec : ChangeSpec := { name := "clockRows", fn := fun _ => fun
  | [d] => { results := [.lit (.bool true)], args := [d] }
  | _ => none }
def clockRowsRow : OpenClaim := { program := "ytidjmcmfgimbfaagreatdoor", sum := "0d1f75f33a7ebb7ec1db815b3d097de1d0d6a50c76155e6e81a78d15340c27d6", func := "noria/norialaw17.ClockRows", spec := "clockRows", inPlace := ["internal/bytealg.CountString", "internal/bytealg.IndexByteString", "internal/bytealg.IndexString"], unfollowed := true, recurses := true, named := ["unicode/utf8.first", "unicode/utf8.acceptRanges", "internal/bytealg.MaxLen"], loops := true, apart := false, laid := [("unicode/utf8.acceptRanges", laid_unicode_utf8_acceptRanges), ("unicode/utf8.first", laid_unicode_utf8_first)] }
def ClockRowsSaid : Prop := clockRowsRow.holds Tryz.pinned (OpenSpec.ofChange clockRowsSpec)

/-- ITS FALSE NEIGHBOUR: 'it returns false'. Refute it at one input. -/
def clockRowsWrong : ChangeSpec := { name := "clockRows", fn := fun _ => fun
  | [d] => { results := [.lit (.bool false)], args := [d] }
  | _ => none }
def ClockRowsWrongFalsely : Prop := clockRowsRow.holds Tryz.pinned (OpenSpec.ofChange clockRowsWrong)

/-- 'norialaw18.CauseChecks': WHATEVER THE INPUT: true; the input reads as it did. -/
def causeChecksSpec : ChangeSpec := { name := "causeChecks", fn := fun _ => fun
  | [d] => { results := [.lit (.bool true)], args := [d] }
  | _ => none }
def causeChecksRow : OpenClaim := { program := "ytidjmcmfgimbfaagreatdoor", sum := "0d1f75f33a7ebb7ec1db815b3d097de1d0d6a50c76155e6e81a78d15340c27d6", func := "noria/norialaw18.CauseChecks", spec := "causeChecks", inPlace := ["internal/bytealg.CountString", "internal/bytealg.IndexByteString", "internal/bytealg.IndexString"], unfollowed := true, recurses := true, named := ["unicode/utf8.first", "unicode/utf8.acceptRanges", "internal/bytealg.MaxLen"], loops := true, apart := false, laid := [("unicode/utf8.acceptRanges", laid_unicode_utf8_acceptRanges), ("unicode/utf8.first", laid_unicode_utf8_first)] }
def CauseChecksSaid : Prop := causeChecksRow.holds Tryz.pinned (OpenSpec.ofChange causeChecksSpec)

/-- ITS FALSE NEIGHBOUR: 'it returns false'. Refute it at one input. -/
def causeChecksWrong : ChangeSpec := { name := "causeChecks", fn := fun _ => fun
  | [d] => { results := [.lit (.bool false)], args := [d] }
  | _ => none }
def CauseChecksWrongFalsely : Prop := causeChecksRow.holds Tryz.pinned (OpenSpec.ofChange causeChecksWrong)

/-- 'norialaw18.CauseAhead': WHATEVER THE INPUT: true; the input reads as it did. -/
def causeAheadSpec : ChangeSpec := { name := "causeAhead", fn := fun _ => fun
  | [d] => { results := [.lit (.bool true)], args := [d] }
  | _ => none }
def causeAheadRow : OpenClaim := { program := "ytidjmcmfgimbfaagreatdoor", sum := "0d1f75f33a7ebb7ec1db815b3d097de1d0d6a50c76155e6e81a78d15340c27d6", func := "noria/norialaw18.CauseAhead", spec := "causeAhead", inPlace := ["internal/bytealg.CountString", "internal/bytealg.IndexByteString", "internal/bytealg.IndexString"], unfollowed := true, recurses := true, named := ["unicode/utf8.first", "unicode/utf8.acceptRanges", "internal/bytealg.MaxLen"], loops := true, apart := false, laid := [("unicode/utf8.acceptRanges", laid_unicode_utf8_acceptRanges), ("unicode/utf8.first", laid_unicode_utf8_first)] }
def CauseAheadSaid : Prop := causeAheadRow.holds Tryz.pinned (OpenSpec.ofChange causeAheadSpec)

/-- ITS FALSE NEIGHBOUR: 'it returns false'. Refute it at one input. -/
def causeAheadWrong : ChangeSpec := { name := "causeAhead", fn := fun _ => fun
  | [d] => { results := [.lit (.bool false)], args := [d] }
  | _ => none }
def CauseAheadWrongFalsely : Prop := causeAheadRow.holds Tryz.pinned (OpenSpec.ofChange causeAheadWrong)

/-- 'norialaw19.StartChecks': WHATEVER THE INPUT: true; the input reads as it did. -/
def startChecksSpec : ChangeSpec := { name := "startChecks", fn := fun _ => fun
  | [d] => { results := [.lit (.bool true)], args := [d] }
  | _ => none }
def startChecksRow : OpenClaim := { program := "ytidjmcmfgimbfaagreatdoor", sum := "0d1f75f33a7ebb7ec1db815b3d097de1d0d6a50c76155e6e81a78d15340c27d6", func := "noria/norialaw19.StartChecks", spec := "startChecks", inPlace := ["internal/bytealg.CountString", "internal/bytealg.IndexByteString", "internal/bytealg.IndexString"], unfollowed := true, recurses := true, named := ["unicode/utf8.first", "unicode/utf8.acceptRanges", "internal/bytealg.MaxLen"], loops := true, apart := false, laid := [("unicode/utf8.acceptRanges", laid_unicode_utf8_acceptRanges), ("unicode/utf8.first", laid_unicode_utf8_first)] }
def StartChecksSaid : Prop := startChecksRow.holds Tryz.pinned (OpenSpec.ofChange startChecksSpec)

/-- ITS FALSE NEIGHBOUR: 'it returns false'. Refute it at one input. -/
def startChecksWrong : ChangeSpec := { name := "startChecks", fn := fun _ => fun
  | [d] => { results := [.lit (.bool false)], args := [d] }
  | _ => none }
def StartChecksWrongFalsely : Prop := startChecksRow.holds Tryz.pinned (OpenSpec.ofChange startChecksWrong)

/- THE SECOND FORM. 'bulk': how many values and letters a reading holds, each counted each time it is reached (what is shared counts as often as it is met; a slice's spare places count too). A statement '..UptoSaid' is the law's where the arguments, and the package variables that the reading takes, are together of bulk at most 1048576: NARROWER than '..Said'. Prove '..Said' where nothing that the law and all that it calls make is longer than what came in: it says more and counts as full. Else prove '..UptoSaid'. A law counts once. -/
mutual
def uptoBulk {H : Type} : DataW H → Nat
  | .lit (.string bytes) => bytes.length + 1
  | .lit _ => 1
  | .nil => 1
  | .ptr d => uptoBulk d + 1
  | .slice elems spare => uptoBulkAll elems + uptoBulkAll spare + 1
  | .agg parts => uptoBulkAll parts + 1
  | .iface _ d => uptoBulk d + 1
  | .map entries => uptoBulkEntries entries + 1
  | .held _ => 1
def uptoBulkAll {H : Type} : List (DataW H) → Nat
  | [] => 0
  | d :: r => uptoBulk d + uptoBulkAll r
def uptoBulkEntries {H : Type} : List (Lit × DataW H) → Nat
  | [] => 0
  | x :: r => uptoBulkEntry x + uptoBulkEntries r
def uptoBulkEntry {H : Type} : Lit × DataW H → Nat
  | (.string bytes, d) => bytes.length + uptoBulk d + 1
  | (_, d) => uptoBulk d + 1
 end
def uptoSmall : (H : Type) → List (DataW H) → Bool := fun _ ds => decide (uptoBulkAll ds ≤ 1048576)
def OpenSpec.upto (s : _root_.Go.ChangeSpec) : _root_.Go.OpenSpec := { _root_.Go.OpenSpec.ofChange s with cond := some uptoSmall }

/-- 'norialaw16.TypesOf', WHERE WHAT IT READS IS OF BULK AT MOST 1048576: true; the input reads as it did. -/
def typesOfUptoRow : OpenClaim := { program := "ytidjmcmfgimbfaagreatdoor", sum := "0d1f75f33a7ebb7ec1db815b3d097de1d0d6a50c76155e6e81a78d15340c27d6", func := "noria/norialaw16.TypesOf", spec := "typesOf", inPlace := ["internal/bytealg.CountString", "internal/bytealg.IndexByteString", "internal/bytealg.IndexString"], unfollowed := true, recurses := true, named := ["unicode/utf8.first", "unicode/utf8.acceptRanges", "internal/bytealg.MaxLen"], loops := true, apart := false, laid := [("unicode/utf8.acceptRanges", laid_unicode_utf8_acceptRanges), ("unicode/utf8.first", laid_unicode_utf8_first)], narrowed := true }
def TypesOfUptoSaid : Prop := typesOfUptoRow.holds Tryz.pinned (OpenSpec.upto typesOfSpec)

/-- 'norialaw16.TypesConst', WHERE WHAT IT READS IS OF BULK AT MOST 1048576: true; the input reads as it did. -/
def typesConstUptoRow : OpenClaim := { program := "ytidjmcmfgimbfaagreatdoor", sum := "0d1f75f33a7ebb7ec1db815b3d097de1d0d6a50c76155e6e81a78d15340c27d6", func := "noria/norialaw16.TypesConst", spec := "typesConst", inPlace := ["internal/bytealg.CountString", "internal/bytealg.IndexByteString", "internal/bytealg.IndexString"], unfollowed := true, recurses := true, named := ["unicode/utf8.first", "unicode/utf8.acceptRanges", "internal/bytealg.MaxLen"], loops := true, apart := false, laid := [("unicode/utf8.acceptRanges", laid_unicode_utf8_acceptRanges), ("unicode/utf8.first", laid_unicode_utf8_first)], narrowed := true }
def TypesConstUptoSaid : Prop := typesConstUptoRow.holds Tryz.pinned (OpenSpec.upto typesConstSpec)

/-- 'norialaw16.TypesCheck', WHERE WHAT IT READS IS OF BULK AT MOST 1048576: true; the input reads as it did. -/
def typesCheckUptoRow : OpenClaim := { program := "ytidjmcmfgimbfaagreatdoor", sum := "0d1f75f33a7ebb7ec1db815b3d097de1d0d6a50c76155e6e81a78d15340c27d6", func := "noria/norialaw16.TypesCheck", spec := "typesCheck", inPlace := ["internal/bytealg.CountString", "internal/bytealg.IndexByteString", "internal/bytealg.IndexString"], unfollowed := true, recurses := true, named := ["unicode/utf8.first", "unicode/utf8.acceptRanges", "internal/bytealg.MaxLen"], loops := true, apart := false, laid := [("unicode/utf8.acceptRanges", laid_unicode_utf8_acceptRanges), ("unicode/utf8.first", laid_unicode_utf8_first)], narrowed := true }
def TypesCheckUptoSaid : Prop := typesCheckUptoRow.holds Tryz.pinned (OpenSpec.upto typesCheckSpec)

/-- 'norialaw17.ClockChecks', WHERE WHAT IT READS IS OF BULK AT MOST 1048576: true; the input reads as it did. -/
def clockChecksUptoRow : OpenClaim := { program := "ytidjmcmfgimbfaagreatdoor", sum := "0d1f75f33a7ebb7ec1db815b3d097de1d0d6a50c76155e6e81a78d15340c27d6", func := "noria/norialaw17.ClockChecks", spec := "clockChecks", inPlace := ["internal/bytealg.CountString", "internal/bytealg.IndexByteString", "internal/bytealg.IndexString"], unfollowed := true, recurses := true, named := ["unicode/utf8.first", "unicode/utf8.acceptRanges", "internal/bytealg.MaxLen"], loops := true, apart := false, laid := [("unicode/utf8.acceptRanges", laid_unicode_utf8_acceptRanges), ("unicode/utf8.first", laid_unicode_utf8_first)], narrowed := true }
def ClockChecksUptoSaid : Prop := clockChecksUptoRow.holds Tryz.pinned (OpenSpec.upto clockChecksSpec)

/-- 'norialaw17.ClockRows', WHERE WHAT IT READS IS OF BULK AT MOST 1048576: true; the input reads as it did. -/
def clockRowsUptoRow : OpenClaim := { program := "ytidjmcmfgimbfaagreatdoor", sum := "0d1f75f33a7ebb7ec1db815b3d097de1d0d6a50c76155e6e81a78d15340c27d6", func := "noria/norialaw17.ClockRows", spec := "clockRows", inPlace := ["internal/bytealg.CountString", "internal/bytealg.IndexByteString", "internal/bytealg.IndexString"], unfollowed := true, recurses := true, named := ["unicode/utf8.first", "unicode/utf8.acceptRanges", "internal/bytealg.MaxLen"], loops := true, apart := false, laid := [("unicode/utf8.acceptRanges", laid_unicode_utf8_acceptRanges), ("unicode/utf8.first", laid_unicode_utf8_first)], narrowed := true }
def ClockRowsUptoSaid : Prop := clockRowsUptoRow.holds Tryz.pinned (OpenSpec.upto clockRowsSpec)

/-- 'norialaw18.CauseChecks', WHERE WHAT IT READS IS OF BULK AT MOST 1048576: true; the input reads as it did. -/
def causeChecksUptoRow : OpenClaim := { program := "ytidjmcmfgimbfaagreatdoor", sum := "0d1f75f33a7ebb7ec1db815b3d097de1d0d6a50c76155e6e81a78d15340c27d6", func := "noria/norialaw18.CauseChecks", spec := "causeChecks", inPlace := ["internal/bytealg.CountString", "internal/bytealg.IndexByteString", "internal/bytealg.IndexString"], unfollowed := true, recurses := true, named := ["unicode/utf8.first", "unicode/utf8.acceptRanges", "internal/bytealg.MaxLen"], loops := true, apart := false, laid := [("unicode/utf8.acceptRanges", laid_unicode_utf8_acceptRanges), ("unicode/utf8.first", laid_unicode_utf8_first)], narrowed := true }
def CauseChecksUptoSaid : Prop := causeChecksUptoRow.holds Tryz.pinned (OpenSpec.upto causeChecksSpec)

/-- 'norialaw18.CauseAhead', WHERE WHAT IT READS IS OF BULK AT MOST 1048576: true; the input reads as it did. -/
def causeAheadUptoRow : OpenClaim := { program := "ytidjmcmfgimbfaagreatdoor", sum := "0d1f75f33a7ebb7ec1db815b3d097de1d0d6a50c76155e6e81a78d15340c27d6", func := "noria/norialaw18.CauseAhead", spec := "causeAhead", inPlace := ["internal/bytealg.CountString", "internal/bytealg.IndexByteString", "internal/bytealg.IndexString"], unfollowed := true, recurses := true, named := ["unicode/utf8.first", "unicode/utf8.acceptRanges", "internal/bytealg.MaxLen"], loops := true, apart := false, laid := [("unicode/utf8.acceptRanges", laid_unicode_utf8_acceptRanges), ("unicode/utf8.first", laid_unicode_utf8_first)], narrowed := true }
def CauseAheadUptoSaid : Prop := causeAheadUptoRow.holds Tryz.pinned (OpenSpec.upto causeAheadSpec)

/-- 'norialaw19.StartChecks', WHERE WHAT IT READS IS OF BULK AT MOST 1048576: true; the input reads as it did. -/
def startChecksUptoRow : OpenClaim := { program := "ytidjmcmfgimbfaagreatdoor", sum := "0d1f75f33a7ebb7ec1db815b3d097de1d0d6a50c76155e6e81a78d15340c27d6", func := "noria/norialaw19.StartChecks", spec := "startChecks", inPlace := ["internal/bytealg.CountString", "internal/bytealg.IndexByteString", "internal/bytealg.IndexString"], unfollowed := true, recurses := true, named := ["unicode/utf8.first", "unicode/utf8.acceptRanges", "internal/bytealg.MaxLen"], loops := true, apart := false, laid := [("unicode/utf8.acceptRanges", laid_unicode_utf8_acceptRanges), ("unicode/utf8.first", laid_unicode_utf8_first)], narrowed := true }
def StartChecksUptoSaid : Prop := startChecksUptoRow.holds Tryz.pinned (OpenSpec.upto startChecksSpec)

end Rows
end Go.Proofs.YtidjmcmfgimbfaaGreatDoor
