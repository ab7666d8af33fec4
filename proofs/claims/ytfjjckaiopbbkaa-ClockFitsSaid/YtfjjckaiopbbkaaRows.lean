/-
  NARROWER THAN 'FOR EVERY INPUT', by the rows' own cells (each row's printed sentence says how): StartLate: loops · StartPlain: loops · ProgClocks: loops · ProgFinds: loops · ProgSame: loops · CauseOrders: loops · CauseReads: loops · ClockFits: loops · ClockOne: loops.
  DERIVED. THE GIVEN ROWS OF THIS SEAT. 10 by the template 'for every input the law returns true; each argument reads behind the call as it read before'; 0 by the template 'total and deterministic' (their statements: YtfjjckaiopbbkaaTotals.lean).
  GIVEN WITH THE SEED: the statements are not yours to turn. If you find one false, say at which input.
  Laid BY PROGRAM, IN A SANDBOX (cutbox-rows.mjs): the forced cells as the released guide's own fill.sh prints them over the translation a6554631902d9dff… (all of the seat's roots in one cut). By AI agents, Wed Nov 11 2026. No macro, syntax, notation, axiom, sorry.
-/
import Derived.Test.YtfjjckaiopbbkaaChecked
import GoSem.Claim
import GoSem.ClaimJoined
import GoSem.ClaimMapViews
import Derived.JoinedTies
import Derived.KernelRfl
namespace Go.Proofs.Ytfjjckaiopbbkaa
/- THE CELL 'sum', in the pinned program and in every row, IS THE sha256 OF THE DUMP (.gsa) THAT YtfjjckaiopbbkaaProg.lean LOADS. Nothing in Lean hashes anything: it is a label: what it is worth is what the hold of that sum in a sandbox is worth. -/
noncomputable def Try.pinned : Pinned := { name := "ytfjjckaiopbbkaa", sum := "a6554631902d9dfff26b71c07d4abb54c03e25357bde52e7cde7b28ffc733acf", checked := Try.checked }
namespace Rows
def none {H : Type} : Left H := { results := [], args := [] }

/-- 'norialaw19.StartLate': WHATEVER THE INPUT: true; the input reads as it did. -/
def startLateSpec : ChangeSpec := { name := "startLate", fn := fun _ => fun
  | [d] => { results := [.lit (.bool true)], args := [d] }
  | _ => none }
def startLateRow : OpenClaim := { program := "ytfjjckaiopbbkaa", sum := "a6554631902d9dfff26b71c07d4abb54c03e25357bde52e7cde7b28ffc733acf", func := "noria/norialaw19.StartLate", spec := "startLate", unfollowed := true, recurses := true, loops := true, apart := false }
def StartLateSaid : Prop := startLateRow.holds Try.pinned (OpenSpec.ofChange startLateSpec)

/-- ITS FALSE NEIGHBOUR: 'it returns false'. Refute it at one input. -/
def startLateWrong : ChangeSpec := { name := "startLate", fn := fun _ => fun
  | [d] => { results := [.lit (.bool false)], args := [d] }
  | _ => none }
def StartLateWrongFalsely : Prop := startLateRow.holds Try.pinned (OpenSpec.ofChange startLateWrong)

/-- 'norialaw19.StartPlain': WHATEVER THE INPUT: true; the input reads as it did. -/
def startPlainSpec : ChangeSpec := { name := "startPlain", fn := fun _ => fun
  | [d1, d2] => { results := [.lit (.bool true)], args := [d1, d2] }
  | _ => none }
def startPlainRow : OpenClaim := { program := "ytfjjckaiopbbkaa", sum := "a6554631902d9dfff26b71c07d4abb54c03e25357bde52e7cde7b28ffc733acf", func := "noria/norialaw19.StartPlain", spec := "startPlain", unfollowed := true, recurses := true, loops := true, apart := false }
def StartPlainSaid : Prop := startPlainRow.holds Try.pinned (OpenSpec.ofChange startPlainSpec)

/-- ITS FALSE NEIGHBOUR: 'it returns false'. Refute it at one input. -/
def startPlainWrong : ChangeSpec := { name := "startPlain", fn := fun _ => fun
  | [d1, d2] => { results := [.lit (.bool false)], args := [d1, d2] }
  | _ => none }
def StartPlainWrongFalsely : Prop := startPlainRow.holds Try.pinned (OpenSpec.ofChange startPlainWrong)

/-- 'norialaw12.ProgClocks': WHATEVER THE INPUT: true; the input reads as it did. -/
def progClocksSpec : ChangeSpec := { name := "progClocks", fn := fun _ => fun
  | [d1, d2] => { results := [.lit (.bool true)], args := [d1, d2] }
  | _ => none }
def progClocksRow : OpenClaim := { program := "ytfjjckaiopbbkaa", sum := "a6554631902d9dfff26b71c07d4abb54c03e25357bde52e7cde7b28ffc733acf", func := "noria/norialaw12.ProgClocks", spec := "progClocks", unfollowed := true, recurses := true, loops := true, apart := false }
def ProgClocksSaid : Prop := progClocksRow.holds Try.pinned (OpenSpec.ofChange progClocksSpec)

/-- ITS FALSE NEIGHBOUR: 'it returns false'. Refute it at one input. -/
def progClocksWrong : ChangeSpec := { name := "progClocks", fn := fun _ => fun
  | [d1, d2] => { results := [.lit (.bool false)], args := [d1, d2] }
  | _ => none }
def ProgClocksWrongFalsely : Prop := progClocksRow.holds Try.pinned (OpenSpec.ofChange progClocksWrong)

/-- 'norialaw12.ProgFinds': WHATEVER THE INPUT: true; the input reads as it did. -/
def progFindsSpec : ChangeSpec := { name := "progFinds", fn := fun _ => fun
  | [d1, d2] => { results := [.lit (.bool true)], args := [d1, d2] }
  | _ => none }
def progFindsRow : OpenClaim := { program := "ytfjjckaiopbbkaa", sum := "a6554631902d9dfff26b71c07d4abb54c03e25357bde52e7cde7b28ffc733acf", func := "noria/norialaw12.ProgFinds", spec := "progFinds", unfollowed := true, recurses := true, loops := true, apart := false }
def ProgFindsSaid : Prop := progFindsRow.holds Try.pinned (OpenSpec.ofChange progFindsSpec)

/-- ITS FALSE NEIGHBOUR: 'it returns false'. Refute it at one input. -/
def progFindsWrong : ChangeSpec := { name := "progFinds", fn := fun _ => fun
  | [d1, d2] => { results := [.lit (.bool false)], args := [d1, d2] }
  | _ => none }
def ProgFindsWrongFalsely : Prop := progFindsRow.holds Try.pinned (OpenSpec.ofChange progFindsWrong)

/-- 'norialaw22.SchedOrders': WHATEVER THE INPUT: true; the input reads as it did. -/
def schedOrdersSpec : ChangeSpec := { name := "schedOrders", fn := fun _ => fun
  | [d] => { results := [.lit (.bool true)], args := [d] }
  | _ => none }
def schedOrdersRow : OpenClaim := { program := "ytfjjckaiopbbkaa", sum := "a6554631902d9dfff26b71c07d4abb54c03e25357bde52e7cde7b28ffc733acf", func := "noria/norialaw22.SchedOrders", spec := "schedOrders", unfollowed := true, recurses := true, apart := false }
def SchedOrdersSaid : Prop := schedOrdersRow.holds Try.pinned (OpenSpec.ofChange schedOrdersSpec)

/-- ITS FALSE NEIGHBOUR: 'it returns false'. Refute it at one input. -/
def schedOrdersWrong : ChangeSpec := { name := "schedOrders", fn := fun _ => fun
  | [d] => { results := [.lit (.bool false)], args := [d] }
  | _ => none }
def SchedOrdersWrongFalsely : Prop := schedOrdersRow.holds Try.pinned (OpenSpec.ofChange schedOrdersWrong)

/-- 'norialaw12.ProgSame': WHATEVER THE INPUT: true; the input reads as it did. -/
def progSameSpec : ChangeSpec := { name := "progSame", fn := fun _ => fun
  | [d1, d2] => { results := [.lit (.bool true)], args := [d1, d2] }
  | _ => none }
def progSameRow : OpenClaim := { program := "ytfjjckaiopbbkaa", sum := "a6554631902d9dfff26b71c07d4abb54c03e25357bde52e7cde7b28ffc733acf", func := "noria/norialaw12.ProgSame", spec := "progSame", unfollowed := true, recurses := true, loops := true, apart := false }
def ProgSameSaid : Prop := progSameRow.holds Try.pinned (OpenSpec.ofChange progSameSpec)

/-- ITS FALSE NEIGHBOUR: 'it returns false'. Refute it at one input. -/
def progSameWrong : ChangeSpec := { name := "progSame", fn := fun _ => fun
  | [d1, d2] => { results := [.lit (.bool false)], args := [d1, d2] }
  | _ => none }
def ProgSameWrongFalsely : Prop := progSameRow.holds Try.pinned (OpenSpec.ofChange progSameWrong)

/-- 'norialaw18.CauseOrders': WHATEVER THE INPUT: true; the input reads as it did. -/
def causeOrdersSpec : ChangeSpec := { name := "causeOrders", fn := fun _ => fun
  | [d] => { results := [.lit (.bool true)], args := [d] }
  | _ => none }
def causeOrdersRow : OpenClaim := { program := "ytfjjckaiopbbkaa", sum := "a6554631902d9dfff26b71c07d4abb54c03e25357bde52e7cde7b28ffc733acf", func := "noria/norialaw18.CauseOrders", spec := "causeOrders", unfollowed := true, recurses := true, loops := true, apart := false }
def CauseOrdersSaid : Prop := causeOrdersRow.holds Try.pinned (OpenSpec.ofChange causeOrdersSpec)

/-- ITS FALSE NEIGHBOUR: 'it returns false'. Refute it at one input. -/
def causeOrdersWrong : ChangeSpec := { name := "causeOrders", fn := fun _ => fun
  | [d] => { results := [.lit (.bool false)], args := [d] }
  | _ => none }
def CauseOrdersWrongFalsely : Prop := causeOrdersRow.holds Try.pinned (OpenSpec.ofChange causeOrdersWrong)

/-- 'norialaw18.CauseReads': WHATEVER THE INPUT: true; the input reads as it did. -/
def causeReadsSpec : ChangeSpec := { name := "causeReads", fn := fun _ => fun
  | [d] => { results := [.lit (.bool true)], args := [d] }
  | _ => none }
def causeReadsRow : OpenClaim := { program := "ytfjjckaiopbbkaa", sum := "a6554631902d9dfff26b71c07d4abb54c03e25357bde52e7cde7b28ffc733acf", func := "noria/norialaw18.CauseReads", spec := "causeReads", unfollowed := true, recurses := true, loops := true, apart := false }
def CauseReadsSaid : Prop := causeReadsRow.holds Try.pinned (OpenSpec.ofChange causeReadsSpec)

/-- ITS FALSE NEIGHBOUR: 'it returns false'. Refute it at one input. -/
def causeReadsWrong : ChangeSpec := { name := "causeReads", fn := fun _ => fun
  | [d] => { results := [.lit (.bool false)], args := [d] }
  | _ => none }
def CauseReadsWrongFalsely : Prop := causeReadsRow.holds Try.pinned (OpenSpec.ofChange causeReadsWrong)

/-- 'norialaw17.ClockFits': WHATEVER THE INPUT: true; the input reads as it did. -/
def clockFitsSpec : ChangeSpec := { name := "clockFits", fn := fun _ => fun
  | [d1, d2, d3] => { results := [.lit (.bool true)], args := [d1, d2, d3] }
  | _ => none }
def clockFitsRow : OpenClaim := { program := "ytfjjckaiopbbkaa", sum := "a6554631902d9dfff26b71c07d4abb54c03e25357bde52e7cde7b28ffc733acf", func := "noria/norialaw17.ClockFits", spec := "clockFits", unfollowed := true, recurses := true, loops := true, apart := false }
def ClockFitsSaid : Prop := clockFitsRow.holds Try.pinned (OpenSpec.ofChange clockFitsSpec)

/-- ITS FALSE NEIGHBOUR: 'it returns false'. Refute it at one input. -/
def clockFitsWrong : ChangeSpec := { name := "clockFits", fn := fun _ => fun
  | [d1, d2, d3] => { results := [.lit (.bool false)], args := [d1, d2, d3] }
  | _ => none }
def ClockFitsWrongFalsely : Prop := clockFitsRow.holds Try.pinned (OpenSpec.ofChange clockFitsWrong)

/-- 'norialaw17.ClockOne': WHATEVER THE INPUT: true; the input reads as it did. -/
def clockOneSpec : ChangeSpec := { name := "clockOne", fn := fun _ => fun
  | [d1, d2, d3] => { results := [.lit (.bool true)], args := [d1, d2, d3] }
  | _ => none }
def clockOneRow : OpenClaim := { program := "ytfjjckaiopbbkaa", sum := "a6554631902d9dfff26b71c07d4abb54c03e25357bde52e7cde7b28ffc733acf", func := "noria/norialaw17.ClockOne", spec := "clockOne", unfollowed := true, recurses := true, loops := true, apart := false }
def ClockOneSaid : Prop := clockOneRow.holds Try.pinned (OpenSpec.ofChange clockOneSpec)

/-- ITS FALSE NEIGHBOUR: 'it returns false'. Refute it at one input. -/
def clockOneWrong : ChangeSpec := { name := "clockOne", fn := fun _ => fun
  | [d1, d2, d3] => { results := [.lit (.bool false)], args := [d1, d2, d3] }
  | _ => none }
def ClockOneWrongFalsely : Prop := clockOneRow.holds Try.pinned (OpenSpec.ofChange clockOneWrong)

/- THE SECOND FORM. 'bulk': how many values and letters a reading holds, each counted each time it is reached (what is shared counts as often as it is met; a slice's spare places count too). A statement '..UptoSaid' is the law's where the arguments, and the package variables that the reading takes, are together of bulk at most 1048576: NARROWER than '..Said'. Prove '..Said' where nothing that the law and all that it calls make is longer than what came in: it says more and counts as full. Else prove '..UptoSaid'. A law counts once. -/
mutual
def uptoBulk {H : Type} : DataW H → Nat
  | .lit (.string bytes) => bytes.length + 1
  | .lit _ => 1
  | .nil => 1
  | .ptr d => uptoBulk d + 1
  | .slice elems spare => uptoBulkAll elems + uptoBulkAll spare + 1
  | .agg parts => uptoBulkAll parts + 1
  | .iface _ d => uptoBulk d + 1
  | .map entries => uptoBulkEntries entries + 1
  | .held _ => 1
def uptoBulkAll {H : Type} : List (DataW H) → Nat
  | [] => 0
  | d :: r => uptoBulk d + uptoBulkAll r
def uptoBulkEntries {H : Type} : List (Lit × DataW H) → Nat
  | [] => 0
  | x :: r => uptoBulkEntry x + uptoBulkEntries r
def uptoBulkEntry {H : Type} : Lit × DataW H → Nat
  | (.string bytes, d) => bytes.length + uptoBulk d + 1
  | (_, d) => uptoBulk d + 1
 end
def uptoSmall : (H : Type) → List (DataW H) → Bool := fun _ ds => decide (uptoBulkAll ds ≤ 1048576)
def OpenSpec.upto (s : _root_.Go.ChangeSpec) : _root_.Go.OpenSpec := { _root_.Go.OpenSpec.ofChange s with cond := some uptoSmall }

/-- 'norialaw19.StartLate', WHERE WHAT IT READS IS OF BULK AT MOST 1048576: true; the input reads as it did. -/
def startLateUptoRow : OpenClaim := { program := "ytfjjckaiopbbkaa", sum := "a6554631902d9dfff26b71c07d4abb54c03e25357bde52e7cde7b28ffc733acf", func := "noria/norialaw19.StartLate", spec := "startLate", unfollowed := true, recurses := true, loops := true, apart := false, narrowed := true }
def StartLateUptoSaid : Prop := startLateUptoRow.holds Try.pinned (OpenSpec.upto startLateSpec)

/-- 'norialaw19.StartPlain', WHERE WHAT IT READS IS OF BULK AT MOST 1048576: true; the input reads as it did. -/
def startPlainUptoRow : OpenClaim := { program := "ytfjjckaiopbbkaa", sum := "a6554631902d9dfff26b71c07d4abb54c03e25357bde52e7cde7b28ffc733acf", func := "noria/norialaw19.StartPlain", spec := "startPlain", unfollowed := true, recurses := true, loops := true, apart := false, narrowed := true }
def StartPlainUptoSaid : Prop := startPlainUptoRow.holds Try.pinned (OpenSpec.upto startPlainSpec)

/-- 'norialaw12.ProgClocks', WHERE WHAT IT READS IS OF BULK AT MOST 1048576: true; the input reads as it did. -/
def progClocksUptoRow : OpenClaim := { program := "ytfjjckaiopbbkaa", sum := "a6554631902d9dfff26b71c07d4abb54c03e25357bde52e7cde7b28ffc733acf", func := "noria/norialaw12.ProgClocks", spec := "progClocks", unfollowed := true, recurses := true, loops := true, apart := false, narrowed := true }
def ProgClocksUptoSaid : Prop := progClocksUptoRow.holds Try.pinned (OpenSpec.upto progClocksSpec)

/-- 'norialaw12.ProgFinds', WHERE WHAT IT READS IS OF BULK AT MOST 1048576: true; the input reads as it did. -/
def progFindsUptoRow : OpenClaim := { program := "ytfjjckaiopbbkaa", sum := "a6554631902d9dfff26b71c07d4abb54c03e25357bde52e7cde7b28ffc733acf", func := "noria/norialaw12.ProgFinds", spec := "progFinds", unfollowed := true, recurses := true, loops := true, apart := false, narrowed := true }
def ProgFindsUptoSaid : Prop := progFindsUptoRow.holds Try.pinned (OpenSpec.upto progFindsSpec)

/-- 'norialaw22.SchedOrders', WHERE WHAT IT READS IS OF BULK AT MOST 1048576: true; the input reads as it did. -/
def schedOrdersUptoRow : OpenClaim := { program := "ytfjjckaiopbbkaa", sum := "a6554631902d9dfff26b71c07d4abb54c03e25357bde52e7cde7b28ffc733acf", func := "noria/norialaw22.SchedOrders", spec := "schedOrders", unfollowed := true, recurses := true, apart := false, narrowed := true }
def SchedOrdersUptoSaid : Prop := schedOrdersUptoRow.holds Try.pinned (OpenSpec.upto schedOrdersSpec)

/-- 'norialaw12.ProgSame', WHERE WHAT IT READS IS OF BULK AT MOST 1048576: true; the input reads as it did. -/
def progSameUptoRow : OpenClaim := { program := "ytfjjckaiopbbkaa", sum := "a6554631902d9dfff26b71c07d4abb54c03e25357bde52e7cde7b28ffc733acf", func := "noria/norialaw12.ProgSame", spec := "progSame", unfollowed := true, recurses := true, loops := true, apart := false, narrowed := true }
def ProgSameUptoSaid : Prop := progSameUptoRow.holds Try.pinned (OpenSpec.upto progSameSpec)

/-- 'norialaw18.CauseOrders', WHERE WHAT IT READS IS OF BULK AT MOST 1048576: true; the input reads as it did. -/
def causeOrdersUptoRow : OpenClaim := { program := "ytfjjckaiopbbkaa", sum := "a6554631902d9dfff26b71c07d4abb54c03e25357bde52e7cde7b28ffc733acf", func := "noria/norialaw18.CauseOrders", spec := "causeOrders", unfollowed := true, recurses := true, loops := true, apart := false, narrowed := true }
def CauseOrdersUptoSaid : Prop := causeOrdersUptoRow.holds Try.pinned (OpenSpec.upto causeOrdersSpec)

/-- 'norialaw18.CauseReads', WHERE WHAT IT READS IS OF BULK AT MOST 1048576: true; the input reads as it did. -/
def causeReadsUptoRow : OpenClaim := { program := "ytfjjckaiopbbkaa", sum := "a6554631902d9dfff26b71c07d4abb54c03e25357bde52e7cde7b28ffc733acf", func := "noria/norialaw18.CauseReads", spec := "causeReads", unfollowed := true, recurses := true, loops := true, apart := false, narrowed := true }
def CauseReadsUptoSaid : Prop := causeReadsUptoRow.holds Try.pinned (OpenSpec.upto causeReadsSpec)

/-- 'norialaw17.ClockFits', WHERE WHAT IT READS IS OF BULK AT MOST 1048576: true; the input reads as it did. -/
def clockFitsUptoRow : OpenClaim := { program := "ytfjjckaiopbbkaa", sum := "a6554631902d9dfff26b71c07d4abb54c03e25357bde52e7cde7b28ffc733acf", func := "noria/norialaw17.ClockFits", spec := "clockFits", unfollowed := true, recurses := true, loops := true, apart := false, narrowed := true }
def ClockFitsUptoSaid : Prop := clockFitsUptoRow.holds Try.pinned (OpenSpec.upto clockFitsSpec)

/-- 'norialaw17.ClockOne', WHERE WHAT IT READS IS OF BULK AT MOST 1048576: true; the input reads as it did. -/
def clockOneUptoRow : OpenClaim := { program := "ytfjjckaiopbbkaa", sum := "a6554631902d9dfff26b71c07d4abb54c03e25357bde52e7cde7b28ffc733acf", func := "noria/norialaw17.ClockOne", spec := "clockOne", unfollowed := true, recurses := true, loops := true, apart := false, narrowed := true }
def ClockOneUptoSaid : Prop := clockOneUptoRow.holds Try.pinned (OpenSpec.upto clockOneSpec)

end Rows
end Go.Proofs.Ytfjjckaiopbbkaa
