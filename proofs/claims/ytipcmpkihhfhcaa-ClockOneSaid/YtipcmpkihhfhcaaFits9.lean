import Derived.Test.YtipcmpkihhfhcaaFits7
import Derived.Test.YtipcmpkihhfhcaaFits8
namespace Go.Proofs.Ytipcmpkihhfhcaa
open Go.Abs
set_option maxRecDepth 20000
set_option linter.unusedSimpArgs false
set_option linter.unusedVariables false
set_option maxHeartbeats 1000000
attribute [local irreducible] vc vcOps vcStep vcGuard prK hrK gK gsK brK callK ElemK SeqK BlockK ScopeK OpsK CallK LoopK LoopGo finPost ACall PCall PCallE BCall vqOps vqStep vqGuard qrK heK pcK gqK gqsK QOpsK qcallK DrawK
theorem rowN_len (L : List DEnum) (n : DNode) (nm : ByteArray) : (rowN L n nm).1.length ≤ 13 := by
  unfold rowN rowL
  have := clock_len n nm
  split
  · split
    · simpa using this
    · simp
  · simp
theorem drop_two {l : List Ex} {x : Ex} (h : l.length = 2) (hx : l[((1 : Int)).toNat]? = some x) : l.drop 1 = [x] := by
  match l, h with
  | [a, b], _ => simp at hx; simp [hx]
theorem fitsL_no {R : ByteArray → List DCond × Bool} {L : List DEnum} {l : List Ex} {x : Ex} {on : List DCond} (hx : x ∈ l) (h : fitsF R L x on = false) : fitsL R L l on = false := by
  rw [fitsL_all, List.all_eq_false]
  exact ⟨x, hx, by simp [h]⟩
end Go.Proofs.Ytipcmpkihhfhcaa
