import Derived.Test.YtipcmpkihhfhcaaFits2
namespace Go.Proofs.Ytipcmpkihhfhcaa
open Go.Abs
set_option maxRecDepth 20000
set_option linter.unusedSimpArgs false
set_option linter.unusedVariables false
set_option maxHeartbeats 1000000
attribute [local irreducible] vc vcOps vcStep vcGuard prK hrK gK gsK brK callK ElemK SeqK BlockK ScopeK OpsK CallK LoopK LoopGo finPost ACall PCall PCallE BCall vqOps vqStep vqGuard qrK heK pcK gqK gqsK QOpsK qcallK DrawK
theorem nodeAt_nat {p : DProg} {k : Nat} : nodeAt p k = p.Nodes[k]? := by simp [nodeAt]
theorem nodeAt_none {p : DProg} {k : Int} : nodeAt p k = none ↔ (k < 0 ∨ k ≥ p.Nodes.length) := by
  unfold nodeAt
  split
  · simp [List.getElem?_eq_none_iff]; omega
  · simp; omega
theorem nodeAt_some {p : DProg} {k : Int} {n : DNode} (h : nodeAt p k = some n) : ∃ j : Nat, k = j ∧ p.Nodes[j]? = some n := by
  unfold nodeAt at h
  split at h
  · exact ⟨k.toNat, by omega, h⟩
  · cases h
abbrev progB (p : DProg) : Blk := .cells 25 [.lst 2 (p.Enums.map DEnum.enc) none, .lst 5 (p.Nodes.map DNode.enc) none]
theorem armA_fst (L : List DEnum) (c : ByteArray) : armA (armF L c) = armA ((armF L c).1, (armF L c).2.1, armOk L c) := rfl
end Go.Proofs.Ytipcmpkihhfhcaa
