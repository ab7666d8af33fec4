/- For every input the law StartLate returns true. No further condition. -/
import Derived.Test.YtfjjckaiopbbkaaRows
import Derived.Test.YtfjjckaiopbbkaaLive19
import Derived.Test.YtfjjckaiopbbkaaData
import Derived.ProofKit
namespace Go.Proofs.Ytfjjckaiopbbkaa
open Go.Abs
set_option linter.unusedSimpArgs false
set_option linter.unusedVariables false
set_option maxHeartbeats 4000000
attribute [local irreducible] vc vcOps vcStep vcGuard prK hrK gK gsK brK callK ElemK SeqK BlockK ScopeK OpsK CallK LoopK LoopGo finPost ACall PCall PCallE BCall vqOps vqStep vqGuard qrK heK pcK gqK gqsK QOpsK qcallK DrawK
open Go.ChangeShapes Go.WideShapes Go.ChangeAt Go.RowKit

theorem law3_ty (xs : List AV) (h : TyAll ti Try.f3.params.toList xs) : PCall Try.prog 3 xs (.raw (.bool true)) := by
  obtain ⟨n, a, r, rfl, ha, rfl⟩ := h
  obtain ⟨e, he, ho⟩ := ty_ex ha
  have : mkT (ti 25) a = e.enc := he
  rw [this]
  exact law3 e

set_option maxRecDepth 100000 in
theorem lifted_startLate (os : Os) (started : os.Started) (H : Type) (enc : TypeId × Value → H) :
    ReturnsInHanded {} Try.checked os 3 .any (Rows.startLateSpec.pre6 enc Try.prog Try.f3 Rows.startLateRow.domain false) (Rows.startLateSpec.post enc Try.prog Try.f3 false true false false) := by
  refine returnsInHanded_of_change (C := Try.checked) (by kernel_rfl) started (by kernel_rfl) Try.func3
    (ChangeSpec.witness6 (enc := enc) (C := Try.checked) false ⟨#[], #[.agg #[.int .i64 0, .int .i64 0, .string ⟨#[]⟩, .int .i64 0, .slice none 0 0, .slice none 0 0]], []⟩ 40 (by kernel_rfl) (by kernel_rfl) (by kernel_rfl) (by kernel_rfl)) ?_
  intro W base args ds gs before hval hW hcnd _
  exact law_contract (ts := dataTypes) (tb := 4) tabOK dataClosed (by kernel_rfl) (by kernel_rfl) (by kernel_rfl) (by kernel_rfl) rfl (fun ds h => by exact match ds, h with | [d0], _ => ⟨rfl, rfl, rfl⟩) law3_ty W base args ds gs before hval hW

theorem startLate_holds : Rows.StartLateSaid :=
  OpenClaim.holds_of_wide 3 Try.f3 rfl rfl rfl rfl rfl rfl rfl ⟨rfl, rfl, rfl, rfl, rfl⟩ rfl rfl rfl rfl rfl (by kernel_rfl) Try.func3 (by kernel_rfl)
    (of_decide_eq_true (by kernel_rfl)) (by unfold Func.isWrapper; first | (rw [if_pos (by decide +kernel)]; kernel_rfl) | (rw [if_neg (by decide +kernel)]; exact ⟨rfl, rfl⟩))
    (fun os started H enc _ => lifted_startLate os started H enc)
#print axioms startLate_holds

end Go.Proofs.Ytfjjckaiopbbkaa
