/- For every input the law CauseReads returns true. No further condition. -/
import Derived.Test.YtfjjckaiopbbkaaRows
import Derived.Test.YtfjjckaiopbbkaaCause5
import Derived.ProofKit
namespace Go.Proofs.Ytfjjckaiopbbkaa
open Go.Abs
set_option maxRecDepth 20000
set_option linter.unusedSimpArgs false
set_option linter.unusedVariables false
set_option maxHeartbeats 1000000
attribute [local irreducible] vc vcOps vcStep vcGuard prK hrK gK gsK brK callK ElemK SeqK BlockK ScopeK OpsK CallK LoopK LoopGo finPost ACall PCall PCallE BCall vqOps vqStep vqGuard qrK heK pcK gqK gqsK QOpsK qcallK DrawK
open Go.ChangeShapes Go.WideShapes Go.ChangeAt Go.RowKit

theorem law10_ty (xs : List AV) (h : TyAll ti Try.f10.params.toList xs) : PCall Try.prog 10 xs (.raw (.bool true)) := by
  obtain ⟨n, a, r, rfl, ha, rfl⟩ := h
  obtain ⟨e, he, ho⟩ := ty_ex ha
  rw [show mkT (ti 25) a = e.enc from he]
  exact law10 e
set_option maxRecDepth 100000 in
theorem lifted_causeReads (os : Os) (started : os.Started) (H : Type) (enc : TypeId × Value → H) :
    ReturnsInHanded {} Try.checked os 10 .any (Rows.causeReadsSpec.pre6 enc Try.prog Try.f10 Rows.causeReadsRow.domain false) (Rows.causeReadsSpec.post enc Try.prog Try.f10 false true false false) := by
  refine returnsInHanded_of_change (C := Try.checked) (by kernel_rfl) started (by kernel_rfl) Try.func10
    (ChangeSpec.witness6 (enc := enc) (C := Try.checked) false ⟨#[], #[.agg #[.int .i64 0, .int .i64 0, .string ⟨#[]⟩, .int .i64 0, .slice none 0 0, .slice none 0 0]], []⟩ 40 (by kernel_rfl) (by kernel_rfl) (by kernel_rfl) (by kernel_rfl)) ?_
  intro W base args ds gs before hval hW hcnd _
  exact law_contract (ts := dataTypes) (tb := 4) tabOK dataClosed (by kernel_rfl) (by kernel_rfl) (by kernel_rfl) (by kernel_rfl) rfl (fun ds h => by exact match ds, h with | [d0], _ => ⟨rfl, rfl, rfl⟩) law10_ty W base args ds gs before hval hW

theorem causeReads_holds : Rows.CauseReadsSaid :=
  OpenClaim.holds_of_wide 10 Try.f10 rfl rfl rfl rfl rfl rfl rfl ⟨rfl, rfl, rfl, rfl, rfl⟩ rfl rfl rfl rfl rfl (by kernel_rfl) Try.func10 (by kernel_rfl)
    (of_decide_eq_true (by kernel_rfl)) (by unfold Func.isWrapper; first | (rw [if_pos (by decide +kernel)]; kernel_rfl) | (rw [if_neg (by decide +kernel)]; exact ⟨rfl, rfl⟩))
    (fun os started H enc _ => lifted_causeReads os started H enc)
#print axioms causeReads_holds

end Go.Proofs.Ytfjjckaiopbbkaa
