import Derived.Test.YtipcmpkihhfhcaaRightR
namespace Go.Proofs.Ytipcmpkihhfhcaa
open Go.Abs
set_option maxRecDepth 20000
set_option linter.unusedSimpArgs false
set_option linter.unusedVariables false
set_option maxHeartbeats 1000000
attribute [local irreducible] vc vcOps vcStep vcGuard prK hrK gK gsK brK callK ElemK SeqK BlockK ScopeK OpsK CallK LoopK LoopGo finPost ACall PCall PCallE BCall vqOps vqStep vqGuard qrK heK pcK gqK gqsK QOpsK qcallK DrawK
theorem n6 : (Try.f6.name == "runtime.NumGoroutine") = false := by kernel_rfl
theorem named50 (e : Ex) (hb : (parts e).length ≤ 100000) : PCall Try.prog 6 [e.enc] (.b (decide (0 < (varsE (parts e)).length))) := by
  refine pcall_of_vc tabOK Try.func6 n6 rfl (by repeat' first | exact pure_nil | refine pure_cons ?_ ?_ | exact .raw _ | exact pure_enc _ | exact pure_lst _ | exact pure_strs _ | exact pure_ints _ | exact DTy.pure _ | exact DTy.pures _ | exact DEnum.pure _ | exact DEnum.pures _ | exact DDecl.pure _ | exact DDecl.pures _ | exact DEq.pure _ | exact DEq.pures _ | exact DNode.pure _ | exact DNode.pures _ | exact DProg.pure _ | exact DProg.pures _ | exact DCond.pure _ | exact DCond.pures _ | exact DAtom.pure _ | exact DAtom.pures _ | exact DPlain.pure _ | exact DPlain.pures _ | exact DVar.pure _ | exact DVar.pures _ | exact DFlow.pure _ | exact DFlow.pures _ | exact DFlows.pure _ | exact DFlows.pures _ | exact DAsked.pure _ | exact DAsked.pures _ | exact DFault.pure _ | exact DFault.pures _ | exact DCell.pure _ | exact DCell.pures _ | exact DReply.pure _ | exact DReply.pures _ | exact DAsk.pure _ | exact DAsk.pures _ | exact DOp.pure _ | exact DOp.pures _ | exact pure_list (fun x => DDecl.pures x) _ | exact .fn _ _ _ pure_nil pure_nil | refine .agg _ ?_ | refine .tup _ ?_ | assumption) (by repeat' first | exact pure_nil | refine pure_cons ?_ ?_ | exact .raw _ | exact pure_enc _ | exact pure_lst _ | exact pure_strs _ | exact pure_ints _ | exact DTy.pure _ | exact DTy.pures _ | exact DEnum.pure _ | exact DEnum.pures _ | exact DDecl.pure _ | exact DDecl.pures _ | exact DEq.pure _ | exact DEq.pures _ | exact DNode.pure _ | exact DNode.pures _ | exact DProg.pure _ | exact DProg.pures _ | exact DCond.pure _ | exact DCond.pures _ | exact DAtom.pure _ | exact DAtom.pures _ | exact DPlain.pure _ | exact DPlain.pures _ | exact DVar.pure _ | exact DVar.pures _ | exact DFlow.pure _ | exact DFlow.pures _ | exact DFlows.pure _ | exact DFlows.pures _ | exact DAsked.pure _ | exact DAsked.pures _ | exact DFault.pure _ | exact DFault.pures _ | exact DCell.pure _ | exact DCell.pures _ | exact DReply.pure _ | exact DReply.pures _ | exact DAsk.pure _ | exact DAsk.pures _ | exact DOp.pure _ | exact DOp.pures _ | exact pure_list (fun x => DDecl.pures x) _ | exact .fn _ _ _ pure_nil pure_nil | refine .agg _ ?_ | refine .tup _ ?_ | assumption) (n := 9) rfl (rs := [.tmp 2]) rfl ?_
  repeat' first
    | exact finB rfl
    | exact finI rfl
    | exact finP rfl
    | exact absurd rfl (by assumption)
    | simp only [go_sem, Nat.reduceAdd, Nat.reduceSub, Nat.reduceMul, Nat.reduceLT, Nat.reduceLeDiff, Nat.reduceEqDiff, Nat.reduceBEq, Nat.reduceBNe, Nat.reducePow, Int.reduceEq, Int.reduceNe, Int.reduceLT, Int.reduceLE, Int.reduceGT, Int.reduceGE, Int.reduceAdd, Int.reduceSub, Int.reduceNeg, Int.reduceMul, not_true_eq_false, not_false_eq_true, true_and, and_true, Int.reduceToNat]
    | (intro _)
    | refine brK_dec (fun _ => ?_) (fun _ => ?_)
    | refine brK_any ?_ ?_
    | refine gK_dec (fun _ => ?_) (fun _ => ?_)
    | refine gK_any ?_ ?_
    | refine gqK_dec (fun _ => ?_) (fun _ => ?_)
    | refine ⟨by omega, ?_⟩
    | refine elemHave (by omega) (by assumption) ?_
    | refine elemMap (by omega) (by omega) (fun x hx => ?_)
    | refine drawK mo (by kernel_rfl) ?_
    | (refine PCall.call (vars26 e hb) ?_)
    | (exact finBq rfl (by simp))
end Go.Proofs.Ytipcmpkihhfhcaa
