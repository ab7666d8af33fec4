import Derived.Test.YtipcmpkihhfhcaaDoorRightD
import Derived.Test.YtipcmpkihhfhcaaDoorIdP2
import Derived.Test.YtipcmpkihhfhcaaDoorSlices1
import Derived.Test.YtipcmpkihhfhcaaDoorAbsT
namespace Go.Proofs.YtipcmpkihhfhcaaDoor
open Go.Abs
set_option maxRecDepth 20000
set_option linter.unusedSimpArgs false
set_option linter.unusedVariables false
set_option maxHeartbeats 1000000
attribute [local irreducible] vc vcOps vcStep vcGuard prK hrK gK gsK brK callK ElemK SeqK BlockK ScopeK OpsK CallK LoopK LoopGo finPost ACall PCall PCallE BCall vqOps vqStep vqGuard qrK heK pcK gqK gqsK QOpsK qcallK DrawK
theorem n40 : (Tryd.f40.name == "runtime.NumGoroutine") = false := by kernel_rfl
theorem nothing88 (e : Ex) (n : Int) : PCall Tryd.prog 40 [e.enc, .i n] (nothingE e n).enc := by
  refine pcall_of_vc tabOK Tryd.func40 n40 rfl (by repeat' first | exact pure_nil | refine pure_cons ?_ ?_ | exact .raw _ | exact pure_enc _ | exact pure_lst _ | exact pure_strs _ | exact pure_ints _ | exact DTy.pure _ | exact DTy.pures _ | exact DEnum.pure _ | exact DEnum.pures _ | exact DDecl.pure _ | exact DDecl.pures _ | exact DEq.pure _ | exact DEq.pures _ | exact DNode.pure _ | exact DNode.pures _ | exact DProg.pure _ | exact DProg.pures _ | exact DCond.pure _ | exact DCond.pures _ | exact DAtom.pure _ | exact DAtom.pures _ | exact DPlain.pure _ | exact DPlain.pures _ | exact DVar.pure _ | exact DVar.pures _ | exact DFlow.pure _ | exact DFlow.pures _ | exact DFlows.pure _ | exact DFlows.pures _ | exact DAsked.pure _ | exact DAsked.pures _ | exact DFault.pure _ | exact DFault.pures _ | exact DCell.pure _ | exact DCell.pures _ | exact DReply.pure _ | exact DReply.pures _ | exact DAsk.pure _ | exact DAsk.pures _ | exact DOp.pure _ | exact DOp.pures _ | exact pure_list (fun x => DDecl.pures x) _ | exact .fn _ _ _ pure_nil pure_nil | refine .agg _ ?_ | refine .tup _ ?_ | assumption) (DRule.pure _) (n := 17) rfl (rs := [.cell 4 67]) rfl ?_
  repeat' first
    | simp only [go_sem, Nat.reduceAdd, Nat.reduceSub, Nat.reduceMul, Nat.reduceLT, Nat.reduceLeDiff, Nat.reduceEqDiff, Nat.reduceBEq, Nat.reduceBNe, Nat.reducePow, Int.reduceEq, Int.reduceNe, Int.reduceLT, Int.reduceLE, Int.reduceGT, Int.reduceGE, Int.reduceAdd, Int.reduceSub, Int.reduceNeg, Int.reduceMul, not_true_eq_false, not_false_eq_true, true_and, and_true, Int.reduceToNat]
    | (refine drawC [1] mo (by kernel_rfl) ?_)
    | exact finRule rfl rfl
theorem n39 : (Tryd.f39.name == "runtime.NumGoroutine") = false := by kernel_rfl
theorem leaf87 (e : Ex) (hn : e.name.size ≤ 1000000) : PCall Tryd.prog 39 [e.enc] (leafE e).enc := by
  refine pcall_of_vc tabOK Tryd.func39 n39 rfl (by repeat' first | exact pure_nil | refine pure_cons ?_ ?_ | exact .raw _ | exact pure_enc _ | exact pure_lst _ | exact pure_strs _ | exact pure_ints _ | exact DTy.pure _ | exact DTy.pures _ | exact DEnum.pure _ | exact DEnum.pures _ | exact DDecl.pure _ | exact DDecl.pures _ | exact DEq.pure _ | exact DEq.pures _ | exact DNode.pure _ | exact DNode.pures _ | exact DProg.pure _ | exact DProg.pures _ | exact DCond.pure _ | exact DCond.pures _ | exact DAtom.pure _ | exact DAtom.pures _ | exact DPlain.pure _ | exact DPlain.pures _ | exact DVar.pure _ | exact DVar.pures _ | exact DFlow.pure _ | exact DFlow.pures _ | exact DFlows.pure _ | exact DFlows.pures _ | exact DAsked.pure _ | exact DAsked.pures _ | exact DFault.pure _ | exact DFault.pures _ | exact DCell.pure _ | exact DCell.pures _ | exact DReply.pure _ | exact DReply.pures _ | exact DAsk.pure _ | exact DAsk.pures _ | exact DOp.pure _ | exact DOp.pures _ | exact pure_list (fun x => DDecl.pures x) _ | exact .fn _ _ _ pure_nil pure_nil | refine .agg _ ?_ | refine .tup _ ?_ | assumption) (DRule.pure _) (n := 44) rfl (rs := [.cell 2 67]) rfl ?_
  simp only [go_sem, Nat.reduceAdd, Nat.reduceSub, Nat.reduceMul, Nat.reduceLT, Nat.reduceLeDiff, Nat.reduceEqDiff, Nat.reduceBEq, Nat.reduceBNe, Nat.reducePow, Int.reduceEq, Int.reduceNe, Int.reduceLT, Int.reduceLE, Int.reduceGT, Int.reduceGE, Int.reduceAdd, Int.reduceSub, Int.reduceNeg, Int.reduceMul, not_true_eq_false, not_false_eq_true, true_and, and_true, Int.reduceToNat]
  refine PCall.call (nothing88 e 0) ?_
  repeat' first
    | simp only [go_sem, Nat.reduceAdd, Nat.reduceSub, Nat.reduceMul, Nat.reduceLT, Nat.reduceLeDiff, Nat.reduceEqDiff, Nat.reduceBEq, Nat.reduceBNe, Nat.reducePow, Int.reduceEq, Int.reduceNe, Int.reduceLT, Int.reduceLE, Int.reduceGT, Int.reduceGE, Int.reduceAdd, Int.reduceSub, Int.reduceNeg, Int.reduceMul, not_true_eq_false, not_false_eq_true, true_and, and_true, Int.reduceToNat, nothingE]
    | refine brK_dec (fun _ => ?_) (fun _ => ?_)
    | refine gK_dec (fun _ => ?_) (fun _ => ?_)
    | refine PCall.call (low6 _) ?_
    | refine PCall.call (high8 _) ?_
    | refine PCall.call (path12 _ hn) ?_
    | (refine drawC [2] mo (by kernel_rfl) ?_)
    | (exact finRule rfl (by simp [leafE, nothingE, *]))
theorem ofA_eq (x : DRule) : x.enc = .agg [.b x.number, .b x.name, .b x.op, .i x.least, .i x.most, .i x.arms] := rfl
theorem n29 : (Tryd.f29.name == "runtime.NumGoroutine") = false := by kernel_rfl
theorem of68 (e : Ex) (hn : e.name.size ≤ 1000000) : PCall Tryd.prog 29 [e.enc] (ruleA (ofE e)) := by
  refine pcall_of_vc tabOK Tryd.func29 n29 rfl (by repeat' first | exact pure_nil | refine pure_cons ?_ ?_ | exact .raw _ | exact pure_enc _ | exact pure_lst _ | exact pure_strs _ | exact pure_ints _ | exact DTy.pure _ | exact DTy.pures _ | exact DEnum.pure _ | exact DEnum.pures _ | exact DDecl.pure _ | exact DDecl.pures _ | exact DEq.pure _ | exact DEq.pures _ | exact DNode.pure _ | exact DNode.pures _ | exact DProg.pure _ | exact DProg.pures _ | exact DCond.pure _ | exact DCond.pures _ | exact DAtom.pure _ | exact DAtom.pures _ | exact DPlain.pure _ | exact DPlain.pures _ | exact DVar.pure _ | exact DVar.pures _ | exact DFlow.pure _ | exact DFlow.pures _ | exact DFlows.pure _ | exact DFlows.pures _ | exact DAsked.pure _ | exact DAsked.pures _ | exact DFault.pure _ | exact DFault.pures _ | exact DCell.pure _ | exact DCell.pures _ | exact DReply.pure _ | exact DReply.pures _ | exact DAsk.pure _ | exact DAsk.pures _ | exact DOp.pure _ | exact DOp.pures _ | exact pure_list (fun x => DDecl.pures x) _ | exact .fn _ _ _ pure_nil pure_nil | refine .agg _ ?_ | refine .tup _ ?_ | assumption) (pure_ruleA _) (n := 106) rfl (rs := [.cell 2 67, .tmp 3]) rfl ?_
  repeat' first
    | (exfalso; omega)
    | simp only [go_sem, Nat.reduceAdd, Nat.reduceSub, Nat.reduceMul, Nat.reduceLT, Nat.reduceLeDiff, Nat.reduceEqDiff, Nat.reduceBEq, Nat.reduceBNe, Nat.reducePow, Int.reduceEq, Int.reduceNe, Int.reduceLT, Int.reduceLE, Int.reduceGT, Int.reduceGE, Int.reduceAdd, Int.reduceSub, Int.reduceNeg, Int.reduceMul, not_true_eq_false, not_false_eq_true, true_and, and_true, Int.reduceToNat, nothingE]
    | (intro _)
    | refine brK_dec (fun _ => ?_) (fun _ => ?_)
    | refine gK_dec (fun _ => ?_) (fun _ => ?_)
    | refine gqK_dec (fun _ => ?_) (fun _ => ?_)
    | refine PCall.call (low6 _) ?_
    | refine pcK_of (low6 _) ?_
    | refine PCall.call (leaf87 e hn) ?_
    | refine PCall.call (nothing88 e _) ?_
    | (refine drawC [2] mo (by kernel_rfl) ?_)
    | (exact finRule2 rfl (by simp [ofE, nothingE, *]))
    | (exact finRule2 rfl (by simp [ofE, nothingE, *] <;> omega))
end Go.Proofs.YtipcmpkihhfhcaaDoor
