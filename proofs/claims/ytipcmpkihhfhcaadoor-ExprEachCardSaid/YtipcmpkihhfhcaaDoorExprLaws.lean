import Derived.Test.YtipcmpkihhfhcaaDoorRightR
import Derived.Test.YtipcmpkihhfhcaaDoorRightP3
import Derived.Test.YtipcmpkihhfhcaaDoorSame3
namespace Go.Proofs.YtipcmpkihhfhcaaDoor
open Go.Abs
set_option maxRecDepth 20000
set_option linter.unusedSimpArgs false
set_option linter.unusedVariables false
set_option maxHeartbeats 1000000
attribute [local irreducible] vc vcOps vcStep vcGuard prK hrK gK gsK brK callK ElemK SeqK BlockK ScopeK OpsK CallK LoopK LoopGo finPost ACall PCall PCallE BCall vqOps vqStep vqGuard qrK heK pcK gqK gqsK QOpsK qcallK DrawK
abbrev exL : Ex := .mk 6 0 ⟨#[]⟩ 3 [] [.mk 3 0 ⟨#[97]⟩ 0 [] [], .mk 1 1 ⟨#[]⟩ 0 [] []]
theorem exL_parts : parts exL = [exL, .mk 3 0 ⟨#[97]⟩ 0 [] [], .mk 1 1 ⟨#[]⟩ 0 [] []] := by simp [parts, partsL]
theorem exL_ok : okE exL := by
  constructor
  · rw [exL_parts]; decide
  · rw [exL_parts]; intro x hx
    simp only [List.mem_cons, List.not_mem_nil, or_false] at hx
    rcases hx with rfl | rfl | rfl <;> exact ⟨by decide, fun a ha => by simp [Ex.arms] at ha⟩
theorem low_a : lowF ⟨#[97]⟩ = true := by decide +kernel
theorem exL_right : rightE exL = true := by
  unfold rightE
  rw [exL_parts]
  have h0 : onceB [] = true := once0 rfl
  simp [partE, numbersE, namedE, armsE, subsE, Ex.kind, Ex.op, Ex.n, Ex.name, Ex.arms, Ex.subs, low_a, depthE, depthL]
theorem exL_vars : varsE (parts exL) = [⟨#[97]⟩] := by rw [exL_parts]; simp [varsE, isV, Ex.kind, Ex.name]
theorem exL_depth : depthE exL = 2 := by simp [depthE, depthL]
theorem weakL (t : Option Nat) : Weak (.agg [.i 6, .i 0, .s ⟨#[]⟩, .i 3, .raw (.slice none 0 0), .lst 6 [.agg [.i 3, .i 0, .s ⟨#[97]⟩, .i 0, .raw (.slice none 0 0), .raw (.slice none 0 0)], .agg [.i 1, .i 1, .s ⟨#[]⟩, .i 0, .raw (.slice none 0 0), .raw (.slice none 0 0)]] t]) exL.enc := by
  repeat' first | exact trivial | exact .nil _ | exact .refl _ | exact .tok _ _ _ | refine ⟨?_, ?_⟩ | refine weak_ex ?_ ?_ | refine weak_subs rfl ?_ | simp only [flat_nil, flat_agg, flat_ex, flat_ex0, enc_cells, List.cons_append, List.nil_append, Ex.kind, Ex.n, Ex.name, Ex.op, Ex.arms, Ex.subs]
theorem n6 : (Tryd.f6.name == "runtime.NumGoroutine") = false := by kernel_rfl
theorem live15  : PCall Tryd.prog 6 [] (.b true) := by
  refine pcall_of_vc tabOK Tryd.func6 n6 rfl (by repeat' first | exact pure_nil | refine pure_cons ?_ ?_ | exact .raw _ | exact pure_enc _ | exact pure_lst _ | exact pure_strs _ | exact pure_ints _ | exact DTy.pure _ | exact DTy.pures _ | exact DEnum.pure _ | exact DEnum.pures _ | exact DDecl.pure _ | exact DDecl.pures _ | exact DEq.pure _ | exact DEq.pures _ | exact DNode.pure _ | exact DNode.pures _ | exact DProg.pure _ | exact DProg.pures _ | exact DCond.pure _ | exact DCond.pures _ | exact DAtom.pure _ | exact DAtom.pures _ | exact DPlain.pure _ | exact DPlain.pures _ | exact DVar.pure _ | exact DVar.pures _ | exact DFlow.pure _ | exact DFlow.pures _ | exact DFlows.pure _ | exact DFlows.pures _ | exact DAsked.pure _ | exact DAsked.pures _ | exact DFault.pure _ | exact DFault.pures _ | exact DCell.pure _ | exact DCell.pures _ | exact DReply.pure _ | exact DReply.pures _ | exact DAsk.pure _ | exact DAsk.pures _ | exact DOp.pure _ | exact DOp.pures _ | exact pure_list (fun x => DDecl.pures x) _ | exact .fn _ _ _ pure_nil pure_nil | refine .agg _ ?_ | refine .tup _ ?_ | assumption) (by repeat' first | exact pure_nil | refine pure_cons ?_ ?_ | exact .raw _ | exact pure_enc _ | exact pure_lst _ | exact pure_strs _ | exact pure_ints _ | exact DTy.pure _ | exact DTy.pures _ | exact DEnum.pure _ | exact DEnum.pures _ | exact DDecl.pure _ | exact DDecl.pures _ | exact DEq.pure _ | exact DEq.pures _ | exact DNode.pure _ | exact DNode.pures _ | exact DProg.pure _ | exact DProg.pures _ | exact DCond.pure _ | exact DCond.pures _ | exact DAtom.pure _ | exact DAtom.pures _ | exact DPlain.pure _ | exact DPlain.pures _ | exact DVar.pure _ | exact DVar.pures _ | exact DFlow.pure _ | exact DFlow.pures _ | exact DFlows.pure _ | exact DFlows.pures _ | exact DAsked.pure _ | exact DAsked.pures _ | exact DFault.pure _ | exact DFault.pures _ | exact DCell.pure _ | exact DCell.pures _ | exact DReply.pure _ | exact DReply.pures _ | exact DAsk.pure _ | exact DAsk.pures _ | exact DOp.pure _ | exact DOp.pures _ | exact pure_list (fun x => DDecl.pures x) _ | exact .fn _ _ _ pure_nil pure_nil | refine .agg _ ?_ | refine .tup _ ?_ | assumption) (n := 24) rfl (rs := [.tmp 0]) rfl ?_
  have hb : (parts exL).length ≤ 100000 := by rw [exL_parts]; decide
  have h3 : (parts exL).length = 3 := by rw [exL_parts]; rfl
  have hsz := size20 exL hb
  have hdp := depth22 exL hb
  have hvs := vars25 exL hb
  have hrt := right16 exL exL_ok
  rw [h3] at hsz
  rw [exL_depth] at hdp
  rw [exL_vars] at hvs
  rw [exL_right] at hrt
  repeat' first
    | (exfalso; omega)
    | simp only [go_sem, Nat.reduceAdd, Nat.reduceSub, Nat.reduceMul, Nat.reduceLT, Nat.reduceLeDiff, Nat.reduceEqDiff, Nat.reduceBEq, Nat.reduceBNe, Nat.reducePow, Int.reduceEq, Int.reduceNe, Int.reduceLT, Int.reduceLE, Int.reduceGT, Int.reduceGE, Int.reduceAdd, Int.reduceSub, Int.reduceNeg, Int.reduceMul, not_true_eq_false, not_false_eq_true, true_and, and_true, Int.reduceToNat]
    | refine gK_dec (fun _ => ?_) (fun _ => ?_)
    | (refine PCall.callW hsz ⟨weakL _, trivial⟩ ?_)
    | (refine PCall.callW hdp ⟨weakL _, trivial⟩ ?_)
    | (refine PCall.callW hvs ⟨weakL _, trivial⟩ ?_)
    | (refine PCall.callW hrt ⟨weakL _, trivial⟩ ?_)
    | (refine PCall.callW (namesStr [⟨#[97]⟩] [⟨#[97]⟩]) ⟨.refl _, .tok _ _ _, trivial⟩ ?_; rw [eqB_eq rfl])
    | exact finP rfl
    | exact finBq rfl (by simp)
    | (exfalso; omega)
    | (refine drawK mo (by kernel_rfl) ?_)
    | (refine pcK_ofW hsz ⟨weakL _, trivial⟩ ?_)
    | (refine pcK_ofW hdp ⟨weakL _, trivial⟩ ?_)
    | (refine pcK_ofW hvs ⟨weakL _, trivial⟩ ?_)
    | (refine pcK_ofW hrt ⟨weakL _, trivial⟩ ?_)
    | (refine pcK_ofW (namesStr [⟨#[97]⟩] [⟨#[97]⟩]) ⟨.refl _, .tok _ _ _, trivial⟩ ?_; rw [eqB_eq rfl])
end Go.Proofs.YtipcmpkihhfhcaaDoor
