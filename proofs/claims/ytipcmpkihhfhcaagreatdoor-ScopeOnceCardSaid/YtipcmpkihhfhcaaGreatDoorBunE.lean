/-
  ChkP2, ChkP3, ChkP4, ScopeP4, RightR, ChkX, ChkX2, ScopeX1, ScopeX2, ScopeX3, ScopeL, ScOnceA, ScOnceB: put together.
-/
import Derived.Test.YtipcmpkihhfhcaaGreatDoorBunA
import Derived.Test.YtipcmpkihhfhcaaGreatDoorBunB
import Derived.Test.YtipcmpkihhfhcaaGreatDoorBunC
import Derived.Test.YtipcmpkihhfhcaaGreatDoorBunD
namespace Go.Proofs.YtipcmpkihhfhcaaGreatDoor
open Go.Abs
set_option maxRecDepth 20000
set_option linter.unusedSimpArgs false
set_option linter.unusedVariables false
set_option maxHeartbeats 1000000
attribute [local irreducible] vc vcOps vcStep vcGuard prK hrK gK gsK brK callK ElemK SeqK BlockK ScopeK OpsK CallK LoopK LoopGo finPost ACall PCall PCallE BCall vqOps vqStep vqGuard qrK heK pcK gqK gqsK QOpsK qcallK DrawK
theorem n40 : (Tryz.f40.name == "runtime.NumGoroutine") = false := by kernel_rfl
theorem rightN (L : List DEnum) (n : DNode) (hn : okNode n) : PCall Tryz.prog 40 [.lst 2 (L.map DEnum.enc) none, n.enc] (.b (nodeF L.length n)) := by
  have h1 := hn.1.1
  have h2 := hn.2.1.1
  have h3 := hn.2.2.1.1
  have hal : (allV n).length ≤ 60 := by simp [allV]; omega
  have hba : bareN n = (!(n.Ins.any fun d => !(decide (d.On = ⟨#[]⟩))) && !(n.Outs.any fun d => !(decide (d.On = ⟨#[]⟩)))) := by
    unfold bareN
    rw [List.all_append, List.all_eq_not_any_not, List.all_eq_not_any_not]
  refine pcall_of_vc tabOK Tryz.func40 n40 rfl (by repeat' first | exact pure_nil | refine pure_cons ?_ ?_ | exact .raw _ | exact pure_enc _ | exact pure_lst _ | exact pure_strs _ | exact pure_ints _ | exact DTy.pure _ | exact DTy.pures _ | exact DEnum.pure _ | exact DEnum.pures _ | exact DDecl.pure _ | exact DDecl.pures _ | exact DEq.pure _ | exact DEq.pures _ | exact DNode.pure _ | exact DNode.pures _ | exact DProg.pure _ | exact DProg.pures _ | exact DCond.pure _ | exact DCond.pures _ | exact DAtom.pure _ | exact DAtom.pures _ | exact DPlain.pure _ | exact DPlain.pures _ | exact DVar.pure _ | exact DVar.pures _ | exact DFlow.pure _ | exact DFlow.pures _ | exact DFlows.pure _ | exact DFlows.pures _ | exact DAsked.pure _ | exact DAsked.pures _ | exact DFault.pure _ | exact DFault.pures _ | exact DCell.pure _ | exact DCell.pures _ | exact DReply.pure _ | exact DReply.pures _ | exact DAsk.pure _ | exact DAsk.pures _ | exact DOp.pure _ | exact DOp.pures _ | exact pure_list (fun x => DDecl.pures x) _ | exact .fn _ _ _ pure_nil pure_nil | refine .agg _ ?_ | refine .tup _ ?_ | assumption) (by repeat' first | exact pure_nil | refine pure_cons ?_ ?_ | exact .raw _ | exact pure_enc _ | exact pure_lst _ | exact pure_strs _ | exact pure_ints _ | exact DTy.pure _ | exact DTy.pures _ | exact DEnum.pure _ | exact DEnum.pures _ | exact DDecl.pure _ | exact DDecl.pures _ | exact DEq.pure _ | exact DEq.pures _ | exact DNode.pure _ | exact DNode.pures _ | exact DProg.pure _ | exact DProg.pures _ | exact DCond.pure _ | exact DCond.pures _ | exact DAtom.pure _ | exact DAtom.pures _ | exact DPlain.pure _ | exact DPlain.pures _ | exact DVar.pure _ | exact DVar.pures _ | exact DFlow.pure _ | exact DFlow.pures _ | exact DFlows.pure _ | exact DFlows.pures _ | exact DAsked.pure _ | exact DAsked.pures _ | exact DFault.pure _ | exact DFault.pures _ | exact DCell.pure _ | exact DCell.pures _ | exact DReply.pure _ | exact DReply.pures _ | exact DAsk.pure _ | exact DAsk.pures _ | exact DOp.pure _ | exact DOp.pures _ | exact pure_list (fun x => DDecl.pures x) _ | exact .fn _ _ _ pure_nil pure_nil | refine .agg _ ?_ | refine .tup _ ?_ | assumption) (n := 55) rfl (rs := [.tmp 4]) rfl ?_
  simp only [go_sem, Nat.reduceAdd, Nat.reduceSub, Nat.reduceMul, Nat.reduceLT, Nat.reduceLeDiff, Nat.reduceEqDiff, Nat.reduceBEq, Nat.reduceBNe, Nat.reducePow, Int.reduceEq, Int.reduceNe, Int.reduceLT, Int.reduceLE, Int.reduceGT, Int.reduceGE, Int.reduceAdd, Int.reduceSub, Int.reduceNeg, Int.reduceMul, not_true_eq_false, not_false_eq_true, true_and, and_true, Int.reduceToNat]
  refine acallK_of_vc tabOK Tryz.func79 n79 rfl (n := 4) rfl (rs := [.tmp 2]) rfl ?_
  simp only [go_sem, Nat.reduceAdd, Nat.reduceSub, Nat.reduceMul, Nat.reduceLT, Nat.reduceLeDiff, Nat.reduceEqDiff, Nat.reduceBEq, Nat.reduceBNe, Nat.reducePow, Int.reduceEq, Int.reduceNe, Int.reduceLT, Int.reduceLE, Int.reduceGT, Int.reduceGE, Int.reduceAdd, Int.reduceSub, Int.reduceNeg, Int.reduceMul, not_true_eq_false, not_false_eq_true, true_and, and_true, Int.reduceToNat]
  refine finK rfl ?_
  repeat' first
    | exact finB rfl
    | exact finI rfl
    | exact finP rfl
    | exact absurd rfl (by assumption)
    | simp only [go_sem, Nat.reduceAdd, Nat.reduceSub, Nat.reduceMul, Nat.reduceLT, Nat.reduceLeDiff, Nat.reduceEqDiff, Nat.reduceBEq, Nat.reduceBNe, Nat.reducePow, Int.reduceEq, Int.reduceNe, Int.reduceLT, Int.reduceLE, Int.reduceGT, Int.reduceGE, Int.reduceAdd, Int.reduceSub, Int.reduceNeg, Int.reduceMul, not_true_eq_false, not_false_eq_true, true_and, and_true, Int.reduceToNat]
    | (intro _)
    | refine brK_dec (fun _ => ?_) (fun _ => ?_)
    | refine brK_split (fun hb_ => ?_) (fun hb_ => ?_)
    | refine gK_dec (fun _ => ?_) (fun _ => ?_)
    | refine gK_split (fun hb_ => ?_) (fun hb_ => ?_)
    | refine gqK_dec (fun _ => ?_) (fun _ => ?_)
    | refine ⟨by omega, ?_⟩
    | refine elemHave (by omega) (by assumption) ?_
    | refine elemMap (by omega) (by omega) (fun x hx => ?_)
    | refine drawK mo (by kernel_rfl) ?_
    | (refine PCall.call (all63 n (by omega)) ?_)
    | (refine declared131 L x (k := 1) rfl ?_; generalize hdx : declaredF L.length x = b; cases b)
    | ((fail_if_success (clear hu)); refine bareP ?_; generalize hu : (n.Ins.any fun d => !(decide (d.On = ⟨#[]⟩))) = u at hba ⊢; cases u)
    | (refine bareP ?_; generalize hv : (n.Outs.any fun d => !(decide (d.On = ⟨#[]⟩))) = v at hba ⊢; cases v)
    | (refine PCall.call (equationP x (hn.2.2.2.2.2 _ (List.mem_of_getElem? hx))) ?_; generalize hqx : eqF x = b; cases b)
    | (refine PCall.call (low6 n.Name) ?_; generalize hlx : lowF n.Name = b; cases b)
    | (refine finBq rfl ?_; rw [node_no hx hdx]; done)
    | (refine finBq rfl ?_; rw [node_no2 hba]; done)
    | (refine finBq rfl ?_; rw [node_no3 hx hqx]; done)
    | (refine finBq rfl ?_; rw [node_yes hpi (by omega) hba hpj (by omega), hlx]; first | rfl | (simp; done) | (simp; omega))
    | exact loopFrX _ (by omega) _ ⟨i + 1, by omega, rfl, take_all hpi (by simpa using hx) hdx, rfl⟩ (.next rfl (by omega) .nil) rfl (by first | rfl | (simp only [List.append_assoc, List.cons_append, List.nil_append]; rfl))
    | (refine loop_frX [4, 7, 16, 17, 18, 19, 20, 21, 22, 23, 24] (fun mm_ CC_ => ∃ (i : Nat), i ≤ (allV n).length ∧ mm_ = (allV n).length - i ∧ (∀ d ∈ (allV n).take i, declaredF L.length d = true) ∧ CC_ = [(16, .raw (.int .i64 ((i : Nat) : Int)))]) ((allV n).length) _ ⟨0, by omega, by omega, by simp, rfl⟩ (.cons rfl .nil) ?_; rintro mm_ CC_ ji ri ⟨i, hi, rfl, hpi, rfl⟩)
    | exact loopFrX _ (by omega) _ ⟨j + 1, by omega, rfl, take_all hpj (by simpa using hx) hqx, rfl⟩ (.next rfl (by omega) .nil) rfl (by first | rfl | (simp only [List.append_assoc, List.cons_append, List.nil_append]; rfl))
    | (refine loop_frX [4, 10, 38, 39, 40, 41, 42, 43, 44, 45] (fun mm_ CC_ => ∃ (j : Nat), j ≤ n.Eqs.length ∧ mm_ = n.Eqs.length - j ∧ (∀ q ∈ n.Eqs.take j, eqF q = true) ∧ CC_ = [(38, .raw (.int .i64 ((j : Nat) : Int)))]) (n.Eqs.length) _ ⟨0, by omega, by omega, by simp, rfl⟩ (.cons rfl .nil) ?_; rintro mm_ CC_ jj rj ⟨j, hj, rfl, hpj, rfl⟩)
theorem n38 : (Tryz.f38.name == "runtime.NumGoroutine") = false := by kernel_rfl
theorem greatP (n : DNode) : PCall Tryz.prog 38 [n.enc] (.b (greatF n)) := by
  refine pcall_of_vc tabOK Tryz.func38 n38 rfl (by repeat' first | exact pure_nil | refine pure_cons ?_ ?_ | exact .raw _ | exact pure_enc _ | exact pure_lst _ | exact pure_strs _ | exact pure_ints _ | exact DTy.pure _ | exact DTy.pures _ | exact DEnum.pure _ | exact DEnum.pures _ | exact DDecl.pure _ | exact DDecl.pures _ | exact DEq.pure _ | exact DEq.pures _ | exact DNode.pure _ | exact DNode.pures _ | exact DProg.pure _ | exact DProg.pures _ | exact DCond.pure _ | exact DCond.pures _ | exact DAtom.pure _ | exact DAtom.pures _ | exact DPlain.pure _ | exact DPlain.pures _ | exact DVar.pure _ | exact DVar.pures _ | exact DFlow.pure _ | exact DFlow.pures _ | exact DFlows.pure _ | exact DFlows.pures _ | exact DAsked.pure _ | exact DAsked.pures _ | exact DFault.pure _ | exact DFault.pures _ | exact DCell.pure _ | exact DCell.pures _ | exact DReply.pure _ | exact DReply.pures _ | exact DAsk.pure _ | exact DAsk.pures _ | exact DOp.pure _ | exact DOp.pures _ | exact pure_list (fun x => DDecl.pures x) _ | exact .fn _ _ _ pure_nil pure_nil | refine .agg _ ?_ | refine .tup _ ?_ | assumption) (by repeat' first | exact pure_nil | refine pure_cons ?_ ?_ | exact .raw _ | exact pure_enc _ | exact pure_lst _ | exact pure_strs _ | exact pure_ints _ | exact DTy.pure _ | exact DTy.pures _ | exact DEnum.pure _ | exact DEnum.pures _ | exact DDecl.pure _ | exact DDecl.pures _ | exact DEq.pure _ | exact DEq.pures _ | exact DNode.pure _ | exact DNode.pures _ | exact DProg.pure _ | exact DProg.pures _ | exact DCond.pure _ | exact DCond.pures _ | exact DAtom.pure _ | exact DAtom.pures _ | exact DPlain.pure _ | exact DPlain.pures _ | exact DVar.pure _ | exact DVar.pures _ | exact DFlow.pure _ | exact DFlow.pures _ | exact DFlows.pure _ | exact DFlows.pures _ | exact DAsked.pure _ | exact DAsked.pures _ | exact DFault.pure _ | exact DFault.pures _ | exact DCell.pure _ | exact DCell.pures _ | exact DReply.pure _ | exact DReply.pures _ | exact DAsk.pure _ | exact DAsk.pures _ | exact DOp.pure _ | exact DOp.pures _ | exact pure_list (fun x => DDecl.pures x) _ | exact .fn _ _ _ pure_nil pure_nil | refine .agg _ ?_ | refine .tup _ ?_ | assumption) (n := 25) rfl (rs := [.tmp 2]) rfl ?_
  repeat' first
    | exact finB rfl
    | exact finI rfl
    | exact finP rfl
    | exact absurd rfl (by assumption)
    | simp only [go_sem, Nat.reduceAdd, Nat.reduceSub, Nat.reduceMul, Nat.reduceLT, Nat.reduceLeDiff, Nat.reduceEqDiff, Nat.reduceBEq, Nat.reduceBNe, Nat.reducePow, Int.reduceEq, Int.reduceNe, Int.reduceLT, Int.reduceLE, Int.reduceGT, Int.reduceGE, Int.reduceAdd, Int.reduceSub, Int.reduceNeg, Int.reduceMul, not_true_eq_false, not_false_eq_true, true_and, and_true, Int.reduceToNat]
    | (intro _)
    | refine brK_dec (fun _ => ?_) (fun _ => ?_)
    | refine brK_any ?_ ?_
    | refine gK_dec (fun _ => ?_) (fun _ => ?_)
    | refine gK_any ?_ ?_
    | refine gqK_dec (fun _ => ?_) (fun _ => ?_)
    | refine ⟨by omega, ?_⟩
    | refine elemHave (by omega) (by assumption) ?_
    | refine elemMap (by omega) (by omega) (fun x hx => ?_)
    | refine drawK mo (by kernel_rfl) ?_
    | (exfalso; omega)
    | (refine finBq rfl ?_; unfold greatF; (try rw [decide_eq_true (p := n.Ins.length > 6) (by omega)]); (try rw [decide_eq_false (p := n.Ins.length > 6) (by omega)]); (try rw [decide_eq_true (p := n.Outs.length > 6) (by omega)]); (try rw [decide_eq_false (p := n.Outs.length > 6) (by omega)]); (try rw [decide_eq_true (p := n.Vars.length > 12) (by omega)]); (try rw [decide_eq_false (p := n.Vars.length > 12) (by omega)]); simp; done)
    | (refine finBq rfl ?_; unfold greatF; (try rw [decide_eq_true (p := n.Ins.length > 6) (by omega)]); (try rw [decide_eq_false (p := n.Ins.length > 6) (by omega)]); (try rw [decide_eq_true (p := n.Outs.length > 6) (by omega)]); (try rw [decide_eq_false (p := n.Outs.length > 6) (by omega)]); (try rw [decide_eq_true (p := n.Vars.length > 12) (by omega)]); (try rw [decide_eq_false (p := n.Vars.length > 12) (by omega)]); simp; omega)
theorem n42 : (Tryz.f42.name == "runtime.NumGoroutine") = false := by kernel_rfl
theorem onceP (n : DNode) (hl : (allV n).length ≤ 60) : PCall Tryz.prog 42 [n.enc] (.b (onceN n)) := by
  refine pcall_of_vc tabOK Tryz.func42 n42 rfl (by repeat' first | exact pure_nil | refine pure_cons ?_ ?_ | exact .raw _ | exact pure_enc _ | exact pure_lst _ | exact pure_strs _ | exact pure_ints _ | exact DTy.pure _ | exact DTy.pures _ | exact DEnum.pure _ | exact DEnum.pures _ | exact DDecl.pure _ | exact DDecl.pures _ | exact DEq.pure _ | exact DEq.pures _ | exact DNode.pure _ | exact DNode.pures _ | exact DProg.pure _ | exact DProg.pures _ | exact DCond.pure _ | exact DCond.pures _ | exact DAtom.pure _ | exact DAtom.pures _ | exact DPlain.pure _ | exact DPlain.pures _ | exact DVar.pure _ | exact DVar.pures _ | exact DFlow.pure _ | exact DFlow.pures _ | exact DFlows.pure _ | exact DFlows.pures _ | exact DAsked.pure _ | exact DAsked.pures _ | exact DFault.pure _ | exact DFault.pures _ | exact DCell.pure _ | exact DCell.pures _ | exact DReply.pure _ | exact DReply.pures _ | exact DAsk.pure _ | exact DAsk.pures _ | exact DOp.pure _ | exact DOp.pures _ | exact pure_list (fun x => DDecl.pures x) _ | exact .fn _ _ _ pure_nil pure_nil | refine .agg _ ?_ | refine .tup _ ?_ | assumption) (by repeat' first | exact pure_nil | refine pure_cons ?_ ?_ | exact .raw _ | exact pure_enc _ | exact pure_lst _ | exact pure_strs _ | exact pure_ints _ | exact DTy.pure _ | exact DTy.pures _ | exact DEnum.pure _ | exact DEnum.pures _ | exact DDecl.pure _ | exact DDecl.pures _ | exact DEq.pure _ | exact DEq.pures _ | exact DNode.pure _ | exact DNode.pures _ | exact DProg.pure _ | exact DProg.pures _ | exact DCond.pure _ | exact DCond.pures _ | exact DAtom.pure _ | exact DAtom.pures _ | exact DPlain.pure _ | exact DPlain.pures _ | exact DVar.pure _ | exact DVar.pures _ | exact DFlow.pure _ | exact DFlow.pures _ | exact DFlows.pure _ | exact DFlows.pures _ | exact DAsked.pure _ | exact DAsked.pures _ | exact DFault.pure _ | exact DFault.pures _ | exact DCell.pure _ | exact DCell.pures _ | exact DReply.pure _ | exact DReply.pures _ | exact DAsk.pure _ | exact DAsk.pures _ | exact DOp.pure _ | exact DOp.pures _ | exact pure_list (fun x => DDecl.pures x) _ | exact .fn _ _ _ pure_nil pure_nil | refine .agg _ ?_ | refine .tup _ ?_ | assumption) (n := 21) rfl (rs := [.tmp 2]) rfl ?_
  unfold onceN
  simp only [go_sem, Nat.reduceAdd, Nat.reduceSub, Nat.reduceMul, Nat.reduceLT, Nat.reduceLeDiff, Nat.reduceEqDiff, Nat.reduceBEq, Nat.reduceBNe, Nat.reducePow, Int.reduceEq, Int.reduceNe, Int.reduceLT, Int.reduceLE, Int.reduceGT, Int.reduceGE, Int.reduceAdd, Int.reduceSub, Int.reduceNeg, Int.reduceMul, not_true_eq_false, not_false_eq_true, true_and, and_true, Int.reduceToNat]
  refine PCall.call (all63 n (by omega)) ?_
  generalize allV n = L at hl
  simp only [go_sem, Nat.reduceAdd, Nat.reduceSub, Nat.reduceMul, Nat.reduceLT, Nat.reduceLeDiff, Nat.reduceEqDiff, Nat.reduceBEq, Nat.reduceBNe, Nat.reducePow, Int.reduceEq, Int.reduceNe, Int.reduceLT, Int.reduceLE, Int.reduceGT, Int.reduceGE, Int.reduceAdd, Int.reduceSub, Int.reduceNeg, Int.reduceMul, not_true_eq_false, not_false_eq_true, true_and, and_true, Int.reduceToNat]
  intro _
  refine loop_ghost (ghost_tok 3 9 1 rfl) ?_
  refine loop_fr [3, 5, 9, 10, 11, 12, 13, 14, 15, 16, 17, 18] (fun m C hh => ∃ (i : Nat) (r : List Blk), i ≤ L.length ∧ m = L.length - i ∧ C = [(9, .raw (.int .i64 (i : Nat))), (3, .lst 1 (((L.take i).map DDecl.Name).map AV.s) (some 1))] ∧ hh = .cells 38 [.s n.Name, .lst 6 (n.Ins.map DDecl.enc) none, .lst 6 (n.Outs.map DDecl.enc) none, .lst 6 (n.Vars.map DDecl.enc) none, .lst 7 (n.Eqs.map DEq.enc) none] :: .tok 9 1 (L.take i).length :: r) L.length _ ⟨0, [], by omega, by omega, rfl, rfl⟩ (.cons rfl (.cons rfl .nil)) ?_
  rintro m C j hh ⟨i, r, hi, rfl, rfl, rfl⟩
  simp only [go_sem, Nat.reduceAdd, Nat.reduceSub, Nat.reduceMul, Nat.reduceLT, Nat.reduceLeDiff, Nat.reduceEqDiff, Nat.reduceBEq, Nat.reduceBNe, Nat.reducePow, Int.reduceEq, Int.reduceNe, Int.reduceLT, Int.reduceLE, Int.reduceGT, Int.reduceGE, Int.reduceAdd, Int.reduceSub, Int.reduceNeg, Int.reduceMul, not_true_eq_false, not_false_eq_true, true_and, and_true, Int.reduceToNat]
  refine brK_dec (fun hlt => ?_) (fun hge => ?_)
  · simp only [go_sem, Nat.reduceAdd, Nat.reduceSub, Nat.reduceMul, Nat.reduceLT, Nat.reduceLeDiff, Nat.reduceEqDiff, Nat.reduceBEq, Nat.reduceBNe, Nat.reducePow, Int.reduceEq, Int.reduceNe, Int.reduceLT, Int.reduceLE, Int.reduceGT, Int.reduceGE, Int.reduceAdd, Int.reduceSub, Int.reduceNeg, Int.reduceMul, not_true_eq_false, not_false_eq_true, true_and, and_true, Int.reduceToNat]
    refine elemMap (by omega) (by omega) (fun d hd => ?_)
    have hli : (L.take i).length = i := by rw [List.length_take]; omega
    have hli2 : (L.take (i + 1)).length = i + 1 := by rw [List.length_take]; omega
    have hst := take_mapS (f := DDecl.Name) hd
    try simp only [go_sem, Nat.reduceAdd, Nat.reduceSub, Nat.reduceMul, Nat.reduceLT, Nat.reduceLeDiff, Nat.reduceEqDiff, Nat.reduceBEq, Nat.reduceBNe, Nat.reducePow, Int.reduceEq, Int.reduceNe, Int.reduceLT, Int.reduceLE, Int.reduceGT, Int.reduceGE, Int.reduceAdd, Int.reduceSub, Int.reduceNeg, Int.reduceMul, not_true_eq_false, not_false_eq_true, true_and, and_true, Int.reduceToNat]
    refine ⟨by simp; omega, ?_⟩
    try simp only [go_sem, Nat.reduceAdd, Nat.reduceSub, Nat.reduceMul, Nat.reduceLT, Nat.reduceLeDiff, Nat.reduceEqDiff, Nat.reduceBEq, Nat.reduceBNe, Nat.reducePow, Int.reduceEq, Int.reduceNe, Int.reduceLT, Int.reduceLE, Int.reduceGT, Int.reduceGE, Int.reduceAdd, Int.reduceSub, Int.reduceNeg, Int.reduceMul, not_true_eq_false, not_false_eq_true, true_and, and_true, Int.reduceToNat]
    exact loopFr _ (by omega) ⟨i + 1, _, by omega, rfl, rfl, by rw [hli2, hli]⟩ (.next rfl (by omega) (.cons (by rw [hst]; simp [slot]) .nil)) rfl
  · simp only [go_sem, Nat.reduceAdd, Nat.reduceSub, Nat.reduceMul, Nat.reduceLT, Nat.reduceLeDiff, Nat.reduceEqDiff, Nat.reduceBEq, Nat.reduceBNe, Nat.reducePow, Int.reduceEq, Int.reduceNe, Int.reduceLT, Int.reduceLE, Int.reduceGT, Int.reduceGE, Int.reduceAdd, Int.reduceSub, Int.reduceNeg, Int.reduceMul, not_true_eq_false, not_false_eq_true, true_and, and_true, Int.reduceToNat]
    rw [List.take_of_length_le (by omega)]
    refine PCall.callW (once12 (L.map DDecl.Name)) ⟨.tok _ _ _, trivial⟩ ?_
    simp only [go_sem, Nat.reduceAdd, Nat.reduceSub, Nat.reduceMul, Nat.reduceLT, Nat.reduceLeDiff, Nat.reduceEqDiff, Nat.reduceBEq, Nat.reduceBNe, Nat.reducePow, Int.reduceEq, Int.reduceNe, Int.reduceLT, Int.reduceLE, Int.reduceGT, Int.reduceGE, Int.reduceAdd, Int.reduceSub, Int.reduceNeg, Int.reduceMul, not_true_eq_false, not_false_eq_true, true_and, and_true, Int.reduceToNat]
    exact finBq rfl rfl
end Go.Proofs.YtipcmpkihhfhcaaGreatDoor

namespace Go.Proofs.YtipcmpkihhfhcaaGreatDoor
open Go.Abs
set_option maxRecDepth 20000
set_option linter.unusedSimpArgs false
set_option linter.unusedVariables false
set_option maxHeartbeats 1000000
attribute [local irreducible] vc vcOps vcStep vcGuard prK hrK gK gsK brK callK ElemK SeqK BlockK ScopeK OpsK CallK LoopK LoopGo finPost ACall PCall PCallE BCall vqOps vqStep vqGuard qrK heK pcK gqK gqsK QOpsK qcallK DrawK
theorem flat_at {L : List DEnum} {i k : Nat} {e : DEnum} {c : ByteArray} (he : L[i]? = some e) (hc : e.Ctors[k]? = some c) : (L.flatMap DEnum.Ctors)[((L.take i).flatMap DEnum.Ctors).length + k]? = some c := by
  obtain ⟨hi, rfl⟩ := List.getElem?_eq_some_iff.1 he
  have h1 : L.flatMap DEnum.Ctors = (L.take i).flatMap DEnum.Ctors ++ (L[i].Ctors ++ (L.drop (i + 1)).flatMap DEnum.Ctors) := by
    have h2 : L = L.take i ++ L[i] :: L.drop (i + 1) := by rw [← List.drop_eq_getElem_cons hi, List.take_append_drop]
    conv => lhs; rw [h2]
    rw [List.flatMap_append, List.flatMap_cons]
  rw [h1, List.getElem?_append_right (by omega), Nat.add_sub_cancel_left, List.getElem?_append_left (List.getElem?_eq_some_iff.1 hc).1]
  exact hc
theorem ctors_all {L : List DEnum} {ps : Array Tmp} {x y : Code} {s : List AV} {l : Nat} {Q : Post} (m k0 g : Nat) (H G : Nat → List Blk) (hH : ∀ n, (H n).length = m) (hG : ∀ n, (G n).length = g)
    (hk : ∀ n, (H n)[k0]? = some (.cells 22 [.lst 2 (L.map DEnum.enc) none])) (hps : ps.size = 2) (hx : noR x = true) (hy : noR y = true)
    (hbody : ∀ (n : Nat) (c : ByteArray) (i k : Nat) (r : List Blk) (K : AV → List Blk → Prop), (L.flatMap DEnum.Ctors)[n]? = some c → (∀ r', K (.b true) (H (n + 1) ++ (.lp l .ready none ps x y s :: (G (n + 1) ++ (r ++ r'))))) →
      vc Tryz.prog ti x (roundA Tryz.prog ti l m ps x y s K) (setPs s ps.toList [.agg [.i (i : Int), .i (k : Int)], .s c]) (H n ++ (.lp l .ready none ps x y s :: (G n ++ r))))
    (hn : ∀ r, Q .normal s (H (L.flatMap DEnum.Ctors).length ++ (.dead :: (G (L.flatMap DEnum.Ctors).length ++ r)))) :
    ACall Tryz.prog 128 [.fn (.yield l) [] [], .ptr k0 0] (H 0 ++ (.lp l .ready none ps x y s :: G 0)) (fun _ h' => loopEnd Q s m h') := by
  refine ctors155 L l k0 (fun i k h => ∃ (r : List Blk) (n : Nat), n = ((L.take i).flatMap DEnum.Ctors).length + k ∧ h = H n ++ (.lp l .ready none ps x y s :: (G n ++ r))) (fun _ => False) ?_ ?_ ?_ ?_ ⟨[], 0, by simp, by simp⟩ ?_ ?_
  · rintro i k h ⟨r, n, _, rfl⟩
    rw [List.getElem?_append_left (List.getElem?_eq_some_iff.1 (hk n)).1]
    exact hk n
  · rintro i k h r' ⟨r, n, hn, rfl⟩
    exact ⟨r ++ r', n, hn, by simp⟩
  · rintro i e h he ⟨r, n, hn, rfl⟩
    exact ⟨r, n, by rw [hn, flatMap_next _ he]; simp, rfl⟩
  · rintro i k e c h he hc ⟨r, n, hn, rfl⟩ K hK1 _
    refine ycall_of_vc tabOK (k := m) (ps := ps) (x := x) (y := y) (s := s) ?_ (by simp [hps]) hx hy (hbody n c i k r K (by rw [hn]; exact flat_at he hc) (fun r' => hK1 _ ⟨r ++ r', n + 1, by omega, by simp⟩))
    rw [List.getElem?_append_right (by rw [hH]; exact Nat.le_refl _), hH, Nat.sub_self]; rfl
  · rintro h' ⟨r, n, hn', rfl⟩
    rw [List.take_length, Nat.add_zero] at hn'
    subst hn'
    have e1 : (H (L.flatMap DEnum.Ctors).length ++ (Blk.lp l .ready none ps x y s :: (G (L.flatMap DEnum.Ctors).length ++ r)))[m]? = some (.lp l .ready none ps x y s) := by
      rw [List.getElem?_append_right (by rw [hH]; exact Nat.le_refl _), hH, Nat.sub_self]; rfl
    have e2 : (H (L.flatMap DEnum.Ctors).length ++ (Blk.lp l .ready none ps x y s :: (G (L.flatMap DEnum.Ctors).length ++ r))).set m .dead = H (L.flatMap DEnum.Ctors).length ++ (.dead :: (G (L.flatMap DEnum.Ctors).length ++ r)) := by
      rw [List.set_append_right _ _ (by rw [hH]; exact Nat.le_refl _), hH, Nat.sub_self]; rfl
    unfold loopEnd
    rw [e1, e2]
    exact hn r
  · rintro h' h
    exact h.elim
theorem ctors_all3 {L : List DEnum} {ps : Array Tmp} {x y : Code} {s : List AV} {l : Nat} {Q : Post} (B1 B2 : Nat → Blk) (B3 : Blk) (r0 : List Blk) (tk : Nat → Blk) {k0 m : Nat} (hk0 : k0 = r0.length + 3) (hm : m = r0.length + 4) (hps : ps.size = 2) (hx : noR x = true) (hy : noR y = true)
    (hbody : ∀ (n : Nat) (c : ByteArray) (i k : Nat) (r : List Blk) (K : AV → List Blk → Prop), (L.flatMap DEnum.Ctors)[n]? = some c →
      (∀ r', K (.b true) (B1 (n + 1) :: B2 (n + 1) :: B3 :: (r0 ++ .cells 22 [.lst 2 (L.map DEnum.enc) none] :: .lp l .ready none ps x y s :: tk (n + 1) :: (r ++ r')))) →
      vc Tryz.prog ti x (roundA Tryz.prog ti l m ps x y s K) (setPs s ps.toList [.agg [.i (i : Int), .i (k : Int)], .s c]) (B1 n :: B2 n :: B3 :: (r0 ++ .cells 22 [.lst 2 (L.map DEnum.enc) none] :: .lp l .ready none ps x y s :: tk n :: r)))
    (hn : ∀ r, Q .normal s (B1 (L.flatMap DEnum.Ctors).length :: B2 (L.flatMap DEnum.Ctors).length :: B3 :: (r0 ++ .cells 22 [.lst 2 (L.map DEnum.enc) none] :: .dead :: tk (L.flatMap DEnum.Ctors).length :: r))) :
    ACall Tryz.prog 128 [.fn (.yield l) [] [], .ptr k0 0] (B1 0 :: B2 0 :: B3 :: (r0 ++ [.cells 22 [.lst 2 (L.map DEnum.enc) none], .lp l .ready none ps x y s, tk 0])) (fun _ h' => loopEnd Q s m h') := by
  subst hk0 hm
  have h := ctors_all (L := L) (ps := ps) (x := x) (y := y) (s := s) (l := l) (Q := Q) (r0.length + 4) (r0.length + 3) 1 (fun n => B1 n :: B2 n :: B3 :: (r0 ++ [.cells 22 [.lst 2 (L.map DEnum.enc) none]])) (fun n => [tk n]) (fun n => by simp) (fun n => rfl) (fun n => by simp) hps hx hy
    (fun n c i k r K hc hK => by have := hbody n c i k r K hc (fun r' => by have := hK r'; simpa using this); simpa using this) (fun r => by have := hn r; simpa using this)
  simpa using h
theorem flat_len {L : List DEnum} (h : ∀ e ∈ L, okEnum e) : (L.flatMap DEnum.Ctors).length ≤ 12 * L.length := by
  induction L with
  | nil => simp
  | cons e L ih =>
    have h1 := (h e List.mem_cons_self).1
    have h2 := ih fun x hx => h x (List.mem_cons_of_mem _ hx)
    rw [List.flatMap_cons, List.length_append, List.length_cons]
    omega
theorem en_fin {L : List DEnum} {u v : Bool} (hg : greatE L = false) (hu : (L.all fun e => lowF e.Name && decide (0 < e.Ctors.length)) = u) (hv : (L.flatMap DEnum.Ctors).all highF = v) : enumsF L = if (v && u) = true then (if (onceB (L.map DEnum.Name) && onceB (L.flatMap DEnum.Ctors)) = true then 0 else 6) else 1 := by
  unfold enumsF rightEn
  rw [hg, hu, hv, Bool.and_comm]
  simp
theorem n36 : (Tryz.f36.name == "runtime.NumGoroutine") = false := by kernel_rfl
theorem enumsP (L : List DEnum) (hl : okEnums L) : PCall Tryz.prog 36 [.lst 2 (L.map DEnum.enc) none] (.i (enumsF L)) := by
  have hl8 := hl.1
  refine pcall_of_vc tabOK Tryz.func36 n36 rfl (by repeat' first | exact pure_nil | refine pure_cons ?_ ?_ | exact .raw _ | exact pure_enc _ | exact pure_lst _ | exact pure_strs _ | exact pure_ints _ | exact DTy.pure _ | exact DTy.pures _ | exact DEnum.pure _ | exact DEnum.pures _ | exact DDecl.pure _ | exact DDecl.pures _ | exact DEq.pure _ | exact DEq.pures _ | exact DNode.pure _ | exact DNode.pures _ | exact DProg.pure _ | exact DProg.pures _ | exact DCond.pure _ | exact DCond.pures _ | exact DAtom.pure _ | exact DAtom.pures _ | exact DPlain.pure _ | exact DPlain.pures _ | exact DVar.pure _ | exact DVar.pures _ | exact DFlow.pure _ | exact DFlow.pures _ | exact DFlows.pure _ | exact DFlows.pures _ | exact DAsked.pure _ | exact DAsked.pures _ | exact DFault.pure _ | exact DFault.pures _ | exact DCell.pure _ | exact DCell.pures _ | exact DReply.pure _ | exact DReply.pures _ | exact DAsk.pure _ | exact DAsk.pures _ | exact DOp.pure _ | exact DOp.pures _ | exact pure_list (fun x => DDecl.pures x) _ | exact .fn _ _ _ pure_nil pure_nil | refine .agg _ ?_ | refine .tup _ ?_ | assumption) (by repeat' first | exact pure_nil | refine pure_cons ?_ ?_ | exact .raw _ | exact pure_enc _ | exact pure_lst _ | exact pure_strs _ | exact pure_ints _ | exact DTy.pure _ | exact DTy.pures _ | exact DEnum.pure _ | exact DEnum.pures _ | exact DDecl.pure _ | exact DDecl.pures _ | exact DEq.pure _ | exact DEq.pures _ | exact DNode.pure _ | exact DNode.pures _ | exact DProg.pure _ | exact DProg.pures _ | exact DCond.pure _ | exact DCond.pures _ | exact DAtom.pure _ | exact DAtom.pures _ | exact DPlain.pure _ | exact DPlain.pures _ | exact DVar.pure _ | exact DVar.pures _ | exact DFlow.pure _ | exact DFlow.pures _ | exact DFlows.pure _ | exact DFlows.pures _ | exact DAsked.pure _ | exact DAsked.pures _ | exact DFault.pure _ | exact DFault.pures _ | exact DCell.pure _ | exact DCell.pures _ | exact DReply.pure _ | exact DReply.pures _ | exact DAsk.pure _ | exact DAsk.pures _ | exact DOp.pure _ | exact DOp.pures _ | exact pure_list (fun x => DDecl.pures x) _ | exact .fn _ _ _ pure_nil pure_nil | refine .agg _ ?_ | refine .tup _ ?_ | assumption) (n := 61) rfl (rs := [.tmp 2]) rfl ?_
  simp only [go_sem, Nat.reduceAdd, Nat.reduceSub, Nat.reduceMul, Nat.reduceLT, Nat.reduceLeDiff, Nat.reduceEqDiff, Nat.reduceBEq, Nat.reduceBNe, Nat.reducePow, Int.reduceEq, Int.reduceNe, Int.reduceLT, Int.reduceLE, Int.reduceGT, Int.reduceGE, Int.reduceAdd, Int.reduceSub, Int.reduceNeg, Int.reduceMul, not_true_eq_false, not_false_eq_true, true_and, and_true, Int.reduceToNat]
  refine PCall.call (great74 L) ?_
  cases hg : greatE L with
  | true =>
    simp only [go_sem, Nat.reduceAdd, Nat.reduceSub, Nat.reduceMul, Nat.reduceLT, Nat.reduceLeDiff, Nat.reduceEqDiff, Nat.reduceBEq, Nat.reduceBNe, Nat.reducePow, Int.reduceEq, Int.reduceNe, Int.reduceLT, Int.reduceLE, Int.reduceGT, Int.reduceGE, Int.reduceAdd, Int.reduceSub, Int.reduceNeg, Int.reduceMul, not_true_eq_false, not_false_eq_true, true_and, and_true, Int.reduceToNat]
    exact finIq rfl (en_many hg).symm
  | false =>
  simp only [go_sem, Nat.reduceAdd, Nat.reduceSub, Nat.reduceMul, Nat.reduceLT, Nat.reduceLeDiff, Nat.reduceEqDiff, Nat.reduceBEq, Nat.reduceBNe, Nat.reducePow, Int.reduceEq, Int.reduceNe, Int.reduceLT, Int.reduceLE, Int.reduceGT, Int.reduceGE, Int.reduceAdd, Int.reduceSub, Int.reduceNeg, Int.reduceMul, not_true_eq_false, not_false_eq_true, true_and, and_true, Int.reduceToNat]
  intro _
  refine loop_ghost (ghost_tok 3 9 1 rfl) ?_
  refine loop_fr [3, 7, 14, 15, 16, 17, 18, 19, 20, 21, 22, 23, 24, 25, 26, 27, 28, 29, 30, 31, 32, 33, 34, 35] (fun m C hh => ∃ (i : Nat) (r : List Blk), i ≤ L.length ∧ m = L.length - i ∧ C = [(14, .raw (.int .i64 (i : Nat))), (3, .lst 1 (((L.take i).map DEnum.Name).map AV.s) (some 2))] ∧ hh = .cells 47 [.raw (.slice none 0 0)] :: .cells 4 [.b ((L.take i).all fun e => lowF e.Name && decide (0 < e.Ctors.length))] :: .tok 9 1 (L.take i).length :: r) L.length _ ⟨0, [], by omega, by omega, rfl, rfl⟩ (.cons rfl (.cons rfl .nil)) ?_
  rintro m C j hh ⟨i, r, hi, rfl, rfl, rfl⟩
  simp only [go_sem, Nat.reduceAdd, Nat.reduceSub, Nat.reduceMul, Nat.reduceLT, Nat.reduceLeDiff, Nat.reduceEqDiff, Nat.reduceBEq, Nat.reduceBNe, Nat.reducePow, Int.reduceEq, Int.reduceNe, Int.reduceLT, Int.reduceLE, Int.reduceGT, Int.reduceGE, Int.reduceAdd, Int.reduceSub, Int.reduceNeg, Int.reduceMul, not_true_eq_false, not_false_eq_true, true_and, and_true, Int.reduceToNat]
  refine brK_dec (fun hlt => ?_) (fun hge => ?_)
  · simp only [go_sem, Nat.reduceAdd, Nat.reduceSub, Nat.reduceMul, Nat.reduceLT, Nat.reduceLeDiff, Nat.reduceEqDiff, Nat.reduceBEq, Nat.reduceBNe, Nat.reducePow, Int.reduceEq, Int.reduceNe, Int.reduceLT, Int.reduceLE, Int.reduceGT, Int.reduceGE, Int.reduceAdd, Int.reduceSub, Int.reduceNeg, Int.reduceMul, not_true_eq_false, not_false_eq_true, true_and, and_true, Int.reduceToNat]
    refine elemMap (by omega) (by omega) (fun d hd => ?_)
    have hli : (L.take i).length = i := by rw [List.length_take]; omega
    have hli2 : (L.take (i + 1)).length = i + 1 := by rw [List.length_take]; omega
    have hst := take_mapS (f := DEnum.Name) hd
    have hal := all_nextZ (fun e : DEnum => lowF e.Name && decide (0 < e.Ctors.length)) hd
    have hgt : decide ((d.Ctors.length : Int) > 0) = decide (0 < d.Ctors.length) := decide_eq_decide.2 (by omega)
    try simp only [go_sem, Nat.reduceAdd, Nat.reduceSub, Nat.reduceMul, Nat.reduceLT, Nat.reduceLeDiff, Nat.reduceEqDiff, Nat.reduceBEq, Nat.reduceBNe, Nat.reducePow, Int.reduceEq, Int.reduceNe, Int.reduceLT, Int.reduceLE, Int.reduceGT, Int.reduceGE, Int.reduceAdd, Int.reduceSub, Int.reduceNeg, Int.reduceMul, not_true_eq_false, not_false_eq_true, true_and, and_true, Int.reduceToNat]
    refine ⟨by simp; omega, ?_⟩
    generalize hu : ((L.take i).all fun e => lowF e.Name && decide (0 < e.Ctors.length)) = u at hal ⊢
    cases u
    all_goals
      repeat' first
        | (exfalso; omega)
        | simp only [go_sem, Nat.reduceAdd, Nat.reduceSub, Nat.reduceMul, Nat.reduceLT, Nat.reduceLeDiff, Nat.reduceEqDiff, Nat.reduceBEq, Nat.reduceBNe, Nat.reducePow, Int.reduceEq, Int.reduceNe, Int.reduceLT, Int.reduceLE, Int.reduceGT, Int.reduceGE, Int.reduceAdd, Int.reduceSub, Int.reduceNeg, Int.reduceMul, not_true_eq_false, not_false_eq_true, true_and, and_true, Int.reduceToNat]
        | (intro _)
        | refine gK_dec (fun _ => ?_) (fun _ => ?_)
        | refine brK_dec (fun _ => ?_) (fun _ => ?_)
        | (refine PCall.call (low6 d.Name) ?_; generalize hlo : lowF d.Name = q at hal ⊢; cases q)
        | exact loopFr _ (by omega) ⟨i + 1, _, by omega, rfl, rfl, by rw [hli2, hal]; simp only [hli, hgt, Bool.false_and, Bool.true_and]; rfl⟩ (.next rfl (by omega) (.cons (by rw [hst]; simp [slot]) .nil)) rfl
  · simp only [go_sem, Nat.reduceAdd, Nat.reduceSub, Nat.reduceMul, Nat.reduceLT, Nat.reduceLeDiff, Nat.reduceEqDiff, Nat.reduceBEq, Nat.reduceBNe, Nat.reducePow, Int.reduceEq, Int.reduceNe, Int.reduceLT, Int.reduceLE, Int.reduceGT, Int.reduceGE, Int.reduceAdd, Int.reduceSub, Int.reduceNeg, Int.reduceMul, not_true_eq_false, not_false_eq_true, true_and, and_true, Int.reduceToNat]
    rw [List.take_of_length_le (by omega)]
    generalize hu : (L.all fun e => lowF e.Name && decide (0 < e.Ctors.length)) = u
    refine ctors154 L ?_
    simp only [go_sem, Nat.reduceAdd, Nat.reduceSub, Nat.reduceMul, Nat.reduceLT, Nat.reduceLeDiff, Nat.reduceEqDiff, Nat.reduceBEq, Nat.reduceBNe, Nat.reducePow, Int.reduceEq, Int.reduceNe, Int.reduceLT, Int.reduceLE, Int.reduceGT, Int.reduceGE, Int.reduceAdd, Int.reduceSub, Int.reduceNeg, Int.reduceMul, not_true_eq_false, not_false_eq_true, true_and, and_true, Int.reduceToNat]
    intro l
    refine acall_ghost (ghost_cell 0 0 9 1 rfl rfl) ?_
    simp only [go_sem, Nat.reduceAdd, Nat.reduceSub, Nat.reduceMul, Nat.reduceLT, Nat.reduceLeDiff, Nat.reduceEqDiff, Nat.reduceBEq, Nat.reduceBNe, Nat.reducePow, Int.reduceEq, Int.reduceNe, Int.reduceLT, Int.reduceLE, Int.reduceGT, Int.reduceGE, Int.reduceAdd, Int.reduceSub, Int.reduceNeg, Int.reduceMul, not_true_eq_false, not_false_eq_true, true_and, and_true, Int.reduceToNat]
    refine ctors_all3 (fun n => .cells 47 [.lst 1 (((L.flatMap DEnum.Ctors).take n).map AV.s) (some (r.length + 2 + 1 + 1 + 1))]) (fun n => .cells 4 [.b (((L.flatMap DEnum.Ctors).take n).all highF && u)]) (.tok 9 1 L.length) r (fun n => .tok 9 1 ((L.flatMap DEnum.Ctors).take n).length) (by omega) (by omega) rfl rfl rfl (fun n c i' k' r' K hc hK => ?_) (fun r' => ?_)
    · have hfl := flat_len hl.2
      have hle : ((L.flatMap DEnum.Ctors).take n).length ≤ 96 := by rw [List.length_take]; omega
      have hst : (((L.flatMap DEnum.Ctors).take (n + 1)).map AV.s) = (((L.flatMap DEnum.Ctors).take n).map AV.s) ++ [AV.s c] := by
        obtain ⟨hn, rfl⟩ := List.getElem?_eq_some_iff.1 hc
        rw [List.take_succ_eq_append_getElem hn, List.map_append]; rfl
      have hln : ((L.flatMap DEnum.Ctors).take (n + 1)).length = ((L.flatMap DEnum.Ctors).take n).length + 1 := by
        have := congrArg List.length hst
        simpa using this
      have hal : (((L.flatMap DEnum.Ctors).take (n + 1)).all highF && u) = (((L.flatMap DEnum.Ctors).take n).all highF && u && highF c) := by
        rw [all_next highF hc]
        cases ((L.flatMap DEnum.Ctors).take n).all highF <;> cases u <;> cases highF c <;> rfl
      simp only [hst, hln, hal] at hK
      simp only [go_sem, Nat.reduceAdd, Nat.reduceSub, Nat.reduceMul, Nat.reduceLT, Nat.reduceLeDiff, Nat.reduceEqDiff, Nat.reduceBEq, Nat.reduceBNe, Nat.reducePow, Int.reduceEq, Int.reduceNe, Int.reduceLT, Int.reduceLE, Int.reduceGT, Int.reduceGE, Int.reduceAdd, Int.reduceSub, Int.reduceNeg, Int.reduceMul, not_true_eq_false, not_false_eq_true, true_and, and_true, Int.reduceToNat, setPs, roundA]
      refine ⟨by omega, ?_⟩
      generalize (((L.flatMap DEnum.Ctors).take n).all highF && u) = w at hK ⊢
      cases w
      all_goals
        repeat' first
          | simp only [go_sem, Nat.reduceAdd, Nat.reduceSub, Nat.reduceMul, Nat.reduceLT, Nat.reduceLeDiff, Nat.reduceEqDiff, Nat.reduceBEq, Nat.reduceBNe, Nat.reducePow, Int.reduceEq, Int.reduceNe, Int.reduceLT, Int.reduceLE, Int.reduceGT, Int.reduceGE, Int.reduceAdd, Int.reduceSub, Int.reduceNeg, Int.reduceMul, not_true_eq_false, not_false_eq_true, true_and, and_true, Int.reduceToNat, roundB]
          | refine ⟨rfl, ?_⟩
          | (refine PCall.call (high8 c) ?_; generalize highF c = q at hK ⊢; cases q)
          | (have hk := hK [.tok 9 1 1]; (simpa using hk); done)
    · simp only [go_sem, Nat.reduceAdd, Nat.reduceSub, Nat.reduceMul, Nat.reduceLT, Nat.reduceLeDiff, Nat.reduceEqDiff, Nat.reduceBEq, Nat.reduceBNe, Nat.reducePow, Int.reduceEq, Int.reduceNe, Int.reduceLT, Int.reduceLE, Int.reduceGT, Int.reduceGE, Int.reduceAdd, Int.reduceSub, Int.reduceNeg, Int.reduceMul, not_true_eq_false, not_false_eq_true, true_and, and_true, Int.reduceToNat]
      rw [List.take_length]
      generalize hv : (L.flatMap DEnum.Ctors).all highF = v
      have hfin := en_fin hg hu hv
      cases u <;> cases v
      all_goals
        repeat' first
          | simp only [go_sem, Nat.reduceAdd, Nat.reduceSub, Nat.reduceMul, Nat.reduceLT, Nat.reduceLeDiff, Nat.reduceEqDiff, Nat.reduceBEq, Nat.reduceBNe, Nat.reducePow, Int.reduceEq, Int.reduceNe, Int.reduceLT, Int.reduceLE, Int.reduceGT, Int.reduceGE, Int.reduceAdd, Int.reduceSub, Int.reduceNeg, Int.reduceMul, not_true_eq_false, not_false_eq_true, true_and, and_true, Int.reduceToNat]
          | (refine PCall.callW (once12 (L.map DEnum.Name)) ⟨.tok _ _ _, trivial⟩ ?_; generalize onceB (L.map DEnum.Name) = q at hfin ⊢; cases q)
          | (refine PCall.callW (once12 (L.flatMap DEnum.Ctors)) ⟨.tok _ _ _, trivial⟩ ?_; generalize onceB (L.flatMap DEnum.Ctors) = q at hfin ⊢; cases q)
          | (refine finIq rfl ?_; rw [hfin]; simp; done)
end Go.Proofs.YtipcmpkihhfhcaaGreatDoor

namespace Go.Proofs.YtipcmpkihhfhcaaGreatDoor
open Go.Abs
set_option maxRecDepth 20000
set_option linter.unusedSimpArgs false
set_option linter.unusedVariables false
set_option maxHeartbeats 1000000
attribute [local irreducible] vc vcOps vcStep vcGuard prK hrK gK gsK brK callK ElemK SeqK BlockK ScopeK OpsK CallK LoopK LoopGo finPost ACall PCall PCallE BCall vqOps vqStep vqGuard qrK heK pcK gqK gqsK QOpsK qcallK DrawK
abbrev progBd (p : DProg) : Blk := .cells 25 [.lst 2 (p.Enums.map DEnum.enc) none, .lst 5 (p.Nodes.map DNode.enc) none]
theorem n37 : (Tryz.f37.name == "runtime.NumGoroutine") = false := by kernel_rfl
theorem some37 {p : DProg} {q : DNode → Bool} {g : Nat} {first capt : List AV} {h : List Blk} {K : AV → List Blk → Prop} (hp : ∀ x ∈ p.Nodes, ∀ (r : List Blk) (K : AV → List Blk → Prop), K (.b (q x)) (h ++ r) → ACall Tryz.prog g (first ++ DNode.enc x :: capt) (h ++ r) K)
    (hK : K (.b (p.Nodes.any q)) h) : ACall Tryz.prog 37 [p.enc, .fn (.func g) first capt] h K := by
  refine acall_of_vc tabOK Tryz.func37 n37 rfl (n := 9) rfl (rs := [.tmp 4]) rfl ?_
  simp only [go_sem, Nat.reduceAdd, Nat.reduceSub, Nat.reduceMul, Nat.reduceLT, Nat.reduceLeDiff, Nat.reduceEqDiff, Nat.reduceBEq, Nat.reduceBNe, Nat.reducePow, Int.reduceEq, Int.reduceNe, Int.reduceLT, Int.reduceLE, Int.reduceGT, Int.reduceGE, Int.reduceAdd, Int.reduceSub, Int.reduceNeg, Int.reduceMul, not_true_eq_false, not_false_eq_true, true_and, and_true, Int.reduceToNat]
  refine containsNo (p := q) (fun x hx K hK => hp x hx _ K hK) ?_
  simp only [go_sem, Nat.reduceAdd, Nat.reduceSub, Nat.reduceMul, Nat.reduceLT, Nat.reduceLeDiff, Nat.reduceEqDiff, Nat.reduceBEq, Nat.reduceBNe, Nat.reducePow, Int.reduceEq, Int.reduceNe, Int.reduceLT, Int.reduceLE, Int.reduceGT, Int.reduceGE, Int.reduceAdd, Int.reduceSub, Int.reduceNeg, Int.reduceMul, not_true_eq_false, not_false_eq_true, true_and, and_true, Int.reduceToNat]
  exact finH0 _ rfl (.raw _) hK
theorem n39 : (Tryz.f39.name == "runtime.NumGoroutine") = false := by kernel_rfl
theorem check39 (p : DProg) (n : DNode) (hn : okNode n) {k : Nat} {h : List Blk} {K : AV → List Blk → Prop} (hk : h[k]? = some (progBd p)) (hK : K (.b (!(nodeF p.Enums.length n))) h) : ACall Tryz.prog 39 [n.enc, .ptr k 0] h K := by
  have hkl := (List.getElem?_eq_some_iff.1 hk).1
  have hk1 : ∀ r, (h ++ r)[k]? = some (.cells 25 [.lst 2 (p.Enums.map DEnum.enc) none, .lst 5 (p.Nodes.map DNode.enc) none]) := fun r => by rw [List.getElem?_append_left hkl]; exact hk
  refine acall_of_vc tabOK Tryz.func39 n39 rfl (n := 9) rfl (rs := [.tmp 3]) rfl ?_
  simp only [go_sem, Nat.reduceAdd, Nat.reduceSub, Nat.reduceMul, Nat.reduceLT, Nat.reduceLeDiff, Nat.reduceEqDiff, Nat.reduceBEq, Nat.reduceBNe, Nat.reducePow, Int.reduceEq, Int.reduceNe, Int.reduceLT, Int.reduceLE, Int.reduceGT, Int.reduceGE, Int.reduceAdd, Int.reduceSub, Int.reduceNeg, Int.reduceMul, not_true_eq_false, not_false_eq_true, true_and, and_true, Int.reduceToNat, hk1]
  refine PCall.call (rightN p.Enums n hn) ?_
  simp only [go_sem, Nat.reduceAdd, Nat.reduceSub, Nat.reduceMul, Nat.reduceLT, Nat.reduceLeDiff, Nat.reduceEqDiff, Nat.reduceBEq, Nat.reduceBNe, Nat.reducePow, Int.reduceEq, Int.reduceNe, Int.reduceLT, Int.reduceLE, Int.reduceGT, Int.reduceGE, Int.reduceAdd, Int.reduceSub, Int.reduceNeg, Int.reduceMul, not_true_eq_false, not_false_eq_true, true_and, and_true, Int.reduceToNat]
  exact finH0 _ rfl (.raw _) hK
theorem n41 : (Tryz.f41.name == "runtime.NumGoroutine") = false := by kernel_rfl
theorem check41 (n : DNode) (hl : (allV n).length ≤ 60) {h : List Blk} {K : AV → List Blk → Prop} (hK : K (.b (!(onceN n))) h) : ACall Tryz.prog 41 [n.enc] h K := by
  refine acall_of_vc tabOK Tryz.func41 n41 rfl (n := 6) rfl (rs := [.tmp 2]) rfl ?_
  simp only [go_sem, Nat.reduceAdd, Nat.reduceSub, Nat.reduceMul, Nat.reduceLT, Nat.reduceLeDiff, Nat.reduceEqDiff, Nat.reduceBEq, Nat.reduceBNe, Nat.reducePow, Int.reduceEq, Int.reduceNe, Int.reduceLT, Int.reduceLE, Int.reduceGT, Int.reduceGE, Int.reduceAdd, Int.reduceSub, Int.reduceNeg, Int.reduceMul, not_true_eq_false, not_false_eq_true, true_and, and_true, Int.reduceToNat]
  refine PCall.call (onceP n hl) ?_
  simp only [go_sem, Nat.reduceAdd, Nat.reduceSub, Nat.reduceMul, Nat.reduceLT, Nat.reduceLeDiff, Nat.reduceEqDiff, Nat.reduceBEq, Nat.reduceBNe, Nat.reducePow, Int.reduceEq, Int.reduceNe, Int.reduceLT, Int.reduceLE, Int.reduceGT, Int.reduceGE, Int.reduceAdd, Int.reduceSub, Int.reduceNeg, Int.reduceMul, not_true_eq_false, not_false_eq_true, true_and, and_true, Int.reduceToNat]
  exact finH0 _ rfl (.raw _) hK
theorem great_f (n : DNode) {h : List Blk} {K : AV → List Blk → Prop} (hK : K (.b (greatF n)) h) : ACall Tryz.prog 38 [n.enc] h K := by
  refine PCall.call (greatP n) ?_
  exact hK
theorem okN_len {n : DNode} (h : okNode n) : (allV n).length ≤ 60 := by
  have h1 := h.1.1
  have h2 := h.2.1.1
  have h3 := h.2.2.1.1
  simp [allV]
  omega
theorem n12 : (Tryz.f12.name == "runtime.NumGoroutine") = false := by kernel_rfl
theorem checkP (p : DProg) (hp : okProg p) : PCall Tryz.prog 12 [p.enc] (.i (checkF p)) := by
  have hp6 := hp.2.1
  refine pcall_of_vc tabOK Tryz.func12 n12 rfl (by repeat' first | exact pure_nil | refine pure_cons ?_ ?_ | exact .raw _ | exact pure_enc _ | exact pure_lst _ | exact pure_strs _ | exact pure_ints _ | exact DTy.pure _ | exact DTy.pures _ | exact DEnum.pure _ | exact DEnum.pures _ | exact DDecl.pure _ | exact DDecl.pures _ | exact DEq.pure _ | exact DEq.pures _ | exact DNode.pure _ | exact DNode.pures _ | exact DProg.pure _ | exact DProg.pures _ | exact DCond.pure _ | exact DCond.pures _ | exact DAtom.pure _ | exact DAtom.pures _ | exact DPlain.pure _ | exact DPlain.pures _ | exact DVar.pure _ | exact DVar.pures _ | exact DFlow.pure _ | exact DFlow.pures _ | exact DFlows.pure _ | exact DFlows.pures _ | exact DAsked.pure _ | exact DAsked.pures _ | exact DFault.pure _ | exact DFault.pures _ | exact DCell.pure _ | exact DCell.pures _ | exact DReply.pure _ | exact DReply.pures _ | exact DAsk.pure _ | exact DAsk.pures _ | exact DOp.pure _ | exact DOp.pures _ | exact pure_list (fun x => DDecl.pures x) _ | exact .fn _ _ _ pure_nil pure_nil | refine .agg _ ?_ | refine .tup _ ?_ | assumption) (by repeat' first | exact pure_nil | refine pure_cons ?_ ?_ | exact .raw _ | exact pure_enc _ | exact pure_lst _ | exact pure_strs _ | exact pure_ints _ | exact DTy.pure _ | exact DTy.pures _ | exact DEnum.pure _ | exact DEnum.pures _ | exact DDecl.pure _ | exact DDecl.pures _ | exact DEq.pure _ | exact DEq.pures _ | exact DNode.pure _ | exact DNode.pures _ | exact DProg.pure _ | exact DProg.pures _ | exact DCond.pure _ | exact DCond.pures _ | exact DAtom.pure _ | exact DAtom.pures _ | exact DPlain.pure _ | exact DPlain.pures _ | exact DVar.pure _ | exact DVar.pures _ | exact DFlow.pure _ | exact DFlow.pures _ | exact DFlows.pure _ | exact DFlows.pures _ | exact DAsked.pure _ | exact DAsked.pures _ | exact DFault.pure _ | exact DFault.pures _ | exact DCell.pure _ | exact DCell.pures _ | exact DReply.pure _ | exact DReply.pures _ | exact DAsk.pure _ | exact DAsk.pures _ | exact DOp.pure _ | exact DOp.pures _ | exact pure_list (fun x => DDecl.pures x) _ | exact .fn _ _ _ pure_nil pure_nil | refine .agg _ ?_ | refine .tup _ ?_ | assumption) (n := 52) rfl (rs := [.tmp 2]) rfl ?_
  unfold checkF
  simp only [go_sem, Nat.reduceAdd, Nat.reduceSub, Nat.reduceMul, Nat.reduceLT, Nat.reduceLeDiff, Nat.reduceEqDiff, Nat.reduceBEq, Nat.reduceBNe, Nat.reducePow, Int.reduceEq, Int.reduceNe, Int.reduceLT, Int.reduceLE, Int.reduceGT, Int.reduceGE, Int.reduceAdd, Int.reduceSub, Int.reduceNeg, Int.reduceMul, not_true_eq_false, not_false_eq_true, true_and, and_true, Int.reduceToNat]
  refine PCall.call (enumsP p.Enums hp.1) ?_
  generalize enumsF p.Enums = e
  simp only [go_sem, Nat.reduceAdd, Nat.reduceSub, Nat.reduceMul, Nat.reduceLT, Nat.reduceLeDiff, Nat.reduceEqDiff, Nat.reduceBEq, Nat.reduceBNe, Nat.reducePow, Int.reduceEq, Int.reduceNe, Int.reduceLT, Int.reduceLE, Int.reduceGT, Int.reduceGE, Int.reduceAdd, Int.reduceSub, Int.reduceNeg, Int.reduceMul, not_true_eq_false, not_false_eq_true, true_and, and_true, Int.reduceToNat]
  refine brK_dec (fun h0 => ?_) (fun h0 => ?_)
  · simp only [go_sem, Nat.reduceAdd, Nat.reduceSub, Nat.reduceMul, Nat.reduceLT, Nat.reduceLeDiff, Nat.reduceEqDiff, Nat.reduceBEq, Nat.reduceBNe, Nat.reducePow, Int.reduceEq, Int.reduceNe, Int.reduceLT, Int.reduceLE, Int.reduceGT, Int.reduceGE, Int.reduceAdd, Int.reduceSub, Int.reduceNeg, Int.reduceMul, not_true_eq_false, not_false_eq_true, true_and, and_true, Int.reduceToNat]
    exact finIq rfl (by rw [if_pos (by simpa using h0)])
  rw [if_neg (by simpa using h0)]
  simp only [go_sem, Nat.reduceAdd, Nat.reduceSub, Nat.reduceMul, Nat.reduceLT, Nat.reduceLeDiff, Nat.reduceEqDiff, Nat.reduceBEq, Nat.reduceBNe, Nat.reducePow, Int.reduceEq, Int.reduceNe, Int.reduceLT, Int.reduceLE, Int.reduceGT, Int.reduceGE, Int.reduceAdd, Int.reduceSub, Int.reduceNeg, Int.reduceMul, not_true_eq_false, not_false_eq_true, true_and, and_true, Int.reduceToNat]
  intro _
  refine loop_ghost (ghost_tok 4 9 1 rfl) ?_
  refine loop_fr [4, 6, 16, 17, 18, 19, 20, 21, 22, 23, 24, 25] (fun m C hh => ∃ (i : Nat) (r : List Blk), i ≤ p.Nodes.length ∧ m = p.Nodes.length - i ∧ C = [(16, .raw (.int .i64 (i : Nat))), (4, .lst 1 (((p.Nodes.take i).map DNode.Name).map AV.s) (some 1))] ∧ hh = progBd p :: .tok 9 1 (p.Nodes.take i).length :: r) p.Nodes.length _ ⟨0, [], by omega, by omega, rfl, rfl⟩ (.cons rfl (.cons rfl .nil)) ?_
  rintro m C j hh ⟨i, r, hi, rfl, rfl, rfl⟩
  simp only [go_sem, Nat.reduceAdd, Nat.reduceSub, Nat.reduceMul, Nat.reduceLT, Nat.reduceLeDiff, Nat.reduceEqDiff, Nat.reduceBEq, Nat.reduceBNe, Nat.reducePow, Int.reduceEq, Int.reduceNe, Int.reduceLT, Int.reduceLE, Int.reduceGT, Int.reduceGE, Int.reduceAdd, Int.reduceSub, Int.reduceNeg, Int.reduceMul, not_true_eq_false, not_false_eq_true, true_and, and_true, Int.reduceToNat]
  refine brK_dec (fun hlt => ?_) (fun hge => ?_)
  · simp only [go_sem, Nat.reduceAdd, Nat.reduceSub, Nat.reduceMul, Nat.reduceLT, Nat.reduceLeDiff, Nat.reduceEqDiff, Nat.reduceBEq, Nat.reduceBNe, Nat.reducePow, Int.reduceEq, Int.reduceNe, Int.reduceLT, Int.reduceLE, Int.reduceGT, Int.reduceGE, Int.reduceAdd, Int.reduceSub, Int.reduceNeg, Int.reduceMul, not_true_eq_false, not_false_eq_true, true_and, and_true, Int.reduceToNat]
    refine elemMap (by omega) (by omega) (fun d hd => ?_)
    have hli : (p.Nodes.take i).length = i := by rw [List.length_take]; omega
    have hli2 : (p.Nodes.take (i + 1)).length = i + 1 := by rw [List.length_take]; omega
    have hst := take_mapS (f := DNode.Name) hd
    try simp only [go_sem, Nat.reduceAdd, Nat.reduceSub, Nat.reduceMul, Nat.reduceLT, Nat.reduceLeDiff, Nat.reduceEqDiff, Nat.reduceBEq, Nat.reduceBNe, Nat.reducePow, Int.reduceEq, Int.reduceNe, Int.reduceLT, Int.reduceLE, Int.reduceGT, Int.reduceGE, Int.reduceAdd, Int.reduceSub, Int.reduceNeg, Int.reduceMul, not_true_eq_false, not_false_eq_true, true_and, and_true, Int.reduceToNat]
    refine ⟨by simp; omega, ?_⟩
    try simp only [go_sem, Nat.reduceAdd, Nat.reduceSub, Nat.reduceMul, Nat.reduceLT, Nat.reduceLeDiff, Nat.reduceEqDiff, Nat.reduceBEq, Nat.reduceBNe, Nat.reducePow, Int.reduceEq, Int.reduceNe, Int.reduceLT, Int.reduceLE, Int.reduceGT, Int.reduceGE, Int.reduceAdd, Int.reduceSub, Int.reduceNeg, Int.reduceMul, not_true_eq_false, not_false_eq_true, true_and, and_true, Int.reduceToNat]
    exact loopFr _ (by omega) ⟨i + 1, _, by omega, rfl, rfl, by rw [hli2, hli]⟩ (.next rfl (by omega) (.cons (by rw [hst]; simp [slot]) .nil)) rfl
  · rw [List.take_of_length_le (by omega)]
    have hany1 : p.Nodes.all (nodeF p.Enums.length) = !(p.Nodes.any fun n => !(nodeF p.Enums.length n)) := List.all_eq_not_any_not
    have hany2 : p.Nodes.all onceN = !(p.Nodes.any fun n => !(onceN n)) := List.all_eq_not_any_not
    rw [hany1, hany2]
    repeat' first
      | (exfalso; omega)
      | simp only [go_sem, Nat.reduceAdd, Nat.reduceSub, Nat.reduceMul, Nat.reduceLT, Nat.reduceLeDiff, Nat.reduceEqDiff, Nat.reduceBEq, Nat.reduceBNe, Nat.reducePow, Int.reduceEq, Int.reduceNe, Int.reduceLT, Int.reduceLE, Int.reduceGT, Int.reduceGE, Int.reduceAdd, Int.reduceSub, Int.reduceNeg, Int.reduceMul, not_true_eq_false, not_false_eq_true, true_and, and_true, Int.reduceToNat]
      | (intro _)
      | refine brK_dec (fun _ => ?_) (fun _ => ?_)
      | refine gK_dec (fun _ => ?_) (fun _ => ?_)
      | (refine some37 (q := greatF) (fun x hx r K hK => great_f x hK) ?_; generalize p.Nodes.any greatF = b; cases b)
      | (refine some37 (q := fun n => !(nodeF p.Enums.length n)) (fun x hx r K hK => check39 p x (hp.2.2 x hx) (k := 0) rfl hK) ?_; generalize (p.Nodes.any fun n => !(nodeF p.Enums.length n)) = b; cases b)
      | (refine some37 (q := fun n => !(onceN n)) (fun x hx r K hK => check41 x (okN_len (hp.2.2 x hx)) hK) ?_; generalize (p.Nodes.any fun n => !(onceN n)) = b; cases b)
      | (refine PCall.callW (once12 (p.Nodes.map DNode.Name)) ⟨.tok _ _ _, trivial⟩ ?_; generalize onceB (p.Nodes.map DNode.Name) = b; cases b)
      | (refine finIq rfl ?_; rw [if_pos (c := p.Nodes.length = 0) (by omega)]; done)
      | (refine finIq rfl ?_; (try rw [if_pos (c := p.Nodes.length = 0) (by omega)]); (try rw [if_neg (c := p.Nodes.length = 0) (by omega)]); (try rw [decide_eq_true (p := p.Nodes.length > 6) (by omega)]); (try rw [decide_eq_false (p := p.Nodes.length > 6) (by omega)]); simp; done)
end Go.Proofs.YtipcmpkihhfhcaaGreatDoor

namespace Go.Proofs.YtipcmpkihhfhcaaGreatDoor
open Go.Abs
set_option maxRecDepth 20000
set_option linter.unusedSimpArgs false
set_option linter.unusedVariables false
set_option maxHeartbeats 1000000
attribute [local irreducible] vc vcOps vcStep vcGuard prK hrK gK gsK brK callK ElemK SeqK BlockK ScopeK OpsK CallK LoopK LoopGo finPost ACall PCall PCallE BCall vqOps vqStep vqGuard qrK heK pcK gqK gqsK QOpsK qcallK DrawK
theorem any_next {α : Type} {l : List α} {i : Nat} {x : α} (f : α → Bool) (hx : l[i]? = some x) : (l.take (i + 1)).any f = ((l.take i).any f || f x) := by
  obtain ⟨hi, rfl⟩ := List.getElem?_eq_some_iff.1 hx
  rw [List.take_succ_eq_append_getElem hi, List.any_append]
  simp
def nmD (l : List DDecl) (s : ByteArray) : Bool := l.any fun d => decide (d.Name = s)
theorem nmD_next {l : List DDecl} {i : Nat} {x : DDecl} (hx : l[i]? = some x) (s : ByteArray) : nmD (l.take (i + 1)) s = (nmD (l.take i) s || decide (x.Name = s)) := any_next _ hx
def gOpen (l m : List DDecl) (s : ByteArray) : Nat := if nmD l s = true then 1 else if nmD m s = true then 2 else 0
theorem gOpen_end (n : DNode) (s : ByteArray) : gOpen n.Ins (n.Outs ++ n.Vars) s = knF n [] s := by
  unfold gOpen knF inF nmD memB
  simp
theorem open_free {f : Value → Option AV} {W : List DDecl} {i : Nat} {d : DDecl} (hM : MapN f (gOpen [] (W.take i))) (hd : W[i]? = some d) : MapN (mput f (.string d.Name) (.raw (.int .i64 2))) (gOpen [] (W.take (i + 1))) := by
  refine hM.put d.Name 2 _ ?_ (fun s hs => ?_)
  · unfold gOpen; rw [nmD_next hd]; simp [nmD]
  · have : ¬ d.Name = s := fun e => hs e.symm
    unfold gOpen; rw [nmD_next hd]; simp [this]
theorem open_in {f : Value → Option AV} {L W : List DDecl} {i : Nat} {d : DDecl} (hM : MapN f (gOpen (L.take i) W)) (hd : L[i]? = some d) : MapN (mput f (.string d.Name) (.raw (.int .i64 1))) (gOpen (L.take (i + 1)) W) := by
  refine hM.put d.Name 1 _ ?_ (fun s hs => ?_)
  · unfold gOpen; rw [nmD_next hd]; simp
  · have : ¬ d.Name = s := fun e => hs e.symm
    unfold gOpen; rw [nmD_next hd]; simp [this]
theorem snoc3 {α : Type} (h : List α) (a b c : α) : h ++ [a, b, c] = (h ++ [a]) ++ [b, c] := by simp
theorem n48 : (Tryz.f48.name == "runtime.NumGoroutine") = false := by kernel_rfl
theorem open48 {p : DProg} {j : Nat} {n : DNode} (hj : p.Nodes[j]? = some n) (hn : okNode n) {h : List Blk} {K : AV → List Blk → Prop} (hK : ∀ A c f r, A = h ++ [progBd p] → MapN f (knF n []) → K (.ptr (A.length + 1) 0) (HS A p (j : Int) c f r)) : ACall Tryz.prog 48 [p.enc, .i (j : Int)] h K := by
  have hh1 := hn.1.1
  have hh2 := hn.2.1.1
  have hh3 := hn.2.2.1.1
  have hL : [n.Outs, n.Vars].flatten = n.Outs ++ n.Vars := by simp
  have hll : (n.Outs ++ n.Vars).length ≤ 60 := by simp; omega
  refine acallK_of_vc tabOK Tryz.func48 n48 rfl (n := 51) rfl (rs := [.tmp 4]) rfl ?_
  simp only [go_sem, Nat.reduceAdd, Nat.reduceSub, Nat.reduceMul, Nat.reduceLT, Nat.reduceLeDiff, Nat.reduceEqDiff, Nat.reduceBEq, Nat.reduceBNe, Nat.reducePow, Int.reduceEq, Int.reduceNe, Int.reduceLT, Int.reduceLE, Int.reduceGT, Int.reduceGE, Int.reduceAdd, Int.reduceSub, Int.reduceNeg, Int.reduceMul, not_true_eq_false, not_false_eq_true, true_and, and_true, Int.reduceToNat]
  rw [snoc3]
  obtain ⟨A, hA⟩ : ∃ A, A = h ++ [progBd p] := ⟨_, rfl⟩
  rw [← hA]
  have hl1 : h.length + 1 = A.length := by rw [hA]; simp
  have hl2 : h.length + 2 = A.length + 1 := by omega
  rw [hl1, hl2]
  refine node87 hj (fun r1 => ?_)
  simp only [go_sem, Nat.reduceAdd, Nat.reduceSub, Nat.reduceMul, Nat.reduceLT, Nat.reduceLeDiff, Nat.reduceEqDiff, Nat.reduceBEq, Nat.reduceBNe, Nat.reducePow, Int.reduceEq, Int.reduceNe, Int.reduceLT, Int.reduceLE, Int.reduceGT, Int.reduceGE, Int.reduceAdd, Int.reduceSub, Int.reduceNeg, Int.reduceMul, not_true_eq_false, not_false_eq_true, true_and, and_true, Int.reduceToNat]
  simp only [DNode.enc_eq]
  simp only [go_sem, Nat.reduceAdd, Nat.reduceSub, Nat.reduceMul, Nat.reduceLT, Nat.reduceLeDiff, Nat.reduceEqDiff, Nat.reduceBEq, Nat.reduceBNe, Nat.reducePow, Int.reduceEq, Int.reduceNe, Int.reduceLT, Int.reduceLE, Int.reduceGT, Int.reduceGE, Int.reduceAdd, Int.reduceSub, Int.reduceNeg, Int.reduceMul, not_true_eq_false, not_false_eq_true, true_and, and_true, Int.reduceToNat]
  refine node87 hj (fun r2 => ?_)
  simp only [go_sem, Nat.reduceAdd, Nat.reduceSub, Nat.reduceMul, Nat.reduceLT, Nat.reduceLeDiff, Nat.reduceEqDiff, Nat.reduceBEq, Nat.reduceBNe, Nat.reducePow, Int.reduceEq, Int.reduceNe, Int.reduceLT, Int.reduceLE, Int.reduceGT, Int.reduceGE, Int.reduceAdd, Int.reduceSub, Int.reduceNeg, Int.reduceMul, not_true_eq_false, not_false_eq_true, true_and, and_true, Int.reduceToNat]
  simp only [DNode.enc_eq]
  simp only [go_sem, Nat.reduceAdd, Nat.reduceSub, Nat.reduceMul, Nat.reduceLT, Nat.reduceLeDiff, Nat.reduceEqDiff, Nat.reduceBEq, Nat.reduceBNe, Nat.reducePow, Int.reduceEq, Int.reduceNe, Int.reduceLT, Int.reduceLE, Int.reduceGT, Int.reduceGE, Int.reduceAdd, Int.reduceSub, Int.reduceNeg, Int.reduceMul, not_true_eq_false, not_false_eq_true, true_and, and_true, Int.reduceToNat]
  refine PCall.callW (concatD [n.Outs, n.Vars] (by show ([n.Outs, n.Vars].flatten).length ≤ _; rw [hL]; omega)) ⟨.tok _ _ _, trivial⟩ ?_
  rw [hL]
  generalize hW : n.Outs ++ n.Vars = W at hll
  simp only [go_sem, Nat.reduceAdd, Nat.reduceSub, Nat.reduceMul, Nat.reduceLT, Nat.reduceLeDiff, Nat.reduceEqDiff, Nat.reduceBEq, Nat.reduceBNe, Nat.reducePow, Int.reduceEq, Int.reduceNe, Int.reduceLT, Int.reduceLE, Int.reduceGT, Int.reduceGE, Int.reduceAdd, Int.reduceSub, Int.reduceNeg, Int.reduceMul, not_true_eq_false, not_false_eq_true, true_and, and_true, Int.reduceToNat]
  intro _
  refine loop_fr [7, 24, 25, 26, 27, 28, 29, 30, 31, 32, 33, 34] (fun m C hh => ∃ (i c' : Nat) (f' : Value → Option AV) (r' : List Blk), i ≤ W.length ∧ m = W.length - i ∧ MapN f' (gOpen [] (W.take i)) ∧ C = [(24, .raw (.int .i64 (i : Nat)))] ∧ hh = HS A p (j : Int) c' f' r') W.length _ ⟨0, 0, _, _, by omega, by omega, MapN.nil.cast (fun s => by simp [gOpen, nmD]), rfl, rfl⟩ (.cons rfl .nil) ?_
  rintro m C jb hh ⟨i, c', f', r', hi, rfl, hM, rfl, rfl⟩
  simp only [go_sem, Nat.reduceAdd, Nat.reduceSub, Nat.reduceMul, Nat.reduceLT, Nat.reduceLeDiff, Nat.reduceEqDiff, Nat.reduceBEq, Nat.reduceBNe, Nat.reducePow, Int.reduceEq, Int.reduceNe, Int.reduceLT, Int.reduceLE, Int.reduceGT, Int.reduceGE, Int.reduceAdd, Int.reduceSub, Int.reduceNeg, Int.reduceMul, not_true_eq_false, not_false_eq_true, true_and, and_true, Int.reduceToNat]
  refine brK_dec (fun hlt => ?_) (fun hge => ?_)
  · simp only [go_sem, Nat.reduceAdd, Nat.reduceSub, Nat.reduceMul, Nat.reduceLT, Nat.reduceLeDiff, Nat.reduceEqDiff, Nat.reduceBEq, Nat.reduceBNe, Nat.reducePow, Int.reduceEq, Int.reduceNe, Int.reduceLT, Int.reduceLE, Int.reduceGT, Int.reduceGE, Int.reduceAdd, Int.reduceSub, Int.reduceNeg, Int.reduceMul, not_true_eq_false, not_false_eq_true, true_and, and_true, Int.reduceToNat]
    refine elemMap (by omega) (by omega) (fun d hd => ?_)
    have hM2 := open_free hM (by simpa using hd)
    simp only [go_sem, Nat.reduceAdd, Nat.reduceSub, Nat.reduceMul, Nat.reduceLT, Nat.reduceLeDiff, Nat.reduceEqDiff, Nat.reduceBEq, Nat.reduceBNe, Nat.reducePow, Int.reduceEq, Int.reduceNe, Int.reduceLT, Int.reduceLE, Int.reduceGT, Int.reduceGE, Int.reduceAdd, Int.reduceSub, Int.reduceNeg, Int.reduceMul, not_true_eq_false, not_false_eq_true, true_and, and_true, Int.reduceToNat]
    refine drawZ mo (by kernel_rfl) rfl ?_
    simp only [List.dropLast_cons_cons, List.dropLast_singleton, List.getLast_cons_cons, List.getLast_singleton]
    simp only [go_sem, Nat.reduceAdd, Nat.reduceSub, Nat.reduceMul, Nat.reduceLT, Nat.reduceLeDiff, Nat.reduceEqDiff, Nat.reduceBEq, Nat.reduceBNe, Nat.reducePow, Int.reduceEq, Int.reduceNe, Int.reduceLT, Int.reduceLE, Int.reduceGT, Int.reduceGE, Int.reduceAdd, Int.reduceSub, Int.reduceNeg, Int.reduceMul, not_true_eq_false, not_false_eq_true, true_and, and_true, Int.reduceToNat]
    exact loopFr _ (by omega) ⟨i + 1, _, _, _, by omega, rfl, hM2, rfl, rfl⟩ (.next rfl (by omega) .nil) rfl
  · rw [List.take_of_length_le (by omega)] at hM
    simp only [go_sem, Nat.reduceAdd, Nat.reduceSub, Nat.reduceMul, Nat.reduceLT, Nat.reduceLeDiff, Nat.reduceEqDiff, Nat.reduceBEq, Nat.reduceBNe, Nat.reducePow, Int.reduceEq, Int.reduceNe, Int.reduceLT, Int.reduceLE, Int.reduceGT, Int.reduceGE, Int.reduceAdd, Int.reduceSub, Int.reduceNeg, Int.reduceMul, not_true_eq_false, not_false_eq_true, true_and, and_true, Int.reduceToNat]
    refine node87 hj (fun r3 => ?_)
    simp only [go_sem, Nat.reduceAdd, Nat.reduceSub, Nat.reduceMul, Nat.reduceLT, Nat.reduceLeDiff, Nat.reduceEqDiff, Nat.reduceBEq, Nat.reduceBNe, Nat.reducePow, Int.reduceEq, Int.reduceNe, Int.reduceLT, Int.reduceLE, Int.reduceGT, Int.reduceGE, Int.reduceAdd, Int.reduceSub, Int.reduceNeg, Int.reduceMul, not_true_eq_false, not_false_eq_true, true_and, and_true, Int.reduceToNat]
    simp only [DNode.enc_eq]
    simp only [go_sem, Nat.reduceAdd, Nat.reduceSub, Nat.reduceMul, Nat.reduceLT, Nat.reduceLeDiff, Nat.reduceEqDiff, Nat.reduceBEq, Nat.reduceBNe, Nat.reducePow, Int.reduceEq, Int.reduceNe, Int.reduceLT, Int.reduceLE, Int.reduceGT, Int.reduceGE, Int.reduceAdd, Int.reduceSub, Int.reduceNeg, Int.reduceMul, not_true_eq_false, not_false_eq_true, true_and, and_true, Int.reduceToNat]
    intro _
    refine loop_fr [9, 39, 40, 41, 42, 43, 44, 45, 46, 47, 48, 49] (fun m C hh => ∃ (i c' : Nat) (f' : Value → Option AV) (r' : List Blk), i ≤ n.Ins.length ∧ m = n.Ins.length - i ∧ MapN f' (gOpen (n.Ins.take i) W) ∧ C = [(39, .raw (.int .i64 (i : Nat)))] ∧ hh = HS A p (j : Int) c' f' r') n.Ins.length _ ⟨0, _, _, _, by omega, by omega, hM, rfl, rfl⟩ (.cons rfl .nil) ?_
    rintro m C jd hh ⟨i2, c2, f2, r4, hi2, rfl, hM2, rfl, rfl⟩
    simp only [go_sem, Nat.reduceAdd, Nat.reduceSub, Nat.reduceMul, Nat.reduceLT, Nat.reduceLeDiff, Nat.reduceEqDiff, Nat.reduceBEq, Nat.reduceBNe, Nat.reducePow, Int.reduceEq, Int.reduceNe, Int.reduceLT, Int.reduceLE, Int.reduceGT, Int.reduceGE, Int.reduceAdd, Int.reduceSub, Int.reduceNeg, Int.reduceMul, not_true_eq_false, not_false_eq_true, true_and, and_true, Int.reduceToNat]
    refine brK_dec (fun hlt2 => ?_) (fun hge2 => ?_)
    · simp only [go_sem, Nat.reduceAdd, Nat.reduceSub, Nat.reduceMul, Nat.reduceLT, Nat.reduceLeDiff, Nat.reduceEqDiff, Nat.reduceBEq, Nat.reduceBNe, Nat.reducePow, Int.reduceEq, Int.reduceNe, Int.reduceLT, Int.reduceLE, Int.reduceGT, Int.reduceGE, Int.reduceAdd, Int.reduceSub, Int.reduceNeg, Int.reduceMul, not_true_eq_false, not_false_eq_true, true_and, and_true, Int.reduceToNat]
      refine elemMap (by omega) (by omega) (fun d hd => ?_)
      have hM3 := open_in hM2 (by simpa using hd)
      simp only [go_sem, Nat.reduceAdd, Nat.reduceSub, Nat.reduceMul, Nat.reduceLT, Nat.reduceLeDiff, Nat.reduceEqDiff, Nat.reduceBEq, Nat.reduceBNe, Nat.reducePow, Int.reduceEq, Int.reduceNe, Int.reduceLT, Int.reduceLE, Int.reduceGT, Int.reduceGE, Int.reduceAdd, Int.reduceSub, Int.reduceNeg, Int.reduceMul, not_true_eq_false, not_false_eq_true, true_and, and_true, Int.reduceToNat]
      refine drawZ mo (by kernel_rfl) rfl ?_
      simp only [List.dropLast_cons_cons, List.dropLast_singleton, List.getLast_cons_cons, List.getLast_singleton]
      simp only [go_sem, Nat.reduceAdd, Nat.reduceSub, Nat.reduceMul, Nat.reduceLT, Nat.reduceLeDiff, Nat.reduceEqDiff, Nat.reduceBEq, Nat.reduceBNe, Nat.reducePow, Int.reduceEq, Int.reduceNe, Int.reduceLT, Int.reduceLE, Int.reduceGT, Int.reduceGE, Int.reduceAdd, Int.reduceSub, Int.reduceNeg, Int.reduceMul, not_true_eq_false, not_false_eq_true, true_and, and_true, Int.reduceToNat]
      exact loopFr _ (by omega) ⟨i2 + 1, _, _, _, by omega, rfl, hM3, rfl, rfl⟩ (.next rfl (by omega) .nil) rfl
    · rw [List.take_of_length_le (by omega)] at hM2
      simp only [go_sem, Nat.reduceAdd, Nat.reduceSub, Nat.reduceMul, Nat.reduceLT, Nat.reduceLeDiff, Nat.reduceEqDiff, Nat.reduceBEq, Nat.reduceBNe, Nat.reducePow, Int.reduceEq, Int.reduceNe, Int.reduceLT, Int.reduceLE, Int.reduceGT, Int.reduceGE, Int.reduceAdd, Int.reduceSub, Int.reduceNeg, Int.reduceMul, not_true_eq_false, not_false_eq_true, true_and, and_true, Int.reduceToNat]
      exact finK (r := .ptr (A.length + 1) 0) rfl (hK A c2 f2 r4 hA (hM2.cast (fun s => by rw [← hW]; exact gOpen_end n s)))
theorem n15 : (Tryz.f15.name == "runtime.NumGoroutine") = false := by kernel_rfl
theorem scopeCheck (p : DProg) (hp : okProg p) : PCall Tryz.prog 15 [p.enc] (scopeF p).enc := by
  refine pcall_of_vc tabOK Tryz.func15 n15 rfl (by repeat' first | exact pure_nil | refine pure_cons ?_ ?_ | exact .raw _ | exact pure_enc _ | exact pure_lst _ | exact pure_strs _ | exact pure_ints _ | exact DTy.pure _ | exact DTy.pures _ | exact DEnum.pure _ | exact DEnum.pures _ | exact DDecl.pure _ | exact DDecl.pures _ | exact DEq.pure _ | exact DEq.pures _ | exact DNode.pure _ | exact DNode.pures _ | exact DProg.pure _ | exact DProg.pures _ | exact DCond.pure _ | exact DCond.pures _ | exact DAtom.pure _ | exact DAtom.pures _ | exact DPlain.pure _ | exact DPlain.pures _ | exact DVar.pure _ | exact DVar.pures _ | exact DFlow.pure _ | exact DFlow.pures _ | exact DFlows.pure _ | exact DFlows.pures _ | exact DAsked.pure _ | exact DAsked.pures _ | exact DFault.pure _ | exact DFault.pures _ | exact DCell.pure _ | exact DCell.pures _ | exact DReply.pure _ | exact DReply.pures _ | exact DAsk.pure _ | exact DAsk.pures _ | exact DOp.pure _ | exact DOp.pures _ | exact pure_list (fun x => DDecl.pures x) _ | exact .fn _ _ _ pure_nil pure_nil | refine .agg _ ?_ | refine .tup _ ?_ | assumption) (by repeat' first | exact pure_nil | refine pure_cons ?_ ?_ | exact .raw _ | exact pure_enc _ | exact pure_lst _ | exact pure_strs _ | exact pure_ints _ | exact DTy.pure _ | exact DTy.pures _ | exact DEnum.pure _ | exact DEnum.pures _ | exact DDecl.pure _ | exact DDecl.pures _ | exact DEq.pure _ | exact DEq.pures _ | exact DNode.pure _ | exact DNode.pures _ | exact DProg.pure _ | exact DProg.pures _ | exact DCond.pure _ | exact DCond.pures _ | exact DAtom.pure _ | exact DAtom.pures _ | exact DPlain.pure _ | exact DPlain.pures _ | exact DVar.pure _ | exact DVar.pures _ | exact DFlow.pure _ | exact DFlow.pures _ | exact DFlows.pure _ | exact DFlows.pures _ | exact DAsked.pure _ | exact DAsked.pures _ | exact DFault.pure _ | exact DFault.pures _ | exact DCell.pure _ | exact DCell.pures _ | exact DReply.pure _ | exact DReply.pures _ | exact DAsk.pure _ | exact DAsk.pures _ | exact DOp.pure _ | exact DOp.pures _ | exact pure_list (fun x => DDecl.pures x) _ | exact .fn _ _ _ pure_nil pure_nil | refine .agg _ ?_ | refine .tup _ ?_ | assumption) (n := 28) rfl (rs := [.cell 2 33]) rfl ?_
  have hp6 := hp.2.1
  unfold scopeF
  simp only [go_sem, Nat.reduceAdd, Nat.reduceSub, Nat.reduceMul, Nat.reduceLT, Nat.reduceLeDiff, Nat.reduceEqDiff, Nat.reduceBEq, Nat.reduceBNe, Nat.reducePow, Int.reduceEq, Int.reduceNe, Int.reduceLT, Int.reduceLE, Int.reduceGT, Int.reduceGE, Int.reduceAdd, Int.reduceSub, Int.reduceNeg, Int.reduceMul, not_true_eq_false, not_false_eq_true, true_and, and_true, Int.reduceToNat]
  refine PCall.call (checkP p hp) ?_
  generalize checkF p = e
  simp only [go_sem, Nat.reduceAdd, Nat.reduceSub, Nat.reduceMul, Nat.reduceLT, Nat.reduceLeDiff, Nat.reduceEqDiff, Nat.reduceBEq, Nat.reduceBNe, Nat.reducePow, Int.reduceEq, Int.reduceNe, Int.reduceLT, Int.reduceLE, Int.reduceGT, Int.reduceGE, Int.reduceAdd, Int.reduceSub, Int.reduceNeg, Int.reduceMul, not_true_eq_false, not_false_eq_true, true_and, and_true, Int.reduceToNat]
  refine brK_dec (fun h0 => ?_) (fun h0 => ?_)
  · rw [if_neg h0, DFault.enc_eq]
    simp only [go_sem, Nat.reduceAdd, Nat.reduceSub, Nat.reduceMul, Nat.reduceLT, Nat.reduceLeDiff, Nat.reduceEqDiff, Nat.reduceBEq, Nat.reduceBNe, Nat.reducePow, Int.reduceEq, Int.reduceNe, Int.reduceLT, Int.reduceLE, Int.reduceGT, Int.reduceGE, Int.reduceAdd, Int.reduceSub, Int.reduceNeg, Int.reduceMul, not_true_eq_false, not_false_eq_true, true_and, and_true, Int.reduceToNat]
    exact ⟨_, rfl, false, .refl _⟩
  rw [if_pos (by simpa using h0)]
  simp only [go_sem, Nat.reduceAdd, Nat.reduceSub, Nat.reduceMul, Nat.reduceLT, Nat.reduceLeDiff, Nat.reduceEqDiff, Nat.reduceBEq, Nat.reduceBNe, Nat.reducePow, Int.reduceEq, Int.reduceNe, Int.reduceLT, Int.reduceLE, Int.reduceGT, Int.reduceGE, Int.reduceAdd, Int.reduceSub, Int.reduceNeg, Int.reduceMul, not_true_eq_false, not_false_eq_true, true_and, and_true, Int.reduceToNat]
  intro _
  generalize hE : nodesFault p 0 p.Nodes = E
  refine loop_frX [4, 5, 15, 16, 17, 18, 19, 20, 21, 22, 23, 24, 25, 26] (fun m C => ∃ i : Nat, i ≤ p.Nodes.length ∧ m = p.Nodes.length - i ∧ nodesFault p i (p.Nodes.drop i) = E ∧ C = [(15, .raw (.int .i64 (i : Nat)))]) p.Nodes.length _ ⟨0, by omega, by omega, hE, rfl⟩ (.cons rfl .nil) ?_
  rintro m C ja r ⟨i, hi, rfl, hE', rfl⟩
  simp only [go_sem, Nat.reduceAdd, Nat.reduceSub, Nat.reduceMul, Nat.reduceLT, Nat.reduceLeDiff, Nat.reduceEqDiff, Nat.reduceBEq, Nat.reduceBNe, Nat.reducePow, Int.reduceEq, Int.reduceNe, Int.reduceLT, Int.reduceLE, Int.reduceGT, Int.reduceGE, Int.reduceAdd, Int.reduceSub, Int.reduceNeg, Int.reduceMul, not_true_eq_false, not_false_eq_true, true_and, and_true, Int.reduceToNat]
  refine brK_dec (fun hlt => ?_) (fun hge => ?_)
  · obtain ⟨n, hj⟩ : ∃ n, p.Nodes[i]? = some n := ⟨_, List.getElem?_eq_getElem (by omega)⟩
    have hn := hp.2.2 n (List.mem_of_getElem? hj)
    simp only [go_sem, Nat.reduceAdd, Nat.reduceSub, Nat.reduceMul, Nat.reduceLT, Nat.reduceLeDiff, Nat.reduceEqDiff, Nat.reduceBEq, Nat.reduceBNe, Nat.reducePow, Int.reduceEq, Int.reduceNe, Int.reduceLT, Int.reduceLE, Int.reduceGT, Int.reduceGE, Int.reduceAdd, Int.reduceSub, Int.reduceNeg, Int.reduceMul, not_true_eq_false, not_false_eq_true, true_and, and_true, Int.reduceToNat]
    refine open48 hj hn (fun A c f r1 hA hM => ?_)
    simp only [go_sem, Nat.reduceAdd, Nat.reduceSub, Nat.reduceMul, Nat.reduceLT, Nat.reduceLeDiff, Nat.reduceEqDiff, Nat.reduceBEq, Nat.reduceBNe, Nat.reducePow, Int.reduceEq, Int.reduceNe, Int.reduceLT, Int.reduceLE, Int.reduceGT, Int.reduceGE, Int.reduceAdd, Int.reduceSub, Int.reduceNeg, Int.reduceMul, not_true_eq_false, not_false_eq_true, true_and, and_true, Int.reduceToNat]
    refine check49 hj hn hM (fun c' f' r2 => ?_)
    subst hA
    by_cases hF : (nodeFault p (i : Int) n).Err = 0
    · have hE1 := nodes_next hE' (by simpa using hj) hF
      have hz := nodeFault_zero hF
      rw [hz, DFault.enc_eq]
      simp only [go_sem, Nat.reduceAdd, Nat.reduceSub, Nat.reduceMul, Nat.reduceLT, Nat.reduceLeDiff, Nat.reduceEqDiff, Nat.reduceBEq, Nat.reduceBNe, Nat.reducePow, Int.reduceEq, Int.reduceNe, Int.reduceLT, Int.reduceLE, Int.reduceGT, Int.reduceGE, Int.reduceAdd, Int.reduceSub, Int.reduceNeg, Int.reduceMul, not_true_eq_false, not_false_eq_true, true_and, and_true, Int.reduceToNat]
      exact loopFrX _ (by omega) _ ⟨i + 1, by omega, rfl, hE1, rfl⟩ (.next rfl (by omega) .nil) rfl (by first | rfl | (simp only [List.append_assoc, List.cons_append, List.nil_append]; rfl))
    · have hE1 := nodes_at hE' (by simpa using hj) hF
      rw [hE1]
      generalize nodeFault p (i : Int) n = F at hF
      rw [DFault.enc_eq]
      simp only [go_sem, Nat.reduceAdd, Nat.reduceSub, Nat.reduceMul, Nat.reduceLT, Nat.reduceLeDiff, Nat.reduceEqDiff, Nat.reduceBEq, Nat.reduceBNe, Nat.reducePow, Int.reduceEq, Int.reduceNe, Int.reduceLT, Int.reduceLE, Int.reduceGT, Int.reduceGE, Int.reduceAdd, Int.reduceSub, Int.reduceNeg, Int.reduceMul, not_true_eq_false, not_false_eq_true, true_and, and_true, Int.reduceToNat]
      refine brK_dec (fun _ => ?_) (fun hq => absurd hF hq)
      simp only [go_sem, Nat.reduceAdd, Nat.reduceSub, Nat.reduceMul, Nat.reduceLT, Nat.reduceLeDiff, Nat.reduceEqDiff, Nat.reduceBEq, Nat.reduceBNe, Nat.reducePow, Int.reduceEq, Int.reduceNe, Int.reduceLT, Int.reduceLE, Int.reduceGT, Int.reduceGE, Int.reduceAdd, Int.reduceSub, Int.reduceNeg, Int.reduceMul, not_true_eq_false, not_false_eq_true, true_and, and_true, Int.reduceToNat]
      exact ⟨_, rfl, false, by rw [DFault.enc_eq]; exact .refl _⟩
  · have h0 := nodes_0 hE' (by omega)
    subst h0
    rw [DFault.enc_eq]
    simp only [go_sem, Nat.reduceAdd, Nat.reduceSub, Nat.reduceMul, Nat.reduceLT, Nat.reduceLeDiff, Nat.reduceEqDiff, Nat.reduceBEq, Nat.reduceBNe, Nat.reducePow, Int.reduceEq, Int.reduceNe, Int.reduceLT, Int.reduceLE, Int.reduceGT, Int.reduceGE, Int.reduceAdd, Int.reduceSub, Int.reduceNeg, Int.reduceMul, not_true_eq_false, not_false_eq_true, true_and, and_true, Int.reduceToNat]
    exact ⟨_, rfl, false, .refl _⟩
end Go.Proofs.YtipcmpkihhfhcaaGreatDoor

namespace Go.Proofs.YtipcmpkihhfhcaaGreatDoor
open Go.Abs
set_option maxRecDepth 20000
set_option linter.unusedSimpArgs false
set_option linter.unusedVariables false
set_option maxHeartbeats 1000000
attribute [local irreducible] vc vcOps vcStep vcGuard prK hrK gK gsK brK callK ElemK SeqK BlockK ScopeK OpsK CallK LoopK LoopGo finPost ACall PCall PCallE BCall vqOps vqStep vqGuard qrK heK pcK gqK gqsK QOpsK qcallK DrawK
theorem literal51 (e : Ex) : PCall Tryz.prog 116 [e.enc] (.b (litE e)) := by
  refine pcall_of_vc tabOK Tryz.func116 n116 rfl (by repeat' first | exact pure_nil | refine pure_cons ?_ ?_ | exact .raw _ | exact pure_enc _ | exact pure_lst _ | exact pure_strs _ | exact pure_ints _ | exact DTy.pure _ | exact DTy.pures _ | exact DEnum.pure _ | exact DEnum.pures _ | exact DDecl.pure _ | exact DDecl.pures _ | exact DEq.pure _ | exact DEq.pures _ | exact DNode.pure _ | exact DNode.pures _ | exact DProg.pure _ | exact DProg.pures _ | exact DCond.pure _ | exact DCond.pures _ | exact DAtom.pure _ | exact DAtom.pures _ | exact DPlain.pure _ | exact DPlain.pures _ | exact DVar.pure _ | exact DVar.pures _ | exact DFlow.pure _ | exact DFlow.pures _ | exact DFlows.pure _ | exact DFlows.pures _ | exact DAsked.pure _ | exact DAsked.pures _ | exact DFault.pure _ | exact DFault.pures _ | exact DCell.pure _ | exact DCell.pures _ | exact DReply.pure _ | exact DReply.pures _ | exact DAsk.pure _ | exact DAsk.pures _ | exact DOp.pure _ | exact DOp.pures _ | exact pure_list (fun x => DDecl.pures x) _ | exact .fn _ _ _ pure_nil pure_nil | refine .agg _ ?_ | refine .tup _ ?_ | assumption) (by repeat' first | exact pure_nil | refine pure_cons ?_ ?_ | exact .raw _ | exact pure_enc _ | exact pure_lst _ | exact pure_strs _ | exact pure_ints _ | exact DTy.pure _ | exact DTy.pures _ | exact DEnum.pure _ | exact DEnum.pures _ | exact DDecl.pure _ | exact DDecl.pures _ | exact DEq.pure _ | exact DEq.pures _ | exact DNode.pure _ | exact DNode.pures _ | exact DProg.pure _ | exact DProg.pures _ | exact DCond.pure _ | exact DCond.pures _ | exact DAtom.pure _ | exact DAtom.pures _ | exact DPlain.pure _ | exact DPlain.pures _ | exact DVar.pure _ | exact DVar.pures _ | exact DFlow.pure _ | exact DFlow.pures _ | exact DFlows.pure _ | exact DFlows.pures _ | exact DAsked.pure _ | exact DAsked.pures _ | exact DFault.pure _ | exact DFault.pures _ | exact DCell.pure _ | exact DCell.pures _ | exact DReply.pure _ | exact DReply.pures _ | exact DAsk.pure _ | exact DAsk.pures _ | exact DOp.pure _ | exact DOp.pures _ | exact pure_list (fun x => DDecl.pures x) _ | exact .fn _ _ _ pure_nil pure_nil | refine .agg _ ?_ | refine .tup _ ?_ | assumption) (n := 36) rfl (rs := [.tmp 2]) rfl ?_
  repeat' first
    | (exfalso; omega)
    | simp only [go_sem, Nat.reduceAdd, Nat.reduceSub, Nat.reduceMul, Nat.reduceLT, Nat.reduceLeDiff, Nat.reduceEqDiff, Nat.reduceBEq, Nat.reduceBNe, Nat.reducePow, Int.reduceEq, Int.reduceNe, Int.reduceLT, Int.reduceLE, Int.reduceGT, Int.reduceGE, Int.reduceAdd, Int.reduceSub, Int.reduceNeg, Int.reduceMul, not_true_eq_false, not_false_eq_true, true_and, and_true, Int.reduceToNat]
    | (intro _)
    | refine brK_dec (fun _ => ?_) (fun _ => ?_)
    | refine gK_dec (fun _ => ?_) (fun _ => ?_)
    | refine elemMap (by omega) (by omega) (fun x hx => ?_)
    | (refine finBq rfl ?_; have hk := k0_at hx; simp [litE, *]; done)
    | (refine finBq rfl ?_; simp [litE, *]; done)
    | (refine finBq rfl ?_; have h1 : ¬ e.subs.length = 1 := (by omega); simp [litE, *]; done)
    | (refine finBq rfl ?_; have h1 : e.subs.length = 1 := (by omega); have hk := k0_at hx; simp [litE, *]; done)
theorem const19 (e : Ex) : PCall Tryz.prog 63 [e.enc] (.b (constE e)) := by
  refine pcall_of_vc tabOK Tryz.func63 n63 rfl (by repeat' first | exact pure_nil | refine pure_cons ?_ ?_ | exact .raw _ | exact pure_enc _ | exact pure_lst _ | exact pure_strs _ | exact pure_ints _ | exact DTy.pure _ | exact DTy.pures _ | exact DEnum.pure _ | exact DEnum.pures _ | exact DDecl.pure _ | exact DDecl.pures _ | exact DEq.pure _ | exact DEq.pures _ | exact DNode.pure _ | exact DNode.pures _ | exact DProg.pure _ | exact DProg.pures _ | exact DCond.pure _ | exact DCond.pures _ | exact DAtom.pure _ | exact DAtom.pures _ | exact DPlain.pure _ | exact DPlain.pures _ | exact DVar.pure _ | exact DVar.pures _ | exact DFlow.pure _ | exact DFlow.pures _ | exact DFlows.pure _ | exact DFlows.pures _ | exact DAsked.pure _ | exact DAsked.pures _ | exact DFault.pure _ | exact DFault.pures _ | exact DCell.pure _ | exact DCell.pures _ | exact DReply.pure _ | exact DReply.pures _ | exact DAsk.pure _ | exact DAsk.pures _ | exact DOp.pure _ | exact DOp.pures _ | exact pure_list (fun x => DDecl.pures x) _ | exact .fn _ _ _ pure_nil pure_nil | refine .agg _ ?_ | refine .tup _ ?_ | assumption) (by repeat' first | exact pure_nil | refine pure_cons ?_ ?_ | exact .raw _ | exact pure_enc _ | exact pure_lst _ | exact pure_strs _ | exact pure_ints _ | exact DTy.pure _ | exact DTy.pures _ | exact DEnum.pure _ | exact DEnum.pures _ | exact DDecl.pure _ | exact DDecl.pures _ | exact DEq.pure _ | exact DEq.pures _ | exact DNode.pure _ | exact DNode.pures _ | exact DProg.pure _ | exact DProg.pures _ | exact DCond.pure _ | exact DCond.pures _ | exact DAtom.pure _ | exact DAtom.pures _ | exact DPlain.pure _ | exact DPlain.pures _ | exact DVar.pure _ | exact DVar.pures _ | exact DFlow.pure _ | exact DFlow.pures _ | exact DFlows.pure _ | exact DFlows.pures _ | exact DAsked.pure _ | exact DAsked.pures _ | exact DFault.pure _ | exact DFault.pures _ | exact DCell.pure _ | exact DCell.pures _ | exact DReply.pure _ | exact DReply.pures _ | exact DAsk.pure _ | exact DAsk.pures _ | exact DOp.pure _ | exact DOp.pures _ | exact pure_list (fun x => DDecl.pures x) _ | exact .fn _ _ _ pure_nil pure_nil | refine .agg _ ?_ | refine .tup _ ?_ | assumption) (n := 23) rfl (rs := [.tmp 2]) rfl ?_
  repeat' first
    | exact finB rfl
    | exact finI rfl
    | exact finP rfl
    | exact absurd rfl (by assumption)
    | simp only [go_sem, Nat.reduceAdd, Nat.reduceSub, Nat.reduceMul, Nat.reduceLT, Nat.reduceLeDiff, Nat.reduceEqDiff, Nat.reduceBEq, Nat.reduceBNe, Nat.reducePow, Int.reduceEq, Int.reduceNe, Int.reduceLT, Int.reduceLE, Int.reduceGT, Int.reduceGE, Int.reduceAdd, Int.reduceSub, Int.reduceNeg, Int.reduceMul, not_true_eq_false, not_false_eq_true, true_and, and_true, Int.reduceToNat]
    | (intro _)
    | refine brK_dec (fun _ => ?_) (fun _ => ?_)
    | refine brK_any ?_ ?_
    | refine gK_dec (fun _ => ?_) (fun _ => ?_)
    | refine gK_any ?_ ?_
    | refine gqK_dec (fun _ => ?_) (fun _ => ?_)
    | refine ⟨by omega, ?_⟩
    | refine elemHave (by omega) (by assumption) ?_
    | refine elemMap (by omega) (by omega) (fun x hx => ?_)
    | refine drawK mo (by kernel_rfl) ?_
    | ((fail_if_success (clear hx)); have hk14 : ¬ e.kind = 14 := (by assumption); refine PCall.call (literal51 e) ?_)
    | (have hk14 : e.kind = 14 := (by omega); refine PCall.call (literal51 x) ?_; generalize hpx : litE x = q; cases q)
    | (refine pcK_of (literal51 x) ?_; generalize hpx : litE x = q; cases q)
    | (refine finBq rfl ?_; simp [constE, *]; done)
    | (have hk14 : e.kind = 14 := (by omega); refine finBq rfl ?_; unfold constE; rw [if_pos hk14]; first | (rw [List.all_eq_true.2 (take_full hpi (by omega))]) | (rw [List.all_eq_false.2 ⟨x, List.mem_of_getElem? hx, by simp [hpx]⟩]))
    | exact loopFrH _ (by omega) ⟨i + 1, by omega, rfl, take_all hpi (by simpa using hx) hpx, rfl⟩ (.next rfl (by omega) .nil) rfl
    | (refine loop_frH [2, 3, 9, 10, 11, 12, 13, 14, 15, 16, 17, 18, 19, 20, 21, 22] (fun mm_ CC_ => ∃ (i : Nat), i ≤ e.subs.length ∧ mm_ = e.subs.length - i ∧ (∀ x ∈ e.subs.take i, litE x = true) ∧ CC_ = [(3, .raw (.int .i64 ((i : Nat) : Int)))]) (e.subs.length) _ ⟨0, by omega, by omega, by simp, rfl⟩ (.cons rfl .nil) ?_; rintro mm_ CC_ ji ⟨i, hi, rfl, hpi, rfl⟩)
theorem numbers72 (e : Ex) : PCall Tryz.prog 94 [e.enc] (.b (numbersE e)) := by
  refine pcall_of_vc tabOK Tryz.func94 n94 rfl (by repeat' first | exact pure_nil | refine pure_cons ?_ ?_ | exact .raw _ | exact pure_enc _ | exact pure_lst _ | exact pure_strs _ | exact pure_ints _ | exact DTy.pure _ | exact DTy.pures _ | exact DEnum.pure _ | exact DEnum.pures _ | exact DDecl.pure _ | exact DDecl.pures _ | exact DEq.pure _ | exact DEq.pures _ | exact DNode.pure _ | exact DNode.pures _ | exact DProg.pure _ | exact DProg.pures _ | exact DCond.pure _ | exact DCond.pures _ | exact DAtom.pure _ | exact DAtom.pures _ | exact DPlain.pure _ | exact DPlain.pures _ | exact DVar.pure _ | exact DVar.pures _ | exact DFlow.pure _ | exact DFlow.pures _ | exact DFlows.pure _ | exact DFlows.pures _ | exact DAsked.pure _ | exact DAsked.pures _ | exact DFault.pure _ | exact DFault.pures _ | exact DCell.pure _ | exact DCell.pures _ | exact DReply.pure _ | exact DReply.pures _ | exact DAsk.pure _ | exact DAsk.pures _ | exact DOp.pure _ | exact DOp.pures _ | exact pure_list (fun x => DDecl.pures x) _ | exact .fn _ _ _ pure_nil pure_nil | refine .agg _ ?_ | refine .tup _ ?_ | assumption) (by repeat' first | exact pure_nil | refine pure_cons ?_ ?_ | exact .raw _ | exact pure_enc _ | exact pure_lst _ | exact pure_strs _ | exact pure_ints _ | exact DTy.pure _ | exact DTy.pures _ | exact DEnum.pure _ | exact DEnum.pures _ | exact DDecl.pure _ | exact DDecl.pures _ | exact DEq.pure _ | exact DEq.pures _ | exact DNode.pure _ | exact DNode.pures _ | exact DProg.pure _ | exact DProg.pures _ | exact DCond.pure _ | exact DCond.pures _ | exact DAtom.pure _ | exact DAtom.pures _ | exact DPlain.pure _ | exact DPlain.pures _ | exact DVar.pure _ | exact DVar.pures _ | exact DFlow.pure _ | exact DFlow.pures _ | exact DFlows.pure _ | exact DFlows.pures _ | exact DAsked.pure _ | exact DAsked.pures _ | exact DFault.pure _ | exact DFault.pures _ | exact DCell.pure _ | exact DCell.pures _ | exact DReply.pure _ | exact DReply.pures _ | exact DAsk.pure _ | exact DAsk.pures _ | exact DOp.pure _ | exact DOp.pures _ | exact pure_list (fun x => DDecl.pures x) _ | exact .fn _ _ _ pure_nil pure_nil | refine .agg _ ?_ | refine .tup _ ?_ | assumption) (n := 46) rfl (rs := [.tmp 2]) rfl ?_
  repeat' first
    | exact finB rfl
    | exact finI rfl
    | exact finP rfl
    | exact absurd rfl (by assumption)
    | simp only [go_sem, Nat.reduceAdd, Nat.reduceSub, Nat.reduceMul, Nat.reduceLT, Nat.reduceLeDiff, Nat.reduceEqDiff, Nat.reduceBEq, Nat.reduceBNe, Nat.reducePow, Int.reduceEq, Int.reduceNe, Int.reduceLT, Int.reduceLE, Int.reduceGT, Int.reduceGE, Int.reduceAdd, Int.reduceSub, Int.reduceNeg, Int.reduceMul, not_true_eq_false, not_false_eq_true, true_and, and_true, Int.reduceToNat]
    | (intro _)
    | refine brK_dec (fun _ => ?_) (fun _ => ?_)
    | refine brK_any ?_ ?_
    | refine gK_dec (fun _ => ?_) (fun _ => ?_)
    | refine gK_any ?_ ?_
    | refine gqK_dec (fun _ => ?_) (fun _ => ?_)
    | refine ⟨by omega, ?_⟩
    | refine elemHave (by omega) (by assumption) ?_
    | refine elemMap (by omega) (by omega) (fun x hx => ?_)
    | refine drawK mo (by kernel_rfl) ?_
    | (exfalso; omega)
    | (refine finBq rfl ?_; simp [numbersE, *]; done)
    | (refine finBq rfl ?_; simp [numbersE, *] <;> omega)
    | (refine finBq rfl ?_; simp [numbersE, *]; intros; omega)
theorem named73 (e : Ex) (hn : e.name.size ≤ 1000000) : PCall Tryz.prog 95 [e.enc] (.b (namedE e)) := by
  refine pcall_of_vc tabOK Tryz.func95 n95 rfl (by repeat' first | exact pure_nil | refine pure_cons ?_ ?_ | exact .raw _ | exact pure_enc _ | exact pure_lst _ | exact pure_strs _ | exact pure_ints _ | exact DTy.pure _ | exact DTy.pures _ | exact DEnum.pure _ | exact DEnum.pures _ | exact DDecl.pure _ | exact DDecl.pures _ | exact DEq.pure _ | exact DEq.pures _ | exact DNode.pure _ | exact DNode.pures _ | exact DProg.pure _ | exact DProg.pures _ | exact DCond.pure _ | exact DCond.pures _ | exact DAtom.pure _ | exact DAtom.pures _ | exact DPlain.pure _ | exact DPlain.pures _ | exact DVar.pure _ | exact DVar.pures _ | exact DFlow.pure _ | exact DFlow.pures _ | exact DFlows.pure _ | exact DFlows.pures _ | exact DAsked.pure _ | exact DAsked.pures _ | exact DFault.pure _ | exact DFault.pures _ | exact DCell.pure _ | exact DCell.pures _ | exact DReply.pure _ | exact DReply.pures _ | exact DAsk.pure _ | exact DAsk.pures _ | exact DOp.pure _ | exact DOp.pures _ | exact pure_list (fun x => DDecl.pures x) _ | exact .fn _ _ _ pure_nil pure_nil | refine .agg _ ?_ | refine .tup _ ?_ | assumption) (by repeat' first | exact pure_nil | refine pure_cons ?_ ?_ | exact .raw _ | exact pure_enc _ | exact pure_lst _ | exact pure_strs _ | exact pure_ints _ | exact DTy.pure _ | exact DTy.pures _ | exact DEnum.pure _ | exact DEnum.pures _ | exact DDecl.pure _ | exact DDecl.pures _ | exact DEq.pure _ | exact DEq.pures _ | exact DNode.pure _ | exact DNode.pures _ | exact DProg.pure _ | exact DProg.pures _ | exact DCond.pure _ | exact DCond.pures _ | exact DAtom.pure _ | exact DAtom.pures _ | exact DPlain.pure _ | exact DPlain.pures _ | exact DVar.pure _ | exact DVar.pures _ | exact DFlow.pure _ | exact DFlow.pures _ | exact DFlows.pure _ | exact DFlows.pures _ | exact DAsked.pure _ | exact DAsked.pures _ | exact DFault.pure _ | exact DFault.pures _ | exact DCell.pure _ | exact DCell.pures _ | exact DReply.pure _ | exact DReply.pures _ | exact DAsk.pure _ | exact DAsk.pures _ | exact DOp.pure _ | exact DOp.pures _ | exact pure_list (fun x => DDecl.pures x) _ | exact .fn _ _ _ pure_nil pure_nil | refine .agg _ ?_ | refine .tup _ ?_ | assumption) (n := 26) rfl (rs := [.tmp 2]) rfl ?_
  repeat' first
    | exact finB rfl
    | exact finI rfl
    | exact finP rfl
    | exact absurd rfl (by assumption)
    | simp only [go_sem, Nat.reduceAdd, Nat.reduceSub, Nat.reduceMul, Nat.reduceLT, Nat.reduceLeDiff, Nat.reduceEqDiff, Nat.reduceBEq, Nat.reduceBNe, Nat.reducePow, Int.reduceEq, Int.reduceNe, Int.reduceLT, Int.reduceLE, Int.reduceGT, Int.reduceGE, Int.reduceAdd, Int.reduceSub, Int.reduceNeg, Int.reduceMul, not_true_eq_false, not_false_eq_true, true_and, and_true, Int.reduceToNat]
    | (intro _)
    | refine brK_dec (fun _ => ?_) (fun _ => ?_)
    | refine brK_any ?_ ?_
    | refine gK_dec (fun _ => ?_) (fun _ => ?_)
    | refine gK_any ?_ ?_
    | refine gqK_dec (fun _ => ?_) (fun _ => ?_)
    | refine ⟨by omega, ?_⟩
    | refine elemHave (by omega) (by assumption) ?_
    | refine elemMap (by omega) (by omega) (fun x hx => ?_)
    | refine drawK mo (by kernel_rfl) ?_
    | (refine PCall.call (low_x _) ?_)
    | (refine PCall.call (high_x _) ?_)
    | (refine PCall.call (path_x _ hn) ?_)
    | (refine finBq rfl ?_; simp [namedE, *]; done)
theorem arm91x (s : ByteArray) : PCall Tryz.prog 145 [.s s] (.b (armE s)) := by
  refine pcall_of_vc tabOK Tryz.func145 n145 rfl (by repeat' first | exact pure_nil | refine pure_cons ?_ ?_ | exact .raw _ | exact pure_enc _ | exact pure_lst _ | exact pure_strs _ | exact pure_ints _ | exact DTy.pure _ | exact DTy.pures _ | exact DEnum.pure _ | exact DEnum.pures _ | exact DDecl.pure _ | exact DDecl.pures _ | exact DEq.pure _ | exact DEq.pures _ | exact DNode.pure _ | exact DNode.pures _ | exact DProg.pure _ | exact DProg.pures _ | exact DCond.pure _ | exact DCond.pures _ | exact DAtom.pure _ | exact DAtom.pures _ | exact DPlain.pure _ | exact DPlain.pures _ | exact DVar.pure _ | exact DVar.pures _ | exact DFlow.pure _ | exact DFlow.pures _ | exact DFlows.pure _ | exact DFlows.pures _ | exact DAsked.pure _ | exact DAsked.pures _ | exact DFault.pure _ | exact DFault.pures _ | exact DCell.pure _ | exact DCell.pures _ | exact DReply.pure _ | exact DReply.pures _ | exact DAsk.pure _ | exact DAsk.pures _ | exact DOp.pure _ | exact DOp.pures _ | exact pure_list (fun x => DDecl.pures x) _ | exact .fn _ _ _ pure_nil pure_nil | refine .agg _ ?_ | refine .tup _ ?_ | assumption) (by repeat' first | exact pure_nil | refine pure_cons ?_ ?_ | exact .raw _ | exact pure_enc _ | exact pure_lst _ | exact pure_strs _ | exact pure_ints _ | exact DTy.pure _ | exact DTy.pures _ | exact DEnum.pure _ | exact DEnum.pures _ | exact DDecl.pure _ | exact DDecl.pures _ | exact DEq.pure _ | exact DEq.pures _ | exact DNode.pure _ | exact DNode.pures _ | exact DProg.pure _ | exact DProg.pures _ | exact DCond.pure _ | exact DCond.pures _ | exact DAtom.pure _ | exact DAtom.pures _ | exact DPlain.pure _ | exact DPlain.pures _ | exact DVar.pure _ | exact DVar.pures _ | exact DFlow.pure _ | exact DFlow.pures _ | exact DFlows.pure _ | exact DFlows.pures _ | exact DAsked.pure _ | exact DAsked.pures _ | exact DFault.pure _ | exact DFault.pures _ | exact DCell.pure _ | exact DCell.pures _ | exact DReply.pure _ | exact DReply.pures _ | exact DAsk.pure _ | exact DAsk.pures _ | exact DOp.pure _ | exact DOp.pures _ | exact pure_list (fun x => DDecl.pures x) _ | exact .fn _ _ _ pure_nil pure_nil | refine .agg _ ?_ | refine .tup _ ?_ | assumption) (n := 13) rfl (rs := [.tmp 2]) rfl ?_
  unfold armE
  repeat' first
    | exact finB rfl
    | exact finI rfl
    | exact finP rfl
    | exact absurd rfl (by assumption)
    | simp only [go_sem, Nat.reduceAdd, Nat.reduceSub, Nat.reduceMul, Nat.reduceLT, Nat.reduceLeDiff, Nat.reduceEqDiff, Nat.reduceBEq, Nat.reduceBNe, Nat.reducePow, Int.reduceEq, Int.reduceNe, Int.reduceLT, Int.reduceLE, Int.reduceGT, Int.reduceGE, Int.reduceAdd, Int.reduceSub, Int.reduceNeg, Int.reduceMul, not_true_eq_false, not_false_eq_true, true_and, and_true, Int.reduceToNat]
    | (intro _)
    | refine brK_dec (fun _ => ?_) (fun _ => ?_)
    | refine brK_split (fun hb_ => ?_) (fun hb_ => ?_)
    | refine gK_dec (fun _ => ?_) (fun _ => ?_)
    | refine gK_split (fun hb_ => ?_) (fun hb_ => ?_)
    | refine gqK_dec (fun _ => ?_) (fun _ => ?_)
    | refine ⟨by omega, ?_⟩
    | refine elemHave (by omega) (by assumption) ?_
    | refine elemMap (by omega) (by omega) (fun x hx => ?_)
    | refine drawK mo (by kernel_rfl) ?_
    | (refine PCall.call (high_x s) ?_; generalize highF s = q; cases q)
    | (exact finBq rfl (by simp [*]))
theorem pure_ii (a b : Int) : Go.Abs.Pure (.tup [.i a, .i b]) := .tup _ (pure_cons (.raw _) (pure_cons (.raw _) pure_nil))
theorem finII {T : TypeId → TI} {rs : List ResultVar} {s : List AV} {h : List Blk} {p : Int × Int} {a b : Int} (hr : resAV T s h rs = some [.i a, .i b]) (hp : p = (a, b)) : Go.Abs.Fin T rs (.tup [.i p.1, .i p.2]) s h := by
  subst hp
  exact ⟨_, hr, false, .refl _⟩
theorem subs75 (e : Ex) (h13 : e.kind = 13 → e.n = 0 ∨ e.n = 1) : PCall Tryz.prog 97 [e.enc] (.tup [.i (subsE e).1, .i (subsE e).2]) := by
  refine pcall_of_vc tabOK Tryz.func97 n97 rfl (by repeat' first | exact pure_nil | refine pure_cons ?_ ?_ | exact .raw _ | exact pure_enc _ | exact pure_lst _ | exact pure_strs _ | exact pure_ints _ | exact DTy.pure _ | exact DTy.pures _ | exact DEnum.pure _ | exact DEnum.pures _ | exact DDecl.pure _ | exact DDecl.pures _ | exact DEq.pure _ | exact DEq.pures _ | exact DNode.pure _ | exact DNode.pures _ | exact DProg.pure _ | exact DProg.pures _ | exact DCond.pure _ | exact DCond.pures _ | exact DAtom.pure _ | exact DAtom.pures _ | exact DPlain.pure _ | exact DPlain.pures _ | exact DVar.pure _ | exact DVar.pures _ | exact DFlow.pure _ | exact DFlow.pures _ | exact DFlows.pure _ | exact DFlows.pures _ | exact DAsked.pure _ | exact DAsked.pures _ | exact DFault.pure _ | exact DFault.pures _ | exact DCell.pure _ | exact DCell.pures _ | exact DReply.pure _ | exact DReply.pures _ | exact DAsk.pure _ | exact DAsk.pures _ | exact DOp.pure _ | exact DOp.pures _ | exact pure_list (fun x => DDecl.pures x) _ | exact .fn _ _ _ pure_nil pure_nil | refine .agg _ ?_ | refine .tup _ ?_ | assumption) (pure_ii _ _) (n := 35) rfl (rs := [.tmp 2, .tmp 3]) rfl ?_
  have hw : e.kind = 13 → IntKind.i64.wrap (6 + e.n) = 6 + e.n := fun h => by have := h13 h; rw [wrap_in _ (by omega) (by omega)]
  repeat' first
    | (exfalso; omega)
    | simp only [go_sem, Nat.reduceAdd, Nat.reduceSub, Nat.reduceMul, Nat.reduceLT, Nat.reduceLeDiff, Nat.reduceEqDiff, Nat.reduceBEq, Nat.reduceBNe, Nat.reducePow, Int.reduceEq, Int.reduceNe, Int.reduceLT, Int.reduceLE, Int.reduceGT, Int.reduceGE, Int.reduceAdd, Int.reduceSub, Int.reduceNeg, Int.reduceMul, not_true_eq_false, not_false_eq_true, true_and, and_true, Int.reduceToNat]
    | (intro _)
    | refine brK_dec (fun _ => ?_) (fun _ => ?_)
    | refine gK_dec (fun _ => ?_) (fun _ => ?_)
    | (refine drawK mo (by kernel_rfl) ?_)
    | (refine finII rfl ?_; simp [subsE, *]; done)
theorem arms74 (e : Ex) : PCall Tryz.prog 96 [e.enc] (.b (armsE e)) := by
  refine pcall_of_vc tabOK Tryz.func96 n96 rfl (by repeat' first | exact pure_nil | refine pure_cons ?_ ?_ | exact .raw _ | exact pure_enc _ | exact pure_lst _ | exact pure_strs _ | exact pure_ints _ | exact DTy.pure _ | exact DTy.pures _ | exact DEnum.pure _ | exact DEnum.pures _ | exact DDecl.pure _ | exact DDecl.pures _ | exact DEq.pure _ | exact DEq.pures _ | exact DNode.pure _ | exact DNode.pures _ | exact DProg.pure _ | exact DProg.pures _ | exact DCond.pure _ | exact DCond.pures _ | exact DAtom.pure _ | exact DAtom.pures _ | exact DPlain.pure _ | exact DPlain.pures _ | exact DVar.pure _ | exact DVar.pures _ | exact DFlow.pure _ | exact DFlow.pures _ | exact DFlows.pure _ | exact DFlows.pures _ | exact DAsked.pure _ | exact DAsked.pures _ | exact DFault.pure _ | exact DFault.pures _ | exact DCell.pure _ | exact DCell.pures _ | exact DReply.pure _ | exact DReply.pures _ | exact DAsk.pure _ | exact DAsk.pures _ | exact DOp.pure _ | exact DOp.pures _ | exact pure_list (fun x => DDecl.pures x) _ | exact .fn _ _ _ pure_nil pure_nil | refine .agg _ ?_ | refine .tup _ ?_ | assumption) (by repeat' first | exact pure_nil | refine pure_cons ?_ ?_ | exact .raw _ | exact pure_enc _ | exact pure_lst _ | exact pure_strs _ | exact pure_ints _ | exact DTy.pure _ | exact DTy.pures _ | exact DEnum.pure _ | exact DEnum.pures _ | exact DDecl.pure _ | exact DDecl.pures _ | exact DEq.pure _ | exact DEq.pures _ | exact DNode.pure _ | exact DNode.pures _ | exact DProg.pure _ | exact DProg.pures _ | exact DCond.pure _ | exact DCond.pures _ | exact DAtom.pure _ | exact DAtom.pures _ | exact DPlain.pure _ | exact DPlain.pures _ | exact DVar.pure _ | exact DVar.pures _ | exact DFlow.pure _ | exact DFlow.pures _ | exact DFlows.pure _ | exact DFlows.pures _ | exact DAsked.pure _ | exact DAsked.pures _ | exact DFault.pure _ | exact DFault.pures _ | exact DCell.pure _ | exact DCell.pures _ | exact DReply.pure _ | exact DReply.pures _ | exact DAsk.pure _ | exact DAsk.pures _ | exact DOp.pure _ | exact DOp.pures _ | exact pure_list (fun x => DDecl.pures x) _ | exact .fn _ _ _ pure_nil pure_nil | refine .agg _ ?_ | refine .tup _ ?_ | assumption) (n := 47) rfl (rs := [.tmp 2]) rfl ?_
  repeat' first
    | exact finB rfl
    | exact finI rfl
    | exact finP rfl
    | exact absurd rfl (by assumption)
    | simp only [go_sem, Nat.reduceAdd, Nat.reduceSub, Nat.reduceMul, Nat.reduceLT, Nat.reduceLeDiff, Nat.reduceEqDiff, Nat.reduceBEq, Nat.reduceBNe, Nat.reducePow, Int.reduceEq, Int.reduceNe, Int.reduceLT, Int.reduceLE, Int.reduceGT, Int.reduceGE, Int.reduceAdd, Int.reduceSub, Int.reduceNeg, Int.reduceMul, not_true_eq_false, not_false_eq_true, true_and, and_true, Int.reduceToNat]
    | (intro _)
    | refine brK_dec (fun _ => ?_) (fun _ => ?_)
    | refine brK_any ?_ ?_
    | refine gK_dec (fun _ => ?_) (fun _ => ?_)
    | refine gK_any ?_ ?_
    | refine gqK_dec (fun _ => ?_) (fun _ => ?_)
    | refine ⟨by omega, ?_⟩
    | refine elemHave (by omega) (by assumption) ?_
    | refine elemMap (by omega) (by omega) (fun x hx => ?_)
    | refine drawK mo (by kernel_rfl) ?_
    | (exfalso; omega)
    | (refine PCall.call (arm91x x) ?_; generalize hpx : armE x = q; cases q)
    | (refine PCall.call (once_x e.arms) ?_; generalize ho : onceB e.arms = o; cases o)
    | (have hall : e.arms.all armE = false := List.all_eq_false.2 ⟨x, List.mem_of_getElem? hx, by simp [hpx]⟩; refine finBq rfl ?_; unfold armsE; rw [hall]; simp; done)
    | (have hall : e.arms.all armE = true := List.all_eq_true.2 (take_full hpi (by omega)); refine finBq rfl ?_; unfold armsE; rw [hall]; first | (simp [*]; done) | (simp [*]; omega))
    | exact loopFrH _ (by omega) ⟨i + 1, by omega, rfl, take_all hpi (by simpa using hx) hpx, rfl⟩ (.next rfl (by omega) .nil) rfl
    | (refine loop_frH [2, 3, 4, 5, 6, 7, 8, 9, 10, 11, 12, 13, 14, 15, 16, 17] (fun mm_ CC_ => ∃ (i : Nat), i ≤ e.arms.length ∧ mm_ = e.arms.length - i ∧ (∀ x ∈ e.arms.take i, armE x = true) ∧ CC_ = [(3, .raw (.int .i64 ((i : Nat) : Int)))]) (e.arms.length) _ ⟨0, by omega, by omega, by simp, rfl⟩ (.cons rfl .nil) ?_; rintro mm_ CC_ ji ⟨i, hi, rfl, hpi, rfl⟩)
theorem part47 (e : Ex) (hn : e.name.size ≤ 1000000) : PCall Tryz.prog 55 [e.enc] (.b (partE e)) := by
  refine pcall_of_vc tabOK Tryz.func55 n55 rfl (by repeat' first | exact pure_nil | refine pure_cons ?_ ?_ | exact .raw _ | exact pure_enc _ | exact pure_lst _ | exact pure_strs _ | exact pure_ints _ | exact DTy.pure _ | exact DTy.pures _ | exact DEnum.pure _ | exact DEnum.pures _ | exact DDecl.pure _ | exact DDecl.pures _ | exact DEq.pure _ | exact DEq.pures _ | exact DNode.pure _ | exact DNode.pures _ | exact DProg.pure _ | exact DProg.pures _ | exact DCond.pure _ | exact DCond.pures _ | exact DAtom.pure _ | exact DAtom.pures _ | exact DPlain.pure _ | exact DPlain.pures _ | exact DVar.pure _ | exact DVar.pures _ | exact DFlow.pure _ | exact DFlow.pures _ | exact DFlows.pure _ | exact DFlows.pures _ | exact DAsked.pure _ | exact DAsked.pures _ | exact DFault.pure _ | exact DFault.pures _ | exact DCell.pure _ | exact DCell.pures _ | exact DReply.pure _ | exact DReply.pures _ | exact DAsk.pure _ | exact DAsk.pures _ | exact DOp.pure _ | exact DOp.pures _ | exact pure_list (fun x => DDecl.pures x) _ | exact .fn _ _ _ pure_nil pure_nil | refine .agg _ ?_ | refine .tup _ ?_ | assumption) (by repeat' first | exact pure_nil | refine pure_cons ?_ ?_ | exact .raw _ | exact pure_enc _ | exact pure_lst _ | exact pure_strs _ | exact pure_ints _ | exact DTy.pure _ | exact DTy.pures _ | exact DEnum.pure _ | exact DEnum.pures _ | exact DDecl.pure _ | exact DDecl.pures _ | exact DEq.pure _ | exact DEq.pures _ | exact DNode.pure _ | exact DNode.pures _ | exact DProg.pure _ | exact DProg.pures _ | exact DCond.pure _ | exact DCond.pures _ | exact DAtom.pure _ | exact DAtom.pures _ | exact DPlain.pure _ | exact DPlain.pures _ | exact DVar.pure _ | exact DVar.pures _ | exact DFlow.pure _ | exact DFlow.pures _ | exact DFlows.pure _ | exact DFlows.pures _ | exact DAsked.pure _ | exact DAsked.pures _ | exact DFault.pure _ | exact DFault.pures _ | exact DCell.pure _ | exact DCell.pures _ | exact DReply.pure _ | exact DReply.pures _ | exact DAsk.pure _ | exact DAsk.pures _ | exact DOp.pure _ | exact DOp.pures _ | exact pure_list (fun x => DDecl.pures x) _ | exact .fn _ _ _ pure_nil pure_nil | refine .agg _ ?_ | refine .tup _ ?_ | assumption) (n := 57) rfl (rs := [.tmp 2]) rfl ?_
  have h8 : e.kind = 8 → (subsE e).1 = 2 := fun h => by simp [subsE, h]
  have h13 : numbersE e = true → e.kind = 13 → e.n = 0 ∨ e.n = 1 := fun h h13 => by
    simp [numbersE, h13] at h
    exact h.2
  unfold partE
  repeat' first
    | (exfalso; omega)
    | simp only [go_sem, Nat.reduceAdd, Nat.reduceSub, Nat.reduceMul, Nat.reduceLT, Nat.reduceLeDiff, Nat.reduceEqDiff, Nat.reduceBEq, Nat.reduceBNe, Nat.reducePow, Int.reduceEq, Int.reduceNe, Int.reduceLT, Int.reduceLE, Int.reduceGT, Int.reduceGE, Int.reduceAdd, Int.reduceSub, Int.reduceNeg, Int.reduceMul, not_true_eq_false, not_false_eq_true, true_and, and_true, Int.reduceToNat]
    | (intro _)
    | refine brK_dec (fun _ => ?_) (fun _ => ?_)
    | refine gK_dec (fun _ => ?_) (fun _ => ?_)
    | (refine PCall.call (numbers72 e) ?_; generalize hnu : numbersE e = q at h13 ⊢; cases q)
    | (refine PCall.call (named73 e hn) ?_; generalize namedE e = q; cases q)
    | (refine PCall.call (arms74 e) ?_; generalize armsE e = q; cases q)
    | (refine PCall.call (subs75 e (h13 rfl)) ?_; generalize subsE e = R at h8 ⊢; obtain ⟨lo, hi⟩ := R; dsimp only at h8)
    | refine elemMap (by omega) (by omega) (fun x hx => ?_)
    | (refine PCall.call (const19 _) ?_)
    | (refine finBq rfl ?_; simp [*]; done)
    | (refine finBq rfl ?_; have hk : ¬ (1 ≤ e.kind ∧ e.kind ≤ 17) := (by omega); simp [hk]; done)
    | (refine finBq rfl ?_; have hk : 1 ≤ e.kind ∧ e.kind ≤ 17 := (by omega); rw [decide_eq_true hk]; first | (simp [*]; done) | (rw [head_at hx]; simp [*]; done) | (simp [*]; omega))
theorem size21 : ∀ (e : Ex), (parts e).length ≤ 100000 → PCall Tryz.prog 53 [e.enc] (.i ((parts e).length : Nat)) := by
  intro e
  induction e using Ex.ind with
  | _ e ih =>
  intro hl
  refine pcall_of_vc tabOK Tryz.func53 n53 rfl (by repeat' first | exact pure_nil | refine pure_cons ?_ ?_ | exact .raw _ | exact pure_enc _ | exact pure_lst _ | exact pure_strs _ | exact pure_ints _ | exact DTy.pure _ | exact DTy.pures _ | exact DEnum.pure _ | exact DEnum.pures _ | exact DDecl.pure _ | exact DDecl.pures _ | exact DEq.pure _ | exact DEq.pures _ | exact DNode.pure _ | exact DNode.pures _ | exact DProg.pure _ | exact DProg.pures _ | exact DCond.pure _ | exact DCond.pures _ | exact DAtom.pure _ | exact DAtom.pures _ | exact DPlain.pure _ | exact DPlain.pures _ | exact DVar.pure _ | exact DVar.pures _ | exact DFlow.pure _ | exact DFlow.pures _ | exact DFlows.pure _ | exact DFlows.pures _ | exact DAsked.pure _ | exact DAsked.pures _ | exact DFault.pure _ | exact DFault.pures _ | exact DCell.pure _ | exact DCell.pures _ | exact DReply.pure _ | exact DReply.pures _ | exact DAsk.pure _ | exact DAsk.pures _ | exact DOp.pure _ | exact DOp.pures _ | exact pure_list (fun x => DDecl.pures x) _ | exact .fn _ _ _ pure_nil pure_nil | refine .agg _ ?_ | refine .tup _ ?_ | assumption) (by repeat' first | exact pure_nil | refine pure_cons ?_ ?_ | exact .raw _ | exact pure_enc _ | exact pure_lst _ | exact pure_strs _ | exact pure_ints _ | exact DTy.pure _ | exact DTy.pures _ | exact DEnum.pure _ | exact DEnum.pures _ | exact DDecl.pure _ | exact DDecl.pures _ | exact DEq.pure _ | exact DEq.pures _ | exact DNode.pure _ | exact DNode.pures _ | exact DProg.pure _ | exact DProg.pures _ | exact DCond.pure _ | exact DCond.pures _ | exact DAtom.pure _ | exact DAtom.pures _ | exact DPlain.pure _ | exact DPlain.pures _ | exact DVar.pure _ | exact DVar.pures _ | exact DFlow.pure _ | exact DFlow.pures _ | exact DFlows.pure _ | exact DFlows.pures _ | exact DAsked.pure _ | exact DAsked.pures _ | exact DFault.pure _ | exact DFault.pures _ | exact DCell.pure _ | exact DCell.pures _ | exact DReply.pure _ | exact DReply.pures _ | exact DAsk.pure _ | exact DAsk.pures _ | exact DOp.pure _ | exact DOp.pures _ | exact pure_list (fun x => DDecl.pures x) _ | exact .fn _ _ _ pure_nil pure_nil | refine .agg _ ?_ | refine .tup _ ?_ | assumption) (n := 21) rfl (rs := [.tmp 2]) rfl ?_
  have hp : (parts e).length = 1 + (partsL e.subs).length := by rw [parts_eq]; simp; omega
  simp only [go_sem, Nat.reduceAdd, Nat.reduceSub, Nat.reduceMul, Nat.reduceLT, Nat.reduceLeDiff, Nat.reduceEqDiff, Nat.reduceBEq, Nat.reduceBNe, Nat.reducePow, Int.reduceEq, Int.reduceNe, Int.reduceLT, Int.reduceLE, Int.reduceGT, Int.reduceGE, Int.reduceAdd, Int.reduceSub, Int.reduceNeg, Int.reduceMul, not_true_eq_false, not_false_eq_true, true_and, and_true, Int.reduceToNat]
  refine loop_frH [3, 4, 5, 6, 7, 8, 9, 10, 11, 12, 13, 14, 15, 16, 17, 18, 19] (fun m C => ∃ i : Nat, i ≤ e.subs.length ∧ m = e.subs.length - i ∧ C = [(4, .raw (.int .i64 (i : Nat))), (3, .raw (.int .i64 ((1 + (partsL (e.subs.take i)).length : Nat) : Int)))]) e.subs.length _ ⟨0, by omega, by omega, rfl⟩ (.cons rfl (.cons (by simp [partsL]) .nil)) ?_
  rintro m C j ⟨i, hi, rfl, rfl⟩
  simp only [go_sem, Nat.reduceAdd, Nat.reduceSub, Nat.reduceMul, Nat.reduceLT, Nat.reduceLeDiff, Nat.reduceEqDiff, Nat.reduceBEq, Nat.reduceBNe, Nat.reducePow, Int.reduceEq, Int.reduceNe, Int.reduceLT, Int.reduceLE, Int.reduceGT, Int.reduceGE, Int.reduceAdd, Int.reduceSub, Int.reduceNeg, Int.reduceMul, not_true_eq_false, not_false_eq_true, true_and, and_true, Int.reduceToNat]
  intro _
  refine brK_dec (fun hlt => ?_) (fun hge => ?_)
  · simp only [go_sem, Nat.reduceAdd, Nat.reduceSub, Nat.reduceMul, Nat.reduceLT, Nat.reduceLeDiff, Nat.reduceEqDiff, Nat.reduceBEq, Nat.reduceBNe, Nat.reducePow, Int.reduceEq, Int.reduceNe, Int.reduceLT, Int.reduceLE, Int.reduceGT, Int.reduceGE, Int.reduceAdd, Int.reduceSub, Int.reduceNeg, Int.reduceMul, not_true_eq_false, not_false_eq_true, true_and, and_true, Int.reduceToNat]
    refine elemMap (by omega) (by omega) (fun x hx => ?_)
    have hx' : e.subs[i]? = some x := by simpa using hx
    simp only [go_sem, Nat.reduceAdd, Nat.reduceSub, Nat.reduceMul, Nat.reduceLT, Nat.reduceLeDiff, Nat.reduceEqDiff, Nat.reduceBEq, Nat.reduceBNe, Nat.reducePow, Int.reduceEq, Int.reduceNe, Int.reduceLT, Int.reduceLE, Int.reduceGT, Int.reduceGE, Int.reduceAdd, Int.reduceSub, Int.reduceNeg, Int.reduceMul, not_true_eq_false, not_false_eq_true, true_and, and_true, Int.reduceToNat]
    refine PCall.call (ih x (List.mem_of_getElem? hx') (sub_small (List.mem_of_getElem? hx') hl)) ?_
    have h1 := parts_len hx'
    have h2 := partsL_le (l := e.subs) (k := i + 1)
    have hw : IntKind.i64.wrap (((1 + (partsL (e.subs.take i)).length : Nat) : Int) + ((parts x).length : Nat)) = ((1 + (partsL (e.subs.take (i + 1))).length : Nat) : Int) := by rw [wrap_in _ (by omega) (by omega)]; omega
    simp only [go_sem, Nat.reduceAdd, Nat.reduceSub, Nat.reduceMul, Nat.reduceLT, Nat.reduceLeDiff, Nat.reduceEqDiff, Nat.reduceBEq, Nat.reduceBNe, Nat.reducePow, Int.reduceEq, Int.reduceNe, Int.reduceLT, Int.reduceLE, Int.reduceGT, Int.reduceGE, Int.reduceAdd, Int.reduceSub, Int.reduceNeg, Int.reduceMul, not_true_eq_false, not_false_eq_true, true_and, and_true, Int.reduceToNat, hw]
    exact loopFrH _ (by omega) ⟨i + 1, by omega, rfl, rfl⟩ (.next rfl (by omega) (.cons rfl .nil)) rfl
  · have hie : i = e.subs.length := by omega
    subst hie
    rw [List.take_length, hp]
    simp only [go_sem, Nat.reduceAdd, Nat.reduceSub, Nat.reduceMul, Nat.reduceLT, Nat.reduceLeDiff, Nat.reduceEqDiff, Nat.reduceBEq, Nat.reduceBNe, Nat.reducePow, Int.reduceEq, Int.reduceNe, Int.reduceLT, Int.reduceLE, Int.reduceGT, Int.reduceGE, Int.reduceAdd, Int.reduceSub, Int.reduceNeg, Int.reduceMul, not_true_eq_false, not_false_eq_true, true_and, and_true, Int.reduceToNat]
    exact ⟨_, rfl, false, .refl _⟩
theorem depth23 : ∀ (e : Ex), (parts e).length ≤ 100000 → PCall Tryz.prog 54 [e.enc] (.i (depthE e : Nat)) := by
  intro e
  induction e using Ex.ind with
  | _ e ih =>
  intro hl
  refine pcall_of_vc tabOK Tryz.func54 n54 rfl (by repeat' first | exact pure_nil | refine pure_cons ?_ ?_ | exact .raw _ | exact pure_enc _ | exact pure_lst _ | exact pure_strs _ | exact pure_ints _ | exact DTy.pure _ | exact DTy.pures _ | exact DEnum.pure _ | exact DEnum.pures _ | exact DDecl.pure _ | exact DDecl.pures _ | exact DEq.pure _ | exact DEq.pures _ | exact DNode.pure _ | exact DNode.pures _ | exact DProg.pure _ | exact DProg.pures _ | exact DCond.pure _ | exact DCond.pures _ | exact DAtom.pure _ | exact DAtom.pures _ | exact DPlain.pure _ | exact DPlain.pures _ | exact DVar.pure _ | exact DVar.pures _ | exact DFlow.pure _ | exact DFlow.pures _ | exact DFlows.pure _ | exact DFlows.pures _ | exact DAsked.pure _ | exact DAsked.pures _ | exact DFault.pure _ | exact DFault.pures _ | exact DCell.pure _ | exact DCell.pures _ | exact DReply.pure _ | exact DReply.pures _ | exact DAsk.pure _ | exact DAsk.pures _ | exact DOp.pure _ | exact DOp.pures _ | exact pure_list (fun x => DDecl.pures x) _ | exact .fn _ _ _ pure_nil pure_nil | refine .agg _ ?_ | refine .tup _ ?_ | assumption) (by repeat' first | exact pure_nil | refine pure_cons ?_ ?_ | exact .raw _ | exact pure_enc _ | exact pure_lst _ | exact pure_strs _ | exact pure_ints _ | exact DTy.pure _ | exact DTy.pures _ | exact DEnum.pure _ | exact DEnum.pures _ | exact DDecl.pure _ | exact DDecl.pures _ | exact DEq.pure _ | exact DEq.pures _ | exact DNode.pure _ | exact DNode.pures _ | exact DProg.pure _ | exact DProg.pures _ | exact DCond.pure _ | exact DCond.pures _ | exact DAtom.pure _ | exact DAtom.pures _ | exact DPlain.pure _ | exact DPlain.pures _ | exact DVar.pure _ | exact DVar.pures _ | exact DFlow.pure _ | exact DFlow.pures _ | exact DFlows.pure _ | exact DFlows.pures _ | exact DAsked.pure _ | exact DAsked.pures _ | exact DFault.pure _ | exact DFault.pures _ | exact DCell.pure _ | exact DCell.pures _ | exact DReply.pure _ | exact DReply.pures _ | exact DAsk.pure _ | exact DAsk.pures _ | exact DOp.pure _ | exact DOp.pures _ | exact pure_list (fun x => DDecl.pures x) _ | exact .fn _ _ _ pure_nil pure_nil | refine .agg _ ?_ | refine .tup _ ?_ | assumption) (n := 22) rfl (rs := [.tmp 2]) rfl ?_
  simp only [go_sem, Nat.reduceAdd, Nat.reduceSub, Nat.reduceMul, Nat.reduceLT, Nat.reduceLeDiff, Nat.reduceEqDiff, Nat.reduceBEq, Nat.reduceBNe, Nat.reducePow, Int.reduceEq, Int.reduceNe, Int.reduceLT, Int.reduceLE, Int.reduceGT, Int.reduceGE, Int.reduceAdd, Int.reduceSub, Int.reduceNeg, Int.reduceMul, not_true_eq_false, not_false_eq_true, true_and, and_true, Int.reduceToNat]
  refine loop_frH [3, 4, 5, 6, 7, 8, 9, 10, 11, 12, 13, 14, 15, 16, 17, 18, 19] (fun m C => ∃ i : Nat, i ≤ e.subs.length ∧ m = e.subs.length - i ∧ C = [(4, .raw (.int .i64 (i : Nat))), (3, .raw (.int .i64 (depthL (e.subs.take i) : Nat)))]) e.subs.length _ ⟨0, by omega, by omega, rfl⟩ (.cons rfl (.cons (by simp [depthL]) .nil)) ?_
  rintro m C j ⟨i, hi, rfl, rfl⟩
  simp only [go_sem, Nat.reduceAdd, Nat.reduceSub, Nat.reduceMul, Nat.reduceLT, Nat.reduceLeDiff, Nat.reduceEqDiff, Nat.reduceBEq, Nat.reduceBNe, Nat.reducePow, Int.reduceEq, Int.reduceNe, Int.reduceLT, Int.reduceLE, Int.reduceGT, Int.reduceGE, Int.reduceAdd, Int.reduceSub, Int.reduceNeg, Int.reduceMul, not_true_eq_false, not_false_eq_true, true_and, and_true, Int.reduceToNat]
  intro _
  refine brK_dec (fun hlt => ?_) (fun hge => ?_)
  · simp only [go_sem, Nat.reduceAdd, Nat.reduceSub, Nat.reduceMul, Nat.reduceLT, Nat.reduceLeDiff, Nat.reduceEqDiff, Nat.reduceBEq, Nat.reduceBNe, Nat.reducePow, Int.reduceEq, Int.reduceNe, Int.reduceLT, Int.reduceLE, Int.reduceGT, Int.reduceGE, Int.reduceAdd, Int.reduceSub, Int.reduceNeg, Int.reduceMul, not_true_eq_false, not_false_eq_true, true_and, and_true, Int.reduceToNat]
    refine elemMap (by omega) (by omega) (fun x hx => ?_)
    have hx' : e.subs[i]? = some x := by simpa using hx
    simp only [go_sem, Nat.reduceAdd, Nat.reduceSub, Nat.reduceMul, Nat.reduceLT, Nat.reduceLeDiff, Nat.reduceEqDiff, Nat.reduceBEq, Nat.reduceBNe, Nat.reducePow, Int.reduceEq, Int.reduceNe, Int.reduceLT, Int.reduceLE, Int.reduceGT, Int.reduceGE, Int.reduceAdd, Int.reduceSub, Int.reduceNeg, Int.reduceMul, not_true_eq_false, not_false_eq_true, true_and, and_true, Int.reduceToNat]
    refine PCall.call (ih x (List.mem_of_getElem? hx') (sub_small (List.mem_of_getElem? hx') hl)) ?_
    simp only [go_sem, Nat.reduceAdd, Nat.reduceSub, Nat.reduceMul, Nat.reduceLT, Nat.reduceLeDiff, Nat.reduceEqDiff, Nat.reduceBEq, Nat.reduceBNe, Nat.reducePow, Int.reduceEq, Int.reduceNe, Int.reduceLT, Int.reduceLE, Int.reduceGT, Int.reduceGE, Int.reduceAdd, Int.reduceSub, Int.reduceNeg, Int.reduceMul, not_true_eq_false, not_false_eq_true, true_and, and_true, Int.reduceToNat, max_step hx']
    exact loopFrH _ (by omega) ⟨i + 1, by omega, rfl, rfl⟩ (.next rfl (by omega) (.cons rfl .nil)) rfl
  · have hie : i = e.subs.length := by omega
    subst hie
    have hd := depth_le e
    rw [depthE_eq] at hd ⊢
    rw [List.take_length]
    simp only [go_sem, Nat.reduceAdd, Nat.reduceSub, Nat.reduceMul, Nat.reduceLT, Nat.reduceLeDiff, Nat.reduceEqDiff, Nat.reduceBEq, Nat.reduceBNe, Nat.reducePow, Int.reduceEq, Int.reduceNe, Int.reduceLT, Int.reduceLE, Int.reduceGT, Int.reduceGE, Int.reduceAdd, Int.reduceSub, Int.reduceNeg, Int.reduceMul, not_true_eq_false, not_false_eq_true, true_and, and_true, Int.reduceToNat]
    rw [wrap_in _ (by omega) (by omega)]
    exact ⟨_, rfl, false, .refl _⟩
theorem right17x (e : Ex) (ho : okE e) : PCall Tryz.prog 22 [e.enc] (.b (rightE e)) := by
  have hb : (parts e).length ≤ 100000 := by have := ho.1; omega
  refine pcall_of_vc tabOK Tryz.func22 n22 rfl (by repeat' first | exact pure_nil | refine pure_cons ?_ ?_ | exact .raw _ | exact pure_enc _ | exact pure_lst _ | exact pure_strs _ | exact pure_ints _ | exact DTy.pure _ | exact DTy.pures _ | exact DEnum.pure _ | exact DEnum.pures _ | exact DDecl.pure _ | exact DDecl.pures _ | exact DEq.pure _ | exact DEq.pures _ | exact DNode.pure _ | exact DNode.pures _ | exact DProg.pure _ | exact DProg.pures _ | exact DCond.pure _ | exact DCond.pures _ | exact DAtom.pure _ | exact DAtom.pures _ | exact DPlain.pure _ | exact DPlain.pures _ | exact DVar.pure _ | exact DVar.pures _ | exact DFlow.pure _ | exact DFlow.pures _ | exact DFlows.pure _ | exact DFlows.pures _ | exact DAsked.pure _ | exact DAsked.pures _ | exact DFault.pure _ | exact DFault.pures _ | exact DCell.pure _ | exact DCell.pures _ | exact DReply.pure _ | exact DReply.pures _ | exact DAsk.pure _ | exact DAsk.pures _ | exact DOp.pure _ | exact DOp.pures _ | exact pure_list (fun x => DDecl.pures x) _ | exact .fn _ _ _ pure_nil pure_nil | refine .agg _ ?_ | refine .tup _ ?_ | assumption) (by repeat' first | exact pure_nil | refine pure_cons ?_ ?_ | exact .raw _ | exact pure_enc _ | exact pure_lst _ | exact pure_strs _ | exact pure_ints _ | exact DTy.pure _ | exact DTy.pures _ | exact DEnum.pure _ | exact DEnum.pures _ | exact DDecl.pure _ | exact DDecl.pures _ | exact DEq.pure _ | exact DEq.pures _ | exact DNode.pure _ | exact DNode.pures _ | exact DProg.pure _ | exact DProg.pures _ | exact DCond.pure _ | exact DCond.pures _ | exact DAtom.pure _ | exact DAtom.pures _ | exact DPlain.pure _ | exact DPlain.pures _ | exact DVar.pure _ | exact DVar.pures _ | exact DFlow.pure _ | exact DFlow.pures _ | exact DFlows.pure _ | exact DFlows.pures _ | exact DAsked.pure _ | exact DAsked.pures _ | exact DFault.pure _ | exact DFault.pures _ | exact DCell.pure _ | exact DCell.pures _ | exact DReply.pure _ | exact DReply.pures _ | exact DAsk.pure _ | exact DAsk.pures _ | exact DOp.pure _ | exact DOp.pures _ | exact pure_list (fun x => DDecl.pures x) _ | exact .fn _ _ _ pure_nil pure_nil | refine .agg _ ?_ | refine .tup _ ?_ | assumption) (n := 27) rfl (rs := [.tmp 2]) rfl ?_
  unfold rightE
  repeat' first
    | exact finB rfl
    | exact finI rfl
    | exact finP rfl
    | exact absurd rfl (by assumption)
    | simp only [go_sem, Nat.reduceAdd, Nat.reduceSub, Nat.reduceMul, Nat.reduceLT, Nat.reduceLeDiff, Nat.reduceEqDiff, Nat.reduceBEq, Nat.reduceBNe, Nat.reducePow, Int.reduceEq, Int.reduceNe, Int.reduceLT, Int.reduceLE, Int.reduceGT, Int.reduceGE, Int.reduceAdd, Int.reduceSub, Int.reduceNeg, Int.reduceMul, not_true_eq_false, not_false_eq_true, true_and, and_true, Int.reduceToNat]
    | (intro _)
    | refine brK_dec (fun _ => ?_) (fun _ => ?_)
    | refine brK_any ?_ ?_
    | refine gK_dec (fun _ => ?_) (fun _ => ?_)
    | refine gK_any ?_ ?_
    | refine gqK_dec (fun _ => ?_) (fun _ => ?_)
    | refine ⟨by omega, ?_⟩
    | refine elemHave (by omega) (by assumption) ?_
    | refine elemMap (by omega) (by omega) (fun x hx => ?_)
    | refine drawK mo (by kernel_rfl) ?_
    | (exfalso; omega)
    | (refine PCall.call (size21 e hb) ?_)
    | (refine PCall.call (depth23 e hb) ?_)
    | (refine PCall.call (parts_spec e (by omega)) ?_)
    | (have hoz := ho.2 x (List.mem_of_getElem? hx); refine PCall.call (part47 x (by omega)) ?_; generalize hpx : partE x = q; cases q)
    | (have hk : ¬ (parts e).length ≤ 60 := (by omega); refine finBq rfl ?_; simp [hk]; done)
    | (have hk : ¬ depthE e ≤ 12 := (by omega); refine finBq rfl ?_; simp [hk]; done)
    | (have hk1 : (parts e).length ≤ 60 := (by omega); have hk2 : depthE e ≤ 12 := (by omega); refine finBq rfl ?_; rw [decide_eq_true hk1, decide_eq_true hk2]; first | (rw [List.all_eq_true.2 (take_full hpi (by omega))]; rfl) | (rw [List.all_eq_false.2 ⟨x, List.mem_of_getElem? hx, by simp [hpx]⟩]; rfl))
    | exact loopFrH _ (by omega) ⟨i + 1, by omega, rfl, take_all hpi (by simpa using hx) hpx, rfl⟩ (.next rfl (by omega) .nil) rfl
    | (refine loop_frH [2, 4, 15, 16, 17, 18, 19, 20, 21, 22, 23, 24, 25, 26] (fun mm_ CC_ => ∃ (i : Nat), i ≤ (parts e).length ∧ mm_ = (parts e).length - i ∧ (∀ x ∈ (parts e).take i, partE x = true) ∧ CC_ = [(4, .raw (.int .i64 ((i : Nat) : Int)))]) ((parts e).length) _ ⟨0, by omega, by omega, by simp, rfl⟩ (.cons rfl .nil) ?_; rintro mm_ CC_ ji ⟨i, hi, rfl, hpi, rfl⟩)
end Go.Proofs.YtipcmpkihhfhcaaGreatDoor

namespace Go.Proofs.YtipcmpkihhfhcaaGreatDoor
open Go.Abs
set_option maxRecDepth 20000
set_option linter.unusedSimpArgs false
set_option linter.unusedVariables false
set_option maxHeartbeats 1000000
attribute [local irreducible] vc vcOps vcStep vcGuard prK hrK gK gsK brK callK ElemK SeqK BlockK ScopeK OpsK CallK LoopK LoopGo finPost ACall PCall PCallE BCall vqOps vqStep vqGuard qrK heK pcK gqK gqsK QOpsK qcallK DrawK
theorem allVn {n : DNode} (h : okNode n) : (allV n).length ≤ 60 := by
  have h1 := h.1.1
  have h2 := h.2.1.1
  have h3 := h.2.2.1.1
  simp [allV]
  omega
theorem allVm {n : DNode} (h : okNode n) {d : DDecl} (hd : d ∈ allV n) : d.Name.size ≤ 100 ∧ d.On.size ≤ 100 ∧ d.Ctor.size ≤ 100 := by
  simp [allV] at hd
  rcases hd with hd | hd | hd
  · exact h.1.2 d hd
  · exact h.2.1.2 d hd
  · exact h.2.2.1.2 d hd
theorem map_app (l m : List ByteArray) : l.map AV.s ++ m.map AV.s = (l ++ m).map AV.s := by simp
def okAB (i : Nat) (a b : List ByteArray) : Prop := a.length ≤ i ∧ b.length ≤ 12 * i ∧ ∀ s ∈ b, s.size ≤ 100
theorem okAB.zero : okAB 0 [] [] := ⟨by simp, by simp, by simp⟩
theorem okAB.next {l : List DEnum} {i : Nat} {a b : List ByteArray} {x : DEnum} (h : okAB i a b) (hl : okEnums l) (hx : l[((i : Nat) : Int).toNat]? = some x) : okAB (i + 1) (a ++ [x.Name]) (b ++ x.Ctors) := by
  have hm := hl.2 x (List.mem_of_getElem? hx)
  have h1 := hm.1
  refine ⟨by have := h.1; simp; omega, by have := h.2.1; simp; omega, fun s hs => ?_⟩
  rcases List.mem_append.1 hs with q | q
  · exact h.2.2 s q
  · exact hm.2.2 s q

theorem nm_next {l : List DDecl} {i : Nat} {a : List ByteArray} {x : DDecl} (h : a = (l.take i).map DDecl.Name ∧ a.length ≤ i) (hx : l[((i : Nat) : Int).toNat]? = some x) : a ++ [x.Name] = (l.take (i + 1)).map DDecl.Name ∧ (a ++ [x.Name]).length ≤ i + 1 :=
  ⟨by rw [take_mapS hx, h.1], by have := h.2; simp; omega⟩
theorem n46 : (Tryz.f46.name == "runtime.NumGoroutine") = false := by kernel_rfl
theorem names83 (l : List DDecl) (hl : l.length ≤ 100000) : PCall Tryz.prog 46 [.lst 6 (l.map DDecl.enc) none] (.lst 1 ((l.map DDecl.Name).map AV.s) none) := by
  refine pcall_of_vc tabOK Tryz.func46 n46 rfl (by repeat' first | exact pure_nil | refine pure_cons ?_ ?_ | exact .raw _ | exact pure_enc _ | exact pure_lst _ | exact pure_strs _ | exact pure_ints _ | exact DTy.pure _ | exact DTy.pures _ | exact DEnum.pure _ | exact DEnum.pures _ | exact DDecl.pure _ | exact DDecl.pures _ | exact DEq.pure _ | exact DEq.pures _ | exact DNode.pure _ | exact DNode.pures _ | exact DProg.pure _ | exact DProg.pures _ | exact DCond.pure _ | exact DCond.pures _ | exact DAtom.pure _ | exact DAtom.pures _ | exact DPlain.pure _ | exact DPlain.pures _ | exact DVar.pure _ | exact DVar.pures _ | exact DFlow.pure _ | exact DFlow.pures _ | exact DFlows.pure _ | exact DFlows.pures _ | exact DAsked.pure _ | exact DAsked.pures _ | exact DFault.pure _ | exact DFault.pures _ | exact DCell.pure _ | exact DCell.pures _ | exact DReply.pure _ | exact DReply.pures _ | exact DAsk.pure _ | exact DAsk.pures _ | exact DOp.pure _ | exact DOp.pures _ | exact pure_list (fun x => DDecl.pures x) _ | exact .fn _ _ _ pure_nil pure_nil | refine .agg _ ?_ | refine .tup _ ?_ | assumption) (by repeat' first | exact pure_nil | refine pure_cons ?_ ?_ | exact .raw _ | exact pure_enc _ | exact pure_lst _ | exact pure_strs _ | exact pure_ints _ | exact DTy.pure _ | exact DTy.pures _ | exact DEnum.pure _ | exact DEnum.pures _ | exact DDecl.pure _ | exact DDecl.pures _ | exact DEq.pure _ | exact DEq.pures _ | exact DNode.pure _ | exact DNode.pures _ | exact DProg.pure _ | exact DProg.pures _ | exact DCond.pure _ | exact DCond.pures _ | exact DAtom.pure _ | exact DAtom.pures _ | exact DPlain.pure _ | exact DPlain.pures _ | exact DVar.pure _ | exact DVar.pures _ | exact DFlow.pure _ | exact DFlow.pures _ | exact DFlows.pure _ | exact DFlows.pures _ | exact DAsked.pure _ | exact DAsked.pures _ | exact DFault.pure _ | exact DFault.pures _ | exact DCell.pure _ | exact DCell.pures _ | exact DReply.pure _ | exact DReply.pures _ | exact DAsk.pure _ | exact DAsk.pures _ | exact DOp.pure _ | exact DOp.pures _ | exact pure_list (fun x => DDecl.pures x) _ | exact .fn _ _ _ pure_nil pure_nil | refine .agg _ ?_ | refine .tup _ ?_ | assumption) (n := 21) rfl (rs := [.tmp 2]) rfl ?_
  repeat' first
    | exact finB rfl
    | exact finI rfl
    | exact finP rfl
    | exact absurd rfl (by assumption)
    | simp only [go_sem, Nat.reduceAdd, Nat.reduceSub, Nat.reduceMul, Nat.reduceLT, Nat.reduceLeDiff, Nat.reduceEqDiff, Nat.reduceBEq, Nat.reduceBNe, Nat.reducePow, Int.reduceEq, Int.reduceNe, Int.reduceLT, Int.reduceLE, Int.reduceGT, Int.reduceGE, Int.reduceAdd, Int.reduceSub, Int.reduceNeg, Int.reduceMul, not_true_eq_false, not_false_eq_true, true_and, and_true, Int.reduceToNat]
    | (intro _)
    | refine brK_dec (fun _ => ?_) (fun _ => ?_)
    | refine brK_any ?_ ?_
    | refine gK_dec (fun _ => ?_) (fun _ => ?_)
    | refine gK_any ?_ ?_
    | refine gqK_dec (fun _ => ?_) (fun _ => ?_)
    | refine ⟨by omega, ?_⟩
    | refine elemHave (by omega) (by assumption) ?_
    | refine elemMap (by omega) (by omega) (fun x hx => ?_)
    | refine drawK mo (by kernel_rfl) ?_
    | (simp only [map_snoc])
    | (refine ⟨by have := hpi.2; first | omega | (simp; omega), ?_⟩)
    | (rw [show l.map DDecl.Name = a by rw [hpi.1, List.take_of_length_le (by omega)]]; exact ⟨_, rfl, false, .tok _ _ _⟩)
    | exact loopFr _ (by omega) ⟨i + 1, a ++ [x.Name], _, by omega, rfl, nm_next hpi hx, rfl, (by first | rfl | (simp; done) | (simp; rfl))⟩ (.next rfl (by omega) (.cons (by first | rfl | (simp; done) | (simp; rfl)) .nil)) rfl
    | (refine loop_fr [3, 4, 6, 7, 8, 9, 10, 11, 12, 13, 14, 15, 16, 17, 18, 19] (fun mm_ CC_ hh_ => ∃ (i : Nat) (a : List ByteArray) (r_ : List Blk), i ≤ l.length ∧ mm_ = l.length - i ∧ ((a = (l.take i).map DDecl.Name ∧ a.length ≤ i)) ∧ CC_ = [(4, .raw (.int .i64 ((i : Nat) : Int))), (3, .lst 1 (a.map AV.s) (some 0))] ∧ hh_ = .tok 9 1 a.length :: r_) (l.length) _ ⟨0, [], _, by omega, by omega, ⟨by simp, by simp⟩, rfl, (by first | rfl | (simp; done) | (simp; rfl))⟩ (.cons (by first | rfl | (simp; done) | (simp; rfl)) (.cons (by first | rfl | (simp; done) | (simp; rfl)) .nil)) ?_; rintro mm_ CC_ ji hh_ ⟨i, a, ri, hi, rfl, hpi, rfl, rfl⟩)
abbrev progBc (p : DProg) : Blk := .cells 25 [.lst 2 (p.Enums.map DEnum.enc) none, .lst 5 (p.Nodes.map DNode.enc) none]
theorem n65 : (Tryz.f65.name == "runtime.NumGoroutine") = false := by kernel_rfl
theorem rightTyX (l : List DEnum) (t : DTy) : PCall Tryz.prog 65 [.lst 2 (l.map DEnum.enc) none, t.enc] (.b (rightTyF l.length t)) := by
  refine pcall_of_vc tabOK Tryz.func65 n65 rfl (by repeat' first | exact pure_nil | refine pure_cons ?_ ?_ | exact .raw _ | exact pure_enc _ | exact pure_lst _ | exact pure_strs _ | exact pure_ints _ | exact DTy.pure _ | exact DTy.pures _ | exact DEnum.pure _ | exact DEnum.pures _ | exact DDecl.pure _ | exact DDecl.pures _ | exact DEq.pure _ | exact DEq.pures _ | exact DNode.pure _ | exact DNode.pures _ | exact DProg.pure _ | exact DProg.pures _ | exact DCond.pure _ | exact DCond.pures _ | exact DAtom.pure _ | exact DAtom.pures _ | exact DPlain.pure _ | exact DPlain.pures _ | exact DVar.pure _ | exact DVar.pures _ | exact DFlow.pure _ | exact DFlow.pures _ | exact DFlows.pure _ | exact DFlows.pures _ | exact DAsked.pure _ | exact DAsked.pures _ | exact DFault.pure _ | exact DFault.pures _ | exact DCell.pure _ | exact DCell.pures _ | exact DReply.pure _ | exact DReply.pures _ | exact DAsk.pure _ | exact DAsk.pures _ | exact DOp.pure _ | exact DOp.pures _ | exact pure_list (fun x => DDecl.pures x) _ | exact .fn _ _ _ pure_nil pure_nil | refine .agg _ ?_ | refine .tup _ ?_ | assumption) (by repeat' first | exact pure_nil | refine pure_cons ?_ ?_ | exact .raw _ | exact pure_enc _ | exact pure_lst _ | exact pure_strs _ | exact pure_ints _ | exact DTy.pure _ | exact DTy.pures _ | exact DEnum.pure _ | exact DEnum.pures _ | exact DDecl.pure _ | exact DDecl.pures _ | exact DEq.pure _ | exact DEq.pures _ | exact DNode.pure _ | exact DNode.pures _ | exact DProg.pure _ | exact DProg.pures _ | exact DCond.pure _ | exact DCond.pures _ | exact DAtom.pure _ | exact DAtom.pures _ | exact DPlain.pure _ | exact DPlain.pures _ | exact DVar.pure _ | exact DVar.pures _ | exact DFlow.pure _ | exact DFlow.pures _ | exact DFlows.pure _ | exact DFlows.pures _ | exact DAsked.pure _ | exact DAsked.pures _ | exact DFault.pure _ | exact DFault.pures _ | exact DCell.pure _ | exact DCell.pures _ | exact DReply.pure _ | exact DReply.pures _ | exact DAsk.pure _ | exact DAsk.pures _ | exact DOp.pure _ | exact DOp.pures _ | exact pure_list (fun x => DDecl.pures x) _ | exact .fn _ _ _ pure_nil pure_nil | refine .agg _ ?_ | refine .tup _ ?_ | assumption) (n := 39) rfl (rs := [.tmp 4]) rfl ?_
  repeat' first
    | exact finB rfl
    | exact finI rfl
    | exact finP rfl
    | exact absurd rfl (by assumption)
    | simp only [go_sem, Nat.reduceAdd, Nat.reduceSub, Nat.reduceMul, Nat.reduceLT, Nat.reduceLeDiff, Nat.reduceEqDiff, Nat.reduceBEq, Nat.reduceBNe, Nat.reducePow, Int.reduceEq, Int.reduceNe, Int.reduceLT, Int.reduceLE, Int.reduceGT, Int.reduceGE, Int.reduceAdd, Int.reduceSub, Int.reduceNeg, Int.reduceMul, not_true_eq_false, not_false_eq_true, true_and, and_true, Int.reduceToNat]
    | (intro _)
    | refine brK_dec (fun _ => ?_) (fun _ => ?_)
    | refine brK_any ?_ ?_
    | refine gK_dec (fun _ => ?_) (fun _ => ?_)
    | refine gK_any ?_ ?_
    | refine gqK_dec (fun _ => ?_) (fun _ => ?_)
    | refine ⟨by omega, ?_⟩
    | refine elemHave (by omega) (by assumption) ?_
    | refine elemMap (by omega) (by omega) (fun x hx => ?_)
    | refine drawK mo (by kernel_rfl) ?_
    | (exfalso; omega)
    | (refine finBq rfl ?_; unfold rightTyF; exact (decide_eq_true (by omega)).symm)
    | (refine finBq rfl ?_; unfold rightTyF; exact (decide_eq_false (by omega)).symm)
    | (refine finBq rfl ?_; unfold rightTyF; exact decide_eq_decide.2 (by omega))
theorem n136 : (Tryz.f136.name == "runtime.NumGoroutine") = false := by kernel_rfl
theorem armX (s : ByteArray) : PCall Tryz.prog 136 [.s s] (.b (armE s)) := by
  refine pcall_of_vc tabOK Tryz.func136 n136 rfl (by repeat' first | exact pure_nil | refine pure_cons ?_ ?_ | exact .raw _ | exact pure_enc _ | exact pure_lst _ | exact pure_strs _ | exact pure_ints _ | exact DTy.pure _ | exact DTy.pures _ | exact DEnum.pure _ | exact DEnum.pures _ | exact DDecl.pure _ | exact DDecl.pures _ | exact DEq.pure _ | exact DEq.pures _ | exact DNode.pure _ | exact DNode.pures _ | exact DProg.pure _ | exact DProg.pures _ | exact DCond.pure _ | exact DCond.pures _ | exact DAtom.pure _ | exact DAtom.pures _ | exact DPlain.pure _ | exact DPlain.pures _ | exact DVar.pure _ | exact DVar.pures _ | exact DFlow.pure _ | exact DFlow.pures _ | exact DFlows.pure _ | exact DFlows.pures _ | exact DAsked.pure _ | exact DAsked.pures _ | exact DFault.pure _ | exact DFault.pures _ | exact DCell.pure _ | exact DCell.pures _ | exact DReply.pure _ | exact DReply.pures _ | exact DAsk.pure _ | exact DAsk.pures _ | exact DOp.pure _ | exact DOp.pures _ | exact pure_list (fun x => DDecl.pures x) _ | exact .fn _ _ _ pure_nil pure_nil | refine .agg _ ?_ | refine .tup _ ?_ | assumption) (by repeat' first | exact pure_nil | refine pure_cons ?_ ?_ | exact .raw _ | exact pure_enc _ | exact pure_lst _ | exact pure_strs _ | exact pure_ints _ | exact DTy.pure _ | exact DTy.pures _ | exact DEnum.pure _ | exact DEnum.pures _ | exact DDecl.pure _ | exact DDecl.pures _ | exact DEq.pure _ | exact DEq.pures _ | exact DNode.pure _ | exact DNode.pures _ | exact DProg.pure _ | exact DProg.pures _ | exact DCond.pure _ | exact DCond.pures _ | exact DAtom.pure _ | exact DAtom.pures _ | exact DPlain.pure _ | exact DPlain.pures _ | exact DVar.pure _ | exact DVar.pures _ | exact DFlow.pure _ | exact DFlow.pures _ | exact DFlows.pure _ | exact DFlows.pures _ | exact DAsked.pure _ | exact DAsked.pures _ | exact DFault.pure _ | exact DFault.pures _ | exact DCell.pure _ | exact DCell.pures _ | exact DReply.pure _ | exact DReply.pures _ | exact DAsk.pure _ | exact DAsk.pures _ | exact DOp.pure _ | exact DOp.pures _ | exact pure_list (fun x => DDecl.pures x) _ | exact .fn _ _ _ pure_nil pure_nil | refine .agg _ ?_ | refine .tup _ ?_ | assumption) (n := 13) rfl (rs := [.tmp 2]) rfl ?_
  unfold armE
  repeat' first
    | exact finB rfl
    | exact finI rfl
    | exact finP rfl
    | exact absurd rfl (by assumption)
    | simp only [go_sem, Nat.reduceAdd, Nat.reduceSub, Nat.reduceMul, Nat.reduceLT, Nat.reduceLeDiff, Nat.reduceEqDiff, Nat.reduceBEq, Nat.reduceBNe, Nat.reducePow, Int.reduceEq, Int.reduceNe, Int.reduceLT, Int.reduceLE, Int.reduceGT, Int.reduceGE, Int.reduceAdd, Int.reduceSub, Int.reduceNeg, Int.reduceMul, not_true_eq_false, not_false_eq_true, true_and, and_true, Int.reduceToNat]
    | (intro _)
    | refine brK_dec (fun _ => ?_) (fun _ => ?_)
    | refine brK_split (fun hb_ => ?_) (fun hb_ => ?_)
    | refine gK_dec (fun _ => ?_) (fun _ => ?_)
    | refine gK_split (fun hb_ => ?_) (fun hb_ => ?_)
    | refine gqK_dec (fun _ => ?_) (fun _ => ?_)
    | refine ⟨by omega, ?_⟩
    | refine elemHave (by omega) (by assumption) ?_
    | refine elemMap (by omega) (by omega) (fun x hx => ?_)
    | refine drawK mo (by kernel_rfl) ?_
    | (refine PCall.call (high_x s) ?_; generalize highF s = q; cases q)
    | (exact finBq rfl (by simp [*]))
theorem n84 : (Tryz.f84.name == "runtime.NumGoroutine") = false := by kernel_rfl
theorem declX (l : List DEnum) (d : DDecl) : PCall Tryz.prog 84 [.lst 2 (l.map DEnum.enc) none, d.enc] (.b (declaredF l.length d)) := by
  refine pcall_of_vc tabOK Tryz.func84 n84 rfl (by repeat' first | exact pure_nil | refine pure_cons ?_ ?_ | exact .raw _ | exact pure_enc _ | exact pure_lst _ | exact pure_strs _ | exact pure_ints _ | exact DTy.pure _ | exact DTy.pures _ | exact DEnum.pure _ | exact DEnum.pures _ | exact DDecl.pure _ | exact DDecl.pures _ | exact DEq.pure _ | exact DEq.pures _ | exact DNode.pure _ | exact DNode.pures _ | exact DProg.pure _ | exact DProg.pures _ | exact DCond.pure _ | exact DCond.pures _ | exact DAtom.pure _ | exact DAtom.pures _ | exact DPlain.pure _ | exact DPlain.pures _ | exact DVar.pure _ | exact DVar.pures _ | exact DFlow.pure _ | exact DFlow.pures _ | exact DFlows.pure _ | exact DFlows.pures _ | exact DAsked.pure _ | exact DAsked.pures _ | exact DFault.pure _ | exact DFault.pures _ | exact DCell.pure _ | exact DCell.pures _ | exact DReply.pure _ | exact DReply.pures _ | exact DAsk.pure _ | exact DAsk.pures _ | exact DOp.pure _ | exact DOp.pures _ | exact pure_list (fun x => DDecl.pures x) _ | exact .fn _ _ _ pure_nil pure_nil | refine .agg _ ?_ | refine .tup _ ?_ | assumption) (by repeat' first | exact pure_nil | refine pure_cons ?_ ?_ | exact .raw _ | exact pure_enc _ | exact pure_lst _ | exact pure_strs _ | exact pure_ints _ | exact DTy.pure _ | exact DTy.pures _ | exact DEnum.pure _ | exact DEnum.pures _ | exact DDecl.pure _ | exact DDecl.pures _ | exact DEq.pure _ | exact DEq.pures _ | exact DNode.pure _ | exact DNode.pures _ | exact DProg.pure _ | exact DProg.pures _ | exact DCond.pure _ | exact DCond.pures _ | exact DAtom.pure _ | exact DAtom.pures _ | exact DPlain.pure _ | exact DPlain.pures _ | exact DVar.pure _ | exact DVar.pures _ | exact DFlow.pure _ | exact DFlow.pures _ | exact DFlows.pure _ | exact DFlows.pures _ | exact DAsked.pure _ | exact DAsked.pures _ | exact DFault.pure _ | exact DFault.pures _ | exact DCell.pure _ | exact DCell.pures _ | exact DReply.pure _ | exact DReply.pures _ | exact DAsk.pure _ | exact DAsk.pures _ | exact DOp.pure _ | exact DOp.pures _ | exact pure_list (fun x => DDecl.pures x) _ | exact .fn _ _ _ pure_nil pure_nil | refine .agg _ ?_ | refine .tup _ ?_ | assumption) (n := 34) rfl (rs := [.tmp 4]) rfl ?_
  repeat' first
    | exact finB rfl
    | exact finI rfl
    | exact finP rfl
    | exact absurd rfl (by assumption)
    | simp only [go_sem, Nat.reduceAdd, Nat.reduceSub, Nat.reduceMul, Nat.reduceLT, Nat.reduceLeDiff, Nat.reduceEqDiff, Nat.reduceBEq, Nat.reduceBNe, Nat.reducePow, Int.reduceEq, Int.reduceNe, Int.reduceLT, Int.reduceLE, Int.reduceGT, Int.reduceGE, Int.reduceAdd, Int.reduceSub, Int.reduceNeg, Int.reduceMul, not_true_eq_false, not_false_eq_true, true_and, and_true, Int.reduceToNat]
    | (intro _)
    | refine brK_dec (fun _ => ?_) (fun _ => ?_)
    | refine brK_split (fun hb_ => ?_) (fun hb_ => ?_)
    | refine gK_dec (fun _ => ?_) (fun _ => ?_)
    | refine gK_split (fun hb_ => ?_) (fun hb_ => ?_)
    | refine gqK_dec (fun _ => ?_) (fun _ => ?_)
    | refine ⟨by omega, ?_⟩
    | refine elemHave (by omega) (by assumption) ?_
    | refine elemMap (by omega) (by omega) (fun x hx => ?_)
    | refine drawK mo (by kernel_rfl) ?_
    | (refine PCall.call (low_x d.Name) ?_; generalize h1 : lowF d.Name = q; cases q)
    | (refine PCall.call (low_x d.On) ?_; generalize h2 : lowF d.On = q; cases q)
    | (refine PCall.call (rightTyX l d.Ty) ?_; generalize h3 : rightTyF l.length d.Ty = q; cases q)
    | (refine PCall.call (armX d.Ctor) ?_; generalize h4 : armE d.Ctor = q; cases q)
    | (refine finBq rfl ?_; first | (simp only [declaredF, bareF, h1, h2, h3, h4]; simp [*]; done) | (simp only [declaredF, bareF, h1, h2, h3]; simp [*]; done) | (simp only [declaredF, bareF, h1, h3]; simp [*]; done) | (simp only [declaredF, bareF, h1]; simp [*]; done))
theorem n85 : (Tryz.f85.name == "runtime.NumGoroutine") = false := by kernel_rfl
theorem eqX (q : DEq) (hq : okEq q) : PCall Tryz.prog 85 [q.enc] (.b (eqF q)) := by
  refine pcall_of_vc tabOK Tryz.func85 n85 rfl (by repeat' first | exact pure_nil | refine pure_cons ?_ ?_ | exact .raw _ | exact pure_enc _ | exact pure_lst _ | exact pure_strs _ | exact pure_ints _ | exact DTy.pure _ | exact DTy.pures _ | exact DEnum.pure _ | exact DEnum.pures _ | exact DDecl.pure _ | exact DDecl.pures _ | exact DEq.pure _ | exact DEq.pures _ | exact DNode.pure _ | exact DNode.pures _ | exact DProg.pure _ | exact DProg.pures _ | exact DCond.pure _ | exact DCond.pures _ | exact DAtom.pure _ | exact DAtom.pures _ | exact DPlain.pure _ | exact DPlain.pures _ | exact DVar.pure _ | exact DVar.pures _ | exact DFlow.pure _ | exact DFlow.pures _ | exact DFlows.pure _ | exact DFlows.pures _ | exact DAsked.pure _ | exact DAsked.pures _ | exact DFault.pure _ | exact DFault.pures _ | exact DCell.pure _ | exact DCell.pures _ | exact DReply.pure _ | exact DReply.pures _ | exact DAsk.pure _ | exact DAsk.pures _ | exact DOp.pure _ | exact DOp.pures _ | exact pure_list (fun x => DDecl.pures x) _ | exact .fn _ _ _ pure_nil pure_nil | refine .agg _ ?_ | refine .tup _ ?_ | assumption) (by repeat' first | exact pure_nil | refine pure_cons ?_ ?_ | exact .raw _ | exact pure_enc _ | exact pure_lst _ | exact pure_strs _ | exact pure_ints _ | exact DTy.pure _ | exact DTy.pures _ | exact DEnum.pure _ | exact DEnum.pures _ | exact DDecl.pure _ | exact DDecl.pures _ | exact DEq.pure _ | exact DEq.pures _ | exact DNode.pure _ | exact DNode.pures _ | exact DProg.pure _ | exact DProg.pures _ | exact DCond.pure _ | exact DCond.pures _ | exact DAtom.pure _ | exact DAtom.pures _ | exact DPlain.pure _ | exact DPlain.pures _ | exact DVar.pure _ | exact DVar.pures _ | exact DFlow.pure _ | exact DFlow.pures _ | exact DFlows.pure _ | exact DFlows.pures _ | exact DAsked.pure _ | exact DAsked.pures _ | exact DFault.pure _ | exact DFault.pures _ | exact DCell.pure _ | exact DCell.pures _ | exact DReply.pure _ | exact DReply.pures _ | exact DAsk.pure _ | exact DAsk.pures _ | exact DOp.pure _ | exact DOp.pures _ | exact pure_list (fun x => DDecl.pures x) _ | exact .fn _ _ _ pure_nil pure_nil | refine .agg _ ?_ | refine .tup _ ?_ | assumption) (n := 39) rfl (rs := [.tmp 2]) rfl ?_
  repeat' first
    | exact finB rfl
    | exact finI rfl
    | exact finP rfl
    | exact absurd rfl (by assumption)
    | simp only [go_sem, Nat.reduceAdd, Nat.reduceSub, Nat.reduceMul, Nat.reduceLT, Nat.reduceLeDiff, Nat.reduceEqDiff, Nat.reduceBEq, Nat.reduceBNe, Nat.reducePow, Int.reduceEq, Int.reduceNe, Int.reduceLT, Int.reduceLE, Int.reduceGT, Int.reduceGE, Int.reduceAdd, Int.reduceSub, Int.reduceNeg, Int.reduceMul, not_true_eq_false, not_false_eq_true, true_and, and_true, Int.reduceToNat]
    | (intro _)
    | refine brK_dec (fun _ => ?_) (fun _ => ?_)
    | refine brK_split (fun hb_ => ?_) (fun hb_ => ?_)
    | refine gK_dec (fun _ => ?_) (fun _ => ?_)
    | refine gK_split (fun hb_ => ?_) (fun hb_ => ?_)
    | refine gqK_dec (fun _ => ?_) (fun _ => ?_)
    | refine ⟨by omega, ?_⟩
    | refine elemHave (by omega) (by assumption) ?_
    | refine elemMap (by omega) (by omega) (fun x hx => ?_)
    | refine drawK mo (by kernel_rfl) ?_
    | (refine PCall.call (low_x x) ?_; generalize hpx : lowF x = b; cases b)
    | (refine PCall.call (right17x _ hq.2.1) ?_; generalize hrx : rightE q.E = b; cases b)
    | (refine finBq rfl ?_; unfold eqF; rw [List.all_eq_false.2 ⟨x, List.mem_of_getElem? hx, by simp [hpx]⟩]; simp; done)
    | (have hall := List.all_eq_true.2 (take_full hpi (by omega)); refine finBq rfl ?_; unfold eqF; rw [hall]; (try rw [decide_eq_true (p := 0 < q.Names.length) (by omega)]); (try rw [decide_eq_false (p := 0 < q.Names.length) (by omega)]); (try rw [decide_eq_true (p := q.Names.length ≤ 1) (by omega)]); (try rw [decide_eq_false (p := q.Names.length ≤ 1) (by omega)]); simp [*]; done)
    | exact loopFrH _ (by omega) ⟨i + 1, by omega, rfl, take_all hpi (by simpa using hx) hpx, rfl⟩ (.next rfl (by omega) .nil) rfl
    | (refine loop_frH [2, 3, 4, 5, 6, 7, 8, 9, 10, 11, 12, 13, 14, 15, 16, 17] (fun mm_ CC_ => ∃ (i : Nat), i ≤ q.Names.length ∧ mm_ = q.Names.length - i ∧ (∀ s ∈ q.Names.take i, lowF s = true) ∧ CC_ = [(3, .raw (.int .i64 ((i : Nat) : Int)))]) (q.Names.length) _ ⟨0, by omega, by omega, by simp, rfl⟩ (.cons rfl .nil) ?_; rintro mm_ CC_ ji ⟨i, hi, rfl, hpi, rfl⟩)
theorem n44 : (Tryz.f44.name == "runtime.NumGoroutine") = false := by kernel_rfl
theorem nodeX (l : List DEnum) (n : DNode) (hn : okNode n) : PCall Tryz.prog 44 [.lst 2 (l.map DEnum.enc) none, n.enc] (.b (nodeF l.length n)) := by
  refine pcall_of_vc tabOK Tryz.func44 n44 rfl (by repeat' first | exact pure_nil | refine pure_cons ?_ ?_ | exact .raw _ | exact pure_enc _ | exact pure_lst _ | exact pure_strs _ | exact pure_ints _ | exact DTy.pure _ | exact DTy.pures _ | exact DEnum.pure _ | exact DEnum.pures _ | exact DDecl.pure _ | exact DDecl.pures _ | exact DEq.pure _ | exact DEq.pures _ | exact DNode.pure _ | exact DNode.pures _ | exact DProg.pure _ | exact DProg.pures _ | exact DCond.pure _ | exact DCond.pures _ | exact DAtom.pure _ | exact DAtom.pures _ | exact DPlain.pure _ | exact DPlain.pures _ | exact DVar.pure _ | exact DVar.pures _ | exact DFlow.pure _ | exact DFlow.pures _ | exact DFlows.pure _ | exact DFlows.pures _ | exact DAsked.pure _ | exact DAsked.pures _ | exact DFault.pure _ | exact DFault.pures _ | exact DCell.pure _ | exact DCell.pures _ | exact DReply.pure _ | exact DReply.pures _ | exact DAsk.pure _ | exact DAsk.pures _ | exact DOp.pure _ | exact DOp.pures _ | exact pure_list (fun x => DDecl.pures x) _ | exact .fn _ _ _ pure_nil pure_nil | refine .agg _ ?_ | refine .tup _ ?_ | assumption) (by repeat' first | exact pure_nil | refine pure_cons ?_ ?_ | exact .raw _ | exact pure_enc _ | exact pure_lst _ | exact pure_strs _ | exact pure_ints _ | exact DTy.pure _ | exact DTy.pures _ | exact DEnum.pure _ | exact DEnum.pures _ | exact DDecl.pure _ | exact DDecl.pures _ | exact DEq.pure _ | exact DEq.pures _ | exact DNode.pure _ | exact DNode.pures _ | exact DProg.pure _ | exact DProg.pures _ | exact DCond.pure _ | exact DCond.pures _ | exact DAtom.pure _ | exact DAtom.pures _ | exact DPlain.pure _ | exact DPlain.pures _ | exact DVar.pure _ | exact DVar.pures _ | exact DFlow.pure _ | exact DFlow.pures _ | exact DFlows.pure _ | exact DFlows.pures _ | exact DAsked.pure _ | exact DAsked.pures _ | exact DFault.pure _ | exact DFault.pures _ | exact DCell.pure _ | exact DCell.pures _ | exact DReply.pure _ | exact DReply.pures _ | exact DAsk.pure _ | exact DAsk.pures _ | exact DOp.pure _ | exact DOp.pures _ | exact pure_list (fun x => DDecl.pures x) _ | exact .fn _ _ _ pure_nil pure_nil | refine .agg _ ?_ | refine .tup _ ?_ | assumption) (n := 65) rfl (rs := [.tmp 4]) rfl ?_
  have hal := allVn hn
  have h1 := hn.1.1
  have h2 := hn.2.1.1
  have hw : IntKind.i64.wrap ((n.Ins.length : Int) + (n.Outs.length : Int)) = (n.Ins.length : Int) + (n.Outs.length : Int) := wrap_in _ (by omega) (by omega)
  repeat' first
    | exact finB rfl
    | exact finI rfl
    | exact finP rfl
    | exact absurd rfl (by assumption)
    | simp only [go_sem, Nat.reduceAdd, Nat.reduceSub, Nat.reduceMul, Nat.reduceLT, Nat.reduceLeDiff, Nat.reduceEqDiff, Nat.reduceBEq, Nat.reduceBNe, Nat.reducePow, Int.reduceEq, Int.reduceNe, Int.reduceLT, Int.reduceLE, Int.reduceGT, Int.reduceGE, Int.reduceAdd, Int.reduceSub, Int.reduceNeg, Int.reduceMul, not_true_eq_false, not_false_eq_true, true_and, and_true, Int.reduceToNat]
    | (intro _)
    | refine brK_dec (fun _ => ?_) (fun _ => ?_)
    | refine brK_split (fun hb_ => ?_) (fun hb_ => ?_)
    | refine gK_dec (fun _ => ?_) (fun _ => ?_)
    | refine gK_split (fun hb_ => ?_) (fun hb_ => ?_)
    | refine gqK_dec (fun _ => ?_) (fun _ => ?_)
    | refine ⟨by omega, ?_⟩
    | refine elemHave (by omega) (by assumption) ?_
    | refine elemMap (by omega) (by omega) (fun x hx => ?_)
    | refine drawK mo (by kernel_rfl) ?_
    | (refine PCall.call (all66 n (by omega)) ?_)
    | (refine PCall.call (declX l x) ?_; generalize hdx : declaredF l.length x = b; cases b)
    | (refine PCall.call (eqX x (hn.2.2.2.2.2 _ (List.mem_of_getElem? hx))) ?_; generalize hqx : eqF x = b; cases b)
    | (refine PCall.call (low_x n.Name) ?_; generalize hlx : lowF n.Name = b; cases b)
    | (refine finBq rfl ?_; rw [node_no hx hdx]; done)
    | (refine finBq rfl ?_; rw [node_no2 (bare_no hx (by omega) (by assumption))]; done)
    | (refine finBq rfl ?_; rw [node_no3 hx hqx]; done)
    | (refine finBq rfl ?_; rw [node_yes hpi.1 (by omega) (bare_yes hpi.2 (by omega)) hpj (by omega), hlx]; first | rfl | (simp; done) | (simp; omega))
    | exact loopFrH _ (by omega) ⟨i + 1, by omega, rfl, ⟨take_all hpi.1 (by simpa using hx) hdx, bare_next hpi.2 hx (fun hlt => by first | assumption | omega | exact Classical.not_not.1 (by assumption))⟩, rfl⟩ (.next rfl (by omega) .nil) rfl
    | (refine loop_frH [4, 6, 10, 11, 12, 13, 14, 15, 16, 17, 18, 19, 20, 21, 22, 23, 24, 25, 26, 27, 28, 29, 30, 31, 32, 33, 34, 35, 36, 37, 38, 39, 40, 41] (fun mm_ CC_ => ∃ (i : Nat), i ≤ (allV n).length ∧ mm_ = (allV n).length - i ∧ ((∀ d ∈ (allV n).take i, declaredF l.length d = true) ∧ (∀ d ∈ (n.Ins ++ n.Outs).take i, decide (d.On = ⟨#[]⟩) = true)) ∧ CC_ = [(6, .raw (.int .i64 ((i : Nat) : Int)))]) ((allV n).length) _ ⟨0, by omega, by omega, ⟨by simp, by simp⟩, rfl⟩ (.cons rfl .nil) ?_; rintro mm_ CC_ ji ⟨i, hi, rfl, hpi, rfl⟩)
    | exact loopFrH _ (by omega) ⟨j + 1, by omega, rfl, take_all hpj (by simpa using hx) hqx, rfl⟩ (.next rfl (by omega) .nil) rfl
    | (refine loop_frH [4, 7, 42, 43, 44, 45, 46, 47, 48, 49, 50, 51, 52, 53, 54, 55] (fun mm_ CC_ => ∃ (j : Nat), j ≤ n.Eqs.length ∧ mm_ = n.Eqs.length - j ∧ (∀ q ∈ n.Eqs.take j, eqF q = true) ∧ CC_ = [(7, .raw (.int .i64 ((j : Nat) : Int)))]) (n.Eqs.length) _ ⟨0, by omega, by omega, by simp, rfl⟩ (.cons rfl .nil) ?_; rintro mm_ CC_ jj ⟨j, hj, rfl, hpj, rfl⟩)
def okAX (l : List DEnum) (i : Nat) (a b : List ByteArray) : Prop := okAB i a b ∧ a = (l.take i).map DEnum.Name ∧ b = (l.take i).flatMap DEnum.Ctors ∧ ∀ e ∈ l.take i, e.Ctors.length ≤ 6
theorem okAX.zero {l : List DEnum} : okAX l 0 [] [] := ⟨.zero, by simp, by simp, by simp⟩
theorem okAX.next {l : List DEnum} {i : Nat} {a b : List ByteArray} {x : DEnum} (h : okAX l i a b) (hl : okEnums l) (hx : l[((i : Nat) : Int).toNat]? = some x) (h6 : x.Ctors.length ≤ 6) : okAX l (i + 1) (a ++ [x.Name]) (b ++ x.Ctors) :=
  ⟨h.1.next hl hx, by rw [take_mapS hx, h.2.1], by rw [flatMap_next _ (by simpa using hx), h.2.2.1], take_all h.2.2.2 (by simpa using hx) h6⟩
theorem en_ok {e : DEnum} (h : lowF e.Name = true) (h2 : 0 < e.Ctors.length) : (lowF e.Name && decide (0 < e.Ctors.length)) = true := by simp [h, h2]
theorem en_bad {e : DEnum} {b : Bool} (h : lowF e.Name = b) (h2 : ¬ 0 < e.Ctors.length) : (lowF e.Name && decide (0 < e.Ctors.length)) = false := by rw [decide_eq_false h2, Bool.and_false]
theorem en_bad0 {e : DEnum} (h : lowF e.Name = false) : (lowF e.Name && decide (0 < e.Ctors.length)) = false := by rw [h, Bool.false_and]
theorem n27 : (Tryz.f27.name == "runtime.NumGoroutine") = false := by kernel_rfl
theorem enumsX (l : List DEnum) (hl : okEnums l) : PCall Tryz.prog 27 [.lst 2 (l.map DEnum.enc) none] (.i (enumsF l)) := by
  refine pcall_of_vc tabOK Tryz.func27 n27 rfl (by repeat' first | exact pure_nil | refine pure_cons ?_ ?_ | exact .raw _ | exact pure_enc _ | exact pure_lst _ | exact pure_strs _ | exact pure_ints _ | exact DTy.pure _ | exact DTy.pures _ | exact DEnum.pure _ | exact DEnum.pures _ | exact DDecl.pure _ | exact DDecl.pures _ | exact DEq.pure _ | exact DEq.pures _ | exact DNode.pure _ | exact DNode.pures _ | exact DProg.pure _ | exact DProg.pures _ | exact DCond.pure _ | exact DCond.pures _ | exact DAtom.pure _ | exact DAtom.pures _ | exact DPlain.pure _ | exact DPlain.pures _ | exact DVar.pure _ | exact DVar.pures _ | exact DFlow.pure _ | exact DFlow.pures _ | exact DFlows.pure _ | exact DFlows.pures _ | exact DAsked.pure _ | exact DAsked.pures _ | exact DFault.pure _ | exact DFault.pures _ | exact DCell.pure _ | exact DCell.pures _ | exact DReply.pure _ | exact DReply.pures _ | exact DAsk.pure _ | exact DAsk.pures _ | exact DOp.pure _ | exact DOp.pures _ | exact pure_list (fun x => DDecl.pures x) _ | exact .fn _ _ _ pure_nil pure_nil | refine .agg _ ?_ | refine .tup _ ?_ | assumption) (by repeat' first | exact pure_nil | refine pure_cons ?_ ?_ | exact .raw _ | exact pure_enc _ | exact pure_lst _ | exact pure_strs _ | exact pure_ints _ | exact DTy.pure _ | exact DTy.pures _ | exact DEnum.pure _ | exact DEnum.pures _ | exact DDecl.pure _ | exact DDecl.pures _ | exact DEq.pure _ | exact DEq.pures _ | exact DNode.pure _ | exact DNode.pures _ | exact DProg.pure _ | exact DProg.pures _ | exact DCond.pure _ | exact DCond.pures _ | exact DAtom.pure _ | exact DAtom.pures _ | exact DPlain.pure _ | exact DPlain.pures _ | exact DVar.pure _ | exact DVar.pures _ | exact DFlow.pure _ | exact DFlow.pures _ | exact DFlows.pure _ | exact DFlows.pures _ | exact DAsked.pure _ | exact DAsked.pures _ | exact DFault.pure _ | exact DFault.pures _ | exact DCell.pure _ | exact DCell.pures _ | exact DReply.pure _ | exact DReply.pures _ | exact DAsk.pure _ | exact DAsk.pures _ | exact DOp.pure _ | exact DOp.pures _ | exact pure_list (fun x => DDecl.pures x) _ | exact .fn _ _ _ pure_nil pure_nil | refine .agg _ ?_ | refine .tup _ ?_ | assumption) (n := 83) rfl (rs := [.tmp 2]) rfl ?_
  have hl8 := hl.1
  repeat' first
    | exact finB rfl
    | exact finI rfl
    | exact finP rfl
    | exact absurd rfl (by assumption)
    | simp only [go_sem, Nat.reduceAdd, Nat.reduceSub, Nat.reduceMul, Nat.reduceLT, Nat.reduceLeDiff, Nat.reduceEqDiff, Nat.reduceBEq, Nat.reduceBNe, Nat.reducePow, Int.reduceEq, Int.reduceNe, Int.reduceLT, Int.reduceLE, Int.reduceGT, Int.reduceGE, Int.reduceAdd, Int.reduceSub, Int.reduceNeg, Int.reduceMul, not_true_eq_false, not_false_eq_true, true_and, and_true, Int.reduceToNat]
    | (intro _)
    | refine brK_dec (fun _ => ?_) (fun _ => ?_)
    | refine brK_split (fun hb_ => ?_) (fun hb_ => ?_)
    | refine gK_dec (fun _ => ?_) (fun _ => ?_)
    | refine gK_split (fun hb_ => ?_) (fun hb_ => ?_)
    | refine gqK_dec (fun _ => ?_) (fun _ => ?_)
    | refine ⟨by omega, ?_⟩
    | refine elemHave (by omega) (by assumption) ?_
    | refine elemMap (by omega) (by omega) (fun x hx => ?_)
    | refine drawK mo (by kernel_rfl) ?_
    | (simp only [map_snoc])
    | (simp only [map_app])
    | (refine ⟨by have h8 := hpi.1.1; have h9 := hpi.1.2.1; have h7 := (hl.2 _ (List.mem_of_getElem? hx)).1; first | omega | (simp; omega), ?_⟩)
    | ((fail_if_success (clear hax)); have hax : a = l.map DEnum.Name := (by rw [hpi.2.1, List.take_of_length_le (by omega)]; done); have hbx : b = l.flatMap DEnum.Ctors := (by rw [hpi.2.2.1, List.take_of_length_le (by omega)]; done); have hgx : greatE l = false := en_small (by omega) hpi.2.2.2 (by omega); subst hax hbx)
    | (refine PCall.call (low_x x.Name) ?_; generalize hlx : lowF x.Name = q; cases q)
    | (refine PCall.call (high_x x) ?_; generalize hhx : highF x = q; cases q)
    | (refine PCall.callW (once_x (l.map DEnum.Name)) ⟨.tok _ _ _, trivial⟩ ?_; generalize ho1 : onceB (l.map DEnum.Name) = q; cases q)
    | (refine PCall.callW (once_x (l.flatMap DEnum.Ctors)) ⟨.tok _ _ _, trivial⟩ ?_; generalize ho2 : onceB (l.flatMap DEnum.Ctors) = q; cases q)
    | (refine finIq rfl ?_; rw [en_many (en_great1 (by omega))]; done)
    | (refine finIq rfl ?_; rw [en_many (en_great2 hx (by omega))]; done)
    | (refine finIq rfl ?_; rw [en_arg1 hgx hx (en_bad0 hlx)]; done)
    | (refine finIq rfl ?_; rw [en_arg1 hgx hx (en_bad hlx (by omega))]; done)
    | (refine finIq rfl ?_; rw [en_arg2 hgx hx hhx]; done)
    | (refine finIq rfl ?_; rw [en_end hgx hpj (by omega) hpk (by omega)]; simp [*]; done)
    | exact loopFr _ (by omega) ⟨i + 1, a ++ [x.Name], b ++ x.Ctors, _, by omega, rfl, hpi.next hl hx (by omega), rfl, (by first | rfl | (simp; done) | (simp; rfl))⟩ (.next rfl (by omega) (.cons (by first | rfl | (simp; done) | (simp; rfl)) (.cons (by first | rfl | (simp; done) | (simp; rfl)) .nil))) rfl
    | (refine loop_fr [2, 3, 4, 5, 13, 14, 15, 16, 17, 18, 19, 20, 21, 22, 23, 24, 25, 26, 27, 28, 29, 30, 31, 32, 33, 34, 35, 36, 37, 38, 39, 40] (fun mm_ CC_ hh_ => ∃ (i : Nat) (a : List ByteArray) (b : List ByteArray) (r_ : List Blk), i ≤ l.length ∧ mm_ = l.length - i ∧ (okAX l i a b) ∧ CC_ = [(5, .raw (.int .i64 ((i : Nat) : Int))), (3, .lst 1 (a.map AV.s) (some 0)), (4, .lst 1 (b.map AV.s) (some 1))] ∧ hh_ = .tok 9 1 a.length :: .tok 9 1 b.length :: r_) (l.length) _ ⟨0, [], [], _, by omega, by omega, .zero, rfl, (by first | rfl | (simp; done) | (simp; rfl))⟩ (.cons (by first | rfl | (simp; done) | (simp; rfl)) (.cons (by first | rfl | (simp; done) | (simp; rfl)) (.cons (by first | rfl | (simp; done) | (simp; rfl)) .nil))) ?_; rintro mm_ CC_ ji hh_ ⟨i, a, b, ri, hi, rfl, hpi, rfl, rfl⟩)
    | exact loopFrH _ (by omega) ⟨j + 1, by omega, rfl, take_all hpj (by simpa using hx) (en_ok hlx (by omega)), rfl⟩ (.next rfl (by omega) .nil) rfl
    | (refine loop_frH [2, 6, 41, 42, 43, 44, 45, 46, 47, 48, 49, 50, 51, 52, 53, 54, 55, 56, 57, 58, 59, 60, 61, 62] (fun mm_ CC_ => ∃ (j : Nat), j ≤ l.length ∧ mm_ = l.length - j ∧ (∀ e ∈ l.take j, (lowF e.Name && decide (0 < e.Ctors.length)) = true) ∧ CC_ = [(6, .raw (.int .i64 ((j : Nat) : Int)))]) (l.length) _ ⟨0, by omega, by omega, by simp, rfl⟩ (.cons rfl .nil) ?_; rintro mm_ CC_ jj ⟨j, hj, rfl, hpj, rfl⟩)
    | exact loopFrH _ (by omega) ⟨k + 1, by omega, rfl, take_all hpk (by simpa using hx) hhx, rfl⟩ (.next rfl (by omega) .nil) rfl
    | (refine loop_frH [2, 7, 63, 64, 65, 66, 67, 68, 69, 70, 71, 72, 73, 74] (fun mm_ CC_ => ∃ (k : Nat), k ≤ (l.flatMap DEnum.Ctors).length ∧ mm_ = (l.flatMap DEnum.Ctors).length - k ∧ (∀ c ∈ (l.flatMap DEnum.Ctors).take k, highF c = true) ∧ CC_ = [(7, .raw (.int .i64 ((k : Nat) : Int)))]) ((l.flatMap DEnum.Ctors).length) _ ⟨0, by omega, by omega, by simp, rfl⟩ (.cons rfl .nil) ?_; rintro mm_ CC_ jk ⟨k, hk, rfl, hpk, rfl⟩)
end Go.Proofs.YtipcmpkihhfhcaaGreatDoor

namespace Go.Proofs.YtipcmpkihhfhcaaGreatDoor
open Go.Abs
set_option maxRecDepth 20000
set_option linter.unusedSimpArgs false
set_option linter.unusedVariables false
set_option maxHeartbeats 1000000
attribute [local irreducible] vc vcOps vcStep vcGuard prK hrK gK gsK brK callK ElemK SeqK BlockK ScopeK OpsK CallK LoopK LoopGo finPost ACall PCall PCallE BCall vqOps vqStep vqGuard qrK heK pcK gqK gqsK QOpsK qcallK DrawK
theorem okN_lenX {n : DNode} (h : okNode n) : (allV n).length ≤ 60 := by
  have h1 := h.1.1
  have h2 := h.2.1.1
  have h3 := h.2.2.1.1
  simp [allV]
  omega
def chkX (p : DProg) (i : Nat) (a : List ByteArray) (u v : Bool) : Prop := a = (p.Nodes.take i).map DNode.Name ∧ u = (p.Nodes.take i).all (nodeF p.Enums.length) ∧ v = (p.Nodes.take i).all onceN ∧ ∀ n ∈ p.Nodes.take i, greatF n = false
theorem chkX.zero {p : DProg} : chkX p 0 [] true true := ⟨by simp, by simp, by simp, by simp⟩
theorem chkX.next {p : DProg} {i : Nat} {a : List ByteArray} {u v u' v' : Bool} {n : DNode} (h : chkX p i a u v) (hx : p.Nodes[((i : Nat) : Int).toNat]? = some n) (hg : greatF n = false) (hu : u' = (u && nodeF p.Enums.length n)) (hv : v' = (v && onceN n)) : chkX p (i + 1) (a ++ [n.Name]) u' v' :=
  ⟨by rw [take_mapS hx, h.1], by rw [hu, all_nextZ _ hx, h.2.1], by rw [hv, all_nextZ _ hx, h.2.2.1], take_all h.2.2.2 (by simpa using hx) hg⟩
theorem chk_some {p : DProg} {i : Nat} {n : DNode} (hx : p.Nodes[((i : Nat) : Int).toNat]? = some n) (hg : greatF n = true) : p.Nodes.any greatF = true := List.any_eq_true.2 ⟨n, List.mem_of_getElem? hx, hg⟩
theorem chk_none {p : DProg} {i : Nat} {a : List ByteArray} {u v : Bool} (h : chkX p i a u v) (hi : p.Nodes.length ≤ i) : p.Nodes.any greatF = false ∧ p.Nodes.all (nodeF p.Enums.length) = u ∧ p.Nodes.all onceN = v ∧ p.Nodes.map DNode.Name = a := by
  obtain ⟨h1, h2, h3, h4⟩ := h
  have e : p.Nodes.take i = p.Nodes := List.take_of_length_le hi
  rw [e] at h1 h2 h3 h4
  refine ⟨?_, h2.symm, h3.symm, h1.symm⟩
  rw [List.any_eq_false]
  intro n hn
  rw [h4 n hn]; simp
theorem great_no {n : DNode} (h1 : ¬ ((n.Ins.length : Int) > 6)) (h2 : ¬ ((n.Outs.length : Int) > 6)) (h3 : ¬ ((n.Vars.length : Int) > 12)) (h4 : ¬ ((n.Eqs.length : Int) > 18)) : greatF n = false := by
  unfold greatF
  rw [decide_eq_false (by omega), decide_eq_false (by omega), decide_eq_false (by omega), decide_eq_false (by omega)]
  rfl
theorem great_yes {n : DNode} (h : (n.Ins.length : Int) > 6 ∨ (n.Outs.length : Int) > 6 ∨ (n.Vars.length : Int) > 12 ∨ (n.Eqs.length : Int) > 18) : greatF n = true := by
  unfold greatF
  simp only [Bool.or_eq_true, decide_eq_true_eq]
  omega
theorem onceX (x : DNode) : PCall Tryz.prog 45 [.lst 1 (((allV x).map DDecl.Name).map AV.s) none] (.b (onceN x)) := once_x _
noncomputable def checkG (p : DProg) (en : Int) : Int :=
  if ¬ en = 0 then en
  else if p.Nodes.length = 0 then 5
  else if (decide (p.Nodes.length > 6) || p.Nodes.any greatF) = true then 4
  else if p.Nodes.all (nodeF p.Enums.length) = true then (if (p.Nodes.all onceN && onceB (p.Nodes.map DNode.Name)) = true then 0 else 6) else 1
theorem checkG_eq (p : DProg) : checkF p = checkG p (enumsF p.Enums) := rfl
section
variable {p : DProg} {en : Int}
theorem cg_en (h : en ≠ 0) : checkG p en = en := by unfold checkG; rw [if_pos h]
theorem cg_none (h : ¬ en ≠ 0) (h1 : (p.Nodes.length : Int) = 0) : checkG p en = 5 := by unfold checkG; rw [if_neg h, if_pos (by omega)]
theorem cg_many1 (h : ¬ en ≠ 0) (h1 : ¬ (p.Nodes.length : Int) = 0) (h2 : (p.Nodes.length : Int) > 6) : checkG p en = 4 := by unfold checkG; rw [if_neg h, if_neg (by omega), decide_eq_true (by omega)]; simp
theorem cg_many2 (h : ¬ en ≠ 0) (h1 : ¬ (p.Nodes.length : Int) = 0) (h2 : p.Nodes.any greatF = true) : checkG p en = 4 := by unfold checkG; rw [if_neg h, if_neg (by omega), h2]; simp
theorem cg_arg (h : ¬ en ≠ 0) (h1 : ¬ (p.Nodes.length : Int) = 0) (h2 : ¬ (p.Nodes.length : Int) > 6) {u v : Bool} (f1 : p.Nodes.any greatF = false) (f2 : p.Nodes.all (nodeF p.Enums.length) = u) (f3 : p.Nodes.all onceN = v) (hu : (!u) = true) : checkG p en = 1 := by
  unfold checkG; rw [if_neg h, if_neg (by omega), decide_eq_false (by omega), f1, f2, f3]; simp at hu; simp [hu]
theorem cg_there1 (h : ¬ en ≠ 0) (h1 : ¬ (p.Nodes.length : Int) = 0) (h2 : ¬ (p.Nodes.length : Int) > 6) {u v : Bool} (f1 : p.Nodes.any greatF = false) (f2 : p.Nodes.all (nodeF p.Enums.length) = u) (f3 : p.Nodes.all onceN = v) (hu : ¬ (!u) = true) (hv : (!v) = true) : checkG p en = 6 := by
  unfold checkG; rw [if_neg h, if_neg (by omega), decide_eq_false (by omega), f1, f2, f3]; simp at hu hv; simp [hu, hv]
theorem cg_there2 (h : ¬ en ≠ 0) (h1 : ¬ (p.Nodes.length : Int) = 0) (h2 : ¬ (p.Nodes.length : Int) > 6) {u v : Bool} (f1 : p.Nodes.any greatF = false) (f2 : p.Nodes.all (nodeF p.Enums.length) = u) (f3 : p.Nodes.all onceN = v) (hu : ¬ (!u) = true) (hv : ¬ (!v) = true) (hw : onceB (p.Nodes.map DNode.Name) = false) : checkG p en = 6 := by
  unfold checkG; rw [if_neg h, if_neg (by omega), decide_eq_false (by omega), f1, f2, f3]; simp at hu hv; simp [hu, hv, hw]
theorem cg_ok (h : ¬ en ≠ 0) (h1 : ¬ (p.Nodes.length : Int) = 0) (h2 : ¬ (p.Nodes.length : Int) > 6) {u v : Bool} (f1 : p.Nodes.any greatF = false) (f2 : p.Nodes.all (nodeF p.Enums.length) = u) (f3 : p.Nodes.all onceN = v) (hu : ¬ (!u) = true) (hv : ¬ (!v) = true) (hw : onceB (p.Nodes.map DNode.Name) = true) : checkG p en = 0 := by
  unfold checkG; rw [if_neg h, if_neg (by omega), decide_eq_false (by omega), f1, f2, f3]; simp at hu hv; simp [hu, hv, hw]
end
theorem n13 : (Tryz.f13.name == "runtime.NumGoroutine") = false := by kernel_rfl
theorem checkX (p : DProg) (hp : okProg p) : PCall Tryz.prog 13 [p.enc] (.i (checkF p)) := by
  refine pcall_of_vc tabOK Tryz.func13 n13 rfl (by repeat' first | exact pure_nil | refine pure_cons ?_ ?_ | exact .raw _ | exact pure_enc _ | exact pure_lst _ | exact pure_strs _ | exact pure_ints _ | exact DTy.pure _ | exact DTy.pures _ | exact DEnum.pure _ | exact DEnum.pures _ | exact DDecl.pure _ | exact DDecl.pures _ | exact DEq.pure _ | exact DEq.pures _ | exact DNode.pure _ | exact DNode.pures _ | exact DProg.pure _ | exact DProg.pures _ | exact DCond.pure _ | exact DCond.pures _ | exact DAtom.pure _ | exact DAtom.pures _ | exact DPlain.pure _ | exact DPlain.pures _ | exact DVar.pure _ | exact DVar.pures _ | exact DFlow.pure _ | exact DFlow.pures _ | exact DFlows.pure _ | exact DFlows.pures _ | exact DAsked.pure _ | exact DAsked.pures _ | exact DFault.pure _ | exact DFault.pures _ | exact DCell.pure _ | exact DCell.pures _ | exact DReply.pure _ | exact DReply.pures _ | exact DAsk.pure _ | exact DAsk.pures _ | exact DOp.pure _ | exact DOp.pures _ | exact pure_list (fun x => DDecl.pures x) _ | exact .fn _ _ _ pure_nil pure_nil | refine .agg _ ?_ | refine .tup _ ?_ | assumption) (by repeat' first | exact pure_nil | refine pure_cons ?_ ?_ | exact .raw _ | exact pure_enc _ | exact pure_lst _ | exact pure_strs _ | exact pure_ints _ | exact DTy.pure _ | exact DTy.pures _ | exact DEnum.pure _ | exact DEnum.pures _ | exact DDecl.pure _ | exact DDecl.pures _ | exact DEq.pure _ | exact DEq.pures _ | exact DNode.pure _ | exact DNode.pures _ | exact DProg.pure _ | exact DProg.pures _ | exact DCond.pure _ | exact DCond.pures _ | exact DAtom.pure _ | exact DAtom.pures _ | exact DPlain.pure _ | exact DPlain.pures _ | exact DVar.pure _ | exact DVar.pures _ | exact DFlow.pure _ | exact DFlow.pures _ | exact DFlows.pure _ | exact DFlows.pures _ | exact DAsked.pure _ | exact DAsked.pures _ | exact DFault.pure _ | exact DFault.pures _ | exact DCell.pure _ | exact DCell.pures _ | exact DReply.pure _ | exact DReply.pures _ | exact DAsk.pure _ | exact DAsk.pures _ | exact DOp.pure _ | exact DOp.pures _ | exact pure_list (fun x => DDecl.pures x) _ | exact .fn _ _ _ pure_nil pure_nil | refine .agg _ ?_ | refine .tup _ ?_ | assumption) (n := 86) rfl (rs := [.tmp 2]) rfl ?_
  have hpn := hp.2.1
  rw [checkG_eq]
  repeat' first
    | exact finB rfl
    | exact finI rfl
    | exact finP rfl
    | exact absurd rfl (by assumption)
    | simp only [go_sem, Nat.reduceAdd, Nat.reduceSub, Nat.reduceMul, Nat.reduceLT, Nat.reduceLeDiff, Nat.reduceEqDiff, Nat.reduceBEq, Nat.reduceBNe, Nat.reducePow, Int.reduceEq, Int.reduceNe, Int.reduceLT, Int.reduceLE, Int.reduceGT, Int.reduceGE, Int.reduceAdd, Int.reduceSub, Int.reduceNeg, Int.reduceMul, not_true_eq_false, not_false_eq_true, true_and, and_true, Int.reduceToNat]
    | (intro _)
    | refine brK_dec (fun _ => ?_) (fun _ => ?_)
    | refine brK_split (fun hb_ => ?_) (fun hb_ => ?_)
    | refine gK_dec (fun _ => ?_) (fun _ => ?_)
    | refine gK_split (fun hb_ => ?_) (fun hb_ => ?_)
    | refine gqK_dec (fun _ => ?_) (fun _ => ?_)
    | refine ⟨by omega, ?_⟩
    | refine elemHave (by omega) (by assumption) ?_
    | refine elemMap (by omega) (by omega) (fun x hx => ?_)
    | refine drawK mo (by kernel_rfl) ?_
    | (refine PCall.call (enumsX _ hp.1) ?_; generalize enumsF p.Enums = en)
    | (simp only [map_snoc])
    | (refine PCall.call (all66 x (by have := okN_lenX (hp.2.2 _ (List.mem_of_getElem? hx)); omega)) ?_)
    | (refine PCall.call (names83 _ (by have := okN_lenX (hp.2.2 _ (List.mem_of_getElem? hx)); omega)) ?_)
    | (refine PCall.call (nodeX _ x (hp.2.2 _ (List.mem_of_getElem? hx))) ?_; generalize hnx : nodeF p.Enums.length x = b; cases b)
    | (refine PCall.call (onceX x) ?_; generalize hox : onceN x = b; cases b)
    | ((fail_if_success (clear hfin)); have hfin := chk_none hpi.2 (by omega); obtain ⟨f1, f2, f3, f4⟩ := hfin; have hfin := f1; subst f4)
    | (refine PCall.callW (once_x (p.Nodes.map DNode.Name)) ⟨.tok _ _ _, trivial⟩ ?_; generalize hwx : onceB (p.Nodes.map DNode.Name) = b; cases b)
    | (refine ⟨by first | omega | (simp; omega), ?_⟩)
    | (exact finIq rfl (cg_en (p := p) (en := en) (by assumption)).symm)
    | (exact finIq rfl (cg_none (p := p) (en := en) (by assumption) (by assumption)).symm)
    | (exact finIq rfl (cg_many1 (p := p) (en := en) (by assumption) (by assumption) (by assumption)).symm)
    | (have hgr := great_yes (n := x) (by omega); exact finIq rfl (cg_many2 (p := p) (en := en) (by assumption) (by assumption) (chk_some hx hgr)).symm)
    | (refine finIq rfl (cg_arg (p := p) (en := en) (by assumption) (by assumption) (by assumption) f1 f2 f3 ?_).symm; first | assumption | (simp [*]; done))
    | (refine finIq rfl (cg_there1 (p := p) (en := en) (by assumption) (by assumption) (by assumption) f1 f2 f3 ?_ ?_).symm <;> first | assumption | (simp [*]; done))
    | (refine finIq rfl (cg_there2 (p := p) (en := en) (by assumption) (by assumption) (by assumption) f1 f2 f3 ?_ ?_ hwx).symm <;> first | assumption | (simp [*]; done))
    | (refine finIq rfl (cg_ok (p := p) (en := en) (by assumption) (by assumption) (by assumption) f1 f2 f3 ?_ ?_ hwx).symm <;> first | assumption | (simp [*]; done))
    | exact loopFr _ (by omega) ⟨i + 1, a ++ [x.Name], (Bool.and u (nodeF p.Enums.length x)), (Bool.and v (onceN x)), _, by omega, rfl, ⟨by have := hpi.1 <;> simp <;> omega, hpi.2.next hx (great_no (by assumption) (by assumption) (by assumption) (by assumption)) rfl rfl⟩, rfl, (by first | rfl | (simp; done) | (simp; rfl) | (simp [*]))⟩ (.next rfl (by omega) (.cons (by first | rfl | (simp; done) | (simp; rfl) | (simp [*])) (.cons (by first | rfl | (simp; done) | (simp; rfl) | (simp [*])) (.cons (by first | rfl | (simp; done) | (simp; rfl) | (simp [*])) .nil)))) rfl
    | (refine loop_fr [2, 4, 5, 6, 7, 8, 24, 25, 26, 27, 28, 29, 30, 31, 32, 33, 34, 35, 36, 37, 38, 39, 40, 41, 42, 43, 44, 45, 46, 47, 48, 49, 50, 51, 52, 53, 54, 55, 56, 57, 58, 59, 60, 61, 62, 63, 64, 65, 66, 67, 68, 69, 70, 71, 72, 73, 74, 75, 76] (fun mm_ CC_ hh_ => ∃ (i : Nat) (a : List ByteArray) (u : Bool) (v : Bool) (r_ : List Blk), i ≤ p.Nodes.length ∧ mm_ = p.Nodes.length - i ∧ ((a.length ≤ i ∧ chkX p i a u v)) ∧ CC_ = [(7, .raw (.int .i64 ((i : Nat) : Int))), (4, .lst 1 (a.map AV.s) (some 1)), (5, .b u), (6, .b v)] ∧ hh_ = progBc p :: .tok 9 1 a.length :: r_) (p.Nodes.length) _ ⟨0, [], _, _, _, by omega, by omega, ⟨by simp, chkX.zero⟩, rfl, (by first | rfl | (simp; done) | (simp; rfl))⟩ (.cons (by first | rfl | (simp; done) | (simp; rfl)) (.cons (by first | rfl | (simp; done) | (simp; rfl)) (.cons (by first | rfl | (simp; done) | (simp; rfl)) (.cons (by first | rfl | (simp; done) | (simp; rfl)) .nil)))) ?_; rintro mm_ CC_ ji hh_ ⟨i, a, u, v, ri, hi, rfl, hpi, rfl, rfl⟩)
end Go.Proofs.YtipcmpkihhfhcaaGreatDoor

namespace Go.Proofs.YtipcmpkihhfhcaaGreatDoor
open Go.Abs
set_option maxRecDepth 20000
set_option linter.unusedSimpArgs false
set_option linter.unusedVariables false
set_option maxHeartbeats 1000000
attribute [local irreducible] vc vcOps vcStep vcGuard prK hrK gK gsK brK callK ElemK SeqK BlockK ScopeK OpsK CallK LoopK LoopGo finPost ACall PCall PCallE BCall vqOps vqStep vqGuard qrK heK pcK gqK gqsK QOpsK qcallK DrawK
theorem n90 : (Tryz.f90.name == "runtime.NumGoroutine") = false := by kernel_rfl
theorem is90 (n : DNode) (s : ByteArray) (hl : (allV n).length ≤ 60) : PCall Tryz.prog 90 [n.enc, .s s] (.b (isF n s)) := by
  refine pcall_of_vc tabOK Tryz.func90 n90 rfl (by repeat' first | exact pure_nil | refine pure_cons ?_ ?_ | exact .raw _ | exact pure_enc _ | exact pure_lst _ | exact pure_strs _ | exact pure_ints _ | exact DTy.pure _ | exact DTy.pures _ | exact DEnum.pure _ | exact DEnum.pures _ | exact DDecl.pure _ | exact DDecl.pures _ | exact DEq.pure _ | exact DEq.pures _ | exact DNode.pure _ | exact DNode.pures _ | exact DProg.pure _ | exact DProg.pures _ | exact DCond.pure _ | exact DCond.pures _ | exact DAtom.pure _ | exact DAtom.pures _ | exact DPlain.pure _ | exact DPlain.pures _ | exact DVar.pure _ | exact DVar.pures _ | exact DFlow.pure _ | exact DFlow.pures _ | exact DFlows.pure _ | exact DFlows.pures _ | exact DAsked.pure _ | exact DAsked.pures _ | exact DFault.pure _ | exact DFault.pures _ | exact DCell.pure _ | exact DCell.pures _ | exact DReply.pure _ | exact DReply.pures _ | exact DAsk.pure _ | exact DAsk.pures _ | exact DOp.pure _ | exact DOp.pures _ | exact pure_list (fun x => DDecl.pures x) _ | exact .fn _ _ _ pure_nil pure_nil | refine .agg _ ?_ | refine .tup _ ?_ | assumption) (by repeat' first | exact pure_nil | refine pure_cons ?_ ?_ | exact .raw _ | exact pure_enc _ | exact pure_lst _ | exact pure_strs _ | exact pure_ints _ | exact DTy.pure _ | exact DTy.pures _ | exact DEnum.pure _ | exact DEnum.pures _ | exact DDecl.pure _ | exact DDecl.pures _ | exact DEq.pure _ | exact DEq.pures _ | exact DNode.pure _ | exact DNode.pures _ | exact DProg.pure _ | exact DProg.pures _ | exact DCond.pure _ | exact DCond.pures _ | exact DAtom.pure _ | exact DAtom.pures _ | exact DPlain.pure _ | exact DPlain.pures _ | exact DVar.pure _ | exact DVar.pures _ | exact DFlow.pure _ | exact DFlow.pures _ | exact DFlows.pure _ | exact DFlows.pures _ | exact DAsked.pure _ | exact DAsked.pures _ | exact DFault.pure _ | exact DFault.pures _ | exact DCell.pure _ | exact DCell.pures _ | exact DReply.pure _ | exact DReply.pures _ | exact DAsk.pure _ | exact DAsk.pures _ | exact DOp.pure _ | exact DOp.pures _ | exact pure_list (fun x => DDecl.pures x) _ | exact .fn _ _ _ pure_nil pure_nil | refine .agg _ ?_ | refine .tup _ ?_ | assumption) (n := 14) rfl (rs := [.tmp 4]) rfl ?_
  repeat' first
    | exact finB rfl
    | exact finI rfl
    | exact finP rfl
    | exact absurd rfl (by assumption)
    | simp only [go_sem, Nat.reduceAdd, Nat.reduceSub, Nat.reduceMul, Nat.reduceLT, Nat.reduceLeDiff, Nat.reduceEqDiff, Nat.reduceBEq, Nat.reduceBNe, Nat.reducePow, Int.reduceEq, Int.reduceNe, Int.reduceLT, Int.reduceLE, Int.reduceGT, Int.reduceGE, Int.reduceAdd, Int.reduceSub, Int.reduceNeg, Int.reduceMul, not_true_eq_false, not_false_eq_true, true_and, and_true, Int.reduceToNat]
    | (intro _)
    | refine brK_dec (fun _ => ?_) (fun _ => ?_)
    | refine brK_any ?_ ?_
    | refine gK_dec (fun _ => ?_) (fun _ => ?_)
    | refine gK_any ?_ ?_
    | refine gqK_dec (fun _ => ?_) (fun _ => ?_)
    | refine ⟨by omega, ?_⟩
    | refine elemHave (by omega) (by assumption) ?_
    | refine elemMap (by omega) (by omega) (fun x hx => ?_)
    | refine drawK mo (by kernel_rfl) ?_
    | (refine PCall.call (decl26 n s (by omega)) ?_; unfold isF; generalize decl n s = d; obtain ⟨d, ok⟩ := d)
    | (exact finBq rfl rfl)
theorem n91 : (Tryz.f91.name == "runtime.NumGoroutine") = false := by kernel_rfl
theorem armX15 (p : DProg) (s : ByteArray) : PCall Tryz.prog 91 [p.enc, .s s] (.b (armOk p.Enums s)) := by
  refine pcall_of_vc tabOK Tryz.func91 n91 rfl (by repeat' first | exact pure_nil | refine pure_cons ?_ ?_ | exact .raw _ | exact pure_enc _ | exact pure_lst _ | exact pure_strs _ | exact pure_ints _ | exact DTy.pure _ | exact DTy.pures _ | exact DEnum.pure _ | exact DEnum.pures _ | exact DDecl.pure _ | exact DDecl.pures _ | exact DEq.pure _ | exact DEq.pures _ | exact DNode.pure _ | exact DNode.pures _ | exact DProg.pure _ | exact DProg.pures _ | exact DCond.pure _ | exact DCond.pures _ | exact DAtom.pure _ | exact DAtom.pures _ | exact DPlain.pure _ | exact DPlain.pures _ | exact DVar.pure _ | exact DVar.pures _ | exact DFlow.pure _ | exact DFlow.pures _ | exact DFlows.pure _ | exact DFlows.pures _ | exact DAsked.pure _ | exact DAsked.pures _ | exact DFault.pure _ | exact DFault.pures _ | exact DCell.pure _ | exact DCell.pures _ | exact DReply.pure _ | exact DReply.pures _ | exact DAsk.pure _ | exact DAsk.pures _ | exact DOp.pure _ | exact DOp.pures _ | exact pure_list (fun x => DDecl.pures x) _ | exact .fn _ _ _ pure_nil pure_nil | refine .agg _ ?_ | refine .tup _ ?_ | assumption) (by repeat' first | exact pure_nil | refine pure_cons ?_ ?_ | exact .raw _ | exact pure_enc _ | exact pure_lst _ | exact pure_strs _ | exact pure_ints _ | exact DTy.pure _ | exact DTy.pures _ | exact DEnum.pure _ | exact DEnum.pures _ | exact DDecl.pure _ | exact DDecl.pures _ | exact DEq.pure _ | exact DEq.pures _ | exact DNode.pure _ | exact DNode.pures _ | exact DProg.pure _ | exact DProg.pures _ | exact DCond.pure _ | exact DCond.pures _ | exact DAtom.pure _ | exact DAtom.pures _ | exact DPlain.pure _ | exact DPlain.pures _ | exact DVar.pure _ | exact DVar.pures _ | exact DFlow.pure _ | exact DFlow.pures _ | exact DFlows.pure _ | exact DFlows.pures _ | exact DAsked.pure _ | exact DAsked.pures _ | exact DFault.pure _ | exact DFault.pures _ | exact DCell.pure _ | exact DCell.pures _ | exact DReply.pure _ | exact DReply.pures _ | exact DAsk.pure _ | exact DAsk.pures _ | exact DOp.pure _ | exact DOp.pures _ | exact pure_list (fun x => DDecl.pures x) _ | exact .fn _ _ _ pure_nil pure_nil | refine .agg _ ?_ | refine .tup _ ?_ | assumption) (n := 17) rfl (rs := [.tmp 4]) rfl ?_
  repeat' first
    | exact finB rfl
    | exact finI rfl
    | exact finP rfl
    | exact absurd rfl (by assumption)
    | simp only [go_sem, Nat.reduceAdd, Nat.reduceSub, Nat.reduceMul, Nat.reduceLT, Nat.reduceLeDiff, Nat.reduceEqDiff, Nat.reduceBEq, Nat.reduceBNe, Nat.reducePow, Int.reduceEq, Int.reduceNe, Int.reduceLT, Int.reduceLE, Int.reduceGT, Int.reduceGE, Int.reduceAdd, Int.reduceSub, Int.reduceNeg, Int.reduceMul, not_true_eq_false, not_false_eq_true, true_and, and_true, Int.reduceToNat]
    | (intro _)
    | refine brK_dec (fun _ => ?_) (fun _ => ?_)
    | refine brK_any ?_ ?_
    | refine gK_dec (fun _ => ?_) (fun _ => ?_)
    | refine gK_any ?_ ?_
    | refine gqK_dec (fun _ => ?_) (fun _ => ?_)
    | refine ⟨by omega, ?_⟩
    | refine elemHave (by omega) (by assumption) ?_
    | refine elemMap (by omega) (by omega) (fun x hx => ?_)
    | refine drawK mo (by kernel_rfl) ?_
    | (refine PCall.call (arm91 p.Enums s) ?_; unfold armOk; generalize armF p.Enums s = d; obtain ⟨t, v, ok⟩ := d)
    | (exact finBq rfl rfl)
theorem n142 : (Tryz.f142.name == "runtime.NumGoroutine") = false := by kernel_rfl
theorem input142 (n : DNode) (s : ByteArray) : PCall Tryz.prog 142 [n.enc, .s s] (.b (inF n s)) := by
  refine pcall_of_vc tabOK Tryz.func142 n142 rfl (by repeat' first | exact pure_nil | refine pure_cons ?_ ?_ | exact .raw _ | exact pure_enc _ | exact pure_lst _ | exact pure_strs _ | exact pure_ints _ | exact DTy.pure _ | exact DTy.pures _ | exact DEnum.pure _ | exact DEnum.pures _ | exact DDecl.pure _ | exact DDecl.pures _ | exact DEq.pure _ | exact DEq.pures _ | exact DNode.pure _ | exact DNode.pures _ | exact DProg.pure _ | exact DProg.pures _ | exact DCond.pure _ | exact DCond.pures _ | exact DAtom.pure _ | exact DAtom.pures _ | exact DPlain.pure _ | exact DPlain.pures _ | exact DVar.pure _ | exact DVar.pures _ | exact DFlow.pure _ | exact DFlow.pures _ | exact DFlows.pure _ | exact DFlows.pures _ | exact DAsked.pure _ | exact DAsked.pures _ | exact DFault.pure _ | exact DFault.pures _ | exact DCell.pure _ | exact DCell.pures _ | exact DReply.pure _ | exact DReply.pures _ | exact DAsk.pure _ | exact DAsk.pures _ | exact DOp.pure _ | exact DOp.pures _ | exact pure_list (fun x => DDecl.pures x) _ | exact .fn _ _ _ pure_nil pure_nil | refine .agg _ ?_ | refine .tup _ ?_ | assumption) (by repeat' first | exact pure_nil | refine pure_cons ?_ ?_ | exact .raw _ | exact pure_enc _ | exact pure_lst _ | exact pure_strs _ | exact pure_ints _ | exact DTy.pure _ | exact DTy.pures _ | exact DEnum.pure _ | exact DEnum.pures _ | exact DDecl.pure _ | exact DDecl.pures _ | exact DEq.pure _ | exact DEq.pures _ | exact DNode.pure _ | exact DNode.pures _ | exact DProg.pure _ | exact DProg.pures _ | exact DCond.pure _ | exact DCond.pures _ | exact DAtom.pure _ | exact DAtom.pures _ | exact DPlain.pure _ | exact DPlain.pures _ | exact DVar.pure _ | exact DVar.pures _ | exact DFlow.pure _ | exact DFlow.pures _ | exact DFlows.pure _ | exact DFlows.pures _ | exact DAsked.pure _ | exact DAsked.pures _ | exact DFault.pure _ | exact DFault.pures _ | exact DCell.pure _ | exact DCell.pures _ | exact DReply.pure _ | exact DReply.pures _ | exact DAsk.pure _ | exact DAsk.pures _ | exact DOp.pure _ | exact DOp.pures _ | exact pure_list (fun x => DDecl.pures x) _ | exact .fn _ _ _ pure_nil pure_nil | refine .agg _ ?_ | refine .tup _ ?_ | assumption) (n := 21) rfl (rs := [.tmp 4]) rfl ?_
  repeat' first
    | exact finB rfl
    | exact finI rfl
    | exact finP rfl
    | exact absurd rfl (by assumption)
    | simp only [go_sem, Nat.reduceAdd, Nat.reduceSub, Nat.reduceMul, Nat.reduceLT, Nat.reduceLeDiff, Nat.reduceEqDiff, Nat.reduceBEq, Nat.reduceBNe, Nat.reducePow, Int.reduceEq, Int.reduceNe, Int.reduceLT, Int.reduceLE, Int.reduceGT, Int.reduceGE, Int.reduceAdd, Int.reduceSub, Int.reduceNeg, Int.reduceMul, not_true_eq_false, not_false_eq_true, true_and, and_true, Int.reduceToNat]
    | (intro _)
    | refine brK_dec (fun _ => ?_) (fun _ => ?_)
    | refine brK_any ?_ ?_
    | refine gK_dec (fun _ => ?_) (fun _ => ?_)
    | refine gK_any ?_ ?_
    | refine gqK_dec (fun _ => ?_) (fun _ => ?_)
    | refine ⟨by omega, ?_⟩
    | refine elemHave (by omega) (by assumption) ?_
    | refine elemMap (by omega) (by omega) (fun x hx => ?_)
    | refine drawK mo (by kernel_rfl) ?_
    | (refine finBq rfl ?_; unfold inF; rw [List.any_eq_true.2 ⟨x, List.mem_of_getElem? hx, by simpa using (by assumption)⟩]; done)
    | (refine finBq rfl ?_; unfold inF; rw [List.any_eq_false.2 (fun d hd => by rw [take_full hpi (by omega) d hd]; simp)]; done)
    | exact loopFrH _ (by omega) ⟨i + 1, by omega, rfl, take_all hpi (by simpa using hx) (decide_eq_false (by assumption)), rfl⟩ (.next rfl (by omega) .nil) rfl
    | (refine loop_frH [4, 5, 6, 7, 8, 9, 10, 11, 12, 13, 14, 15, 16, 17, 18, 19, 20] (fun mm_ CC_ => ∃ (i : Nat), i ≤ n.Ins.length ∧ mm_ = n.Ins.length - i ∧ (∀ d ∈ n.Ins.take i, decide (d.Name = s) = false) ∧ CC_ = [(5, .raw (.int .i64 ((i : Nat) : Int)))]) (n.Ins.length) _ ⟨0, by omega, by omega, by simp, rfl⟩ (.cons rfl .nil) ?_; rintro mm_ CC_ ji ⟨i, hi, rfl, hpi, rfl⟩)
theorem flatN_len {l : List DEq} (h : ∀ q ∈ l, okEq q) : (l.flatMap DEq.Names).length ≤ 20 * l.length := by
  induction l with
  | nil => simp
  | cons e L ih =>
    have h1 := (h e List.mem_cons_self).1
    have h2 := ih fun x hx => h x (List.mem_cons_of_mem _ hx)
    rw [List.flatMap_cons, List.length_append, List.length_cons]
    omega
theorem flatN_take {l : List DEq} (k : Nat) : ((l.take k).flatMap DEq.Names).length ≤ (l.flatMap DEq.Names).length := by
  have : l.flatMap DEq.Names = (l.take k).flatMap DEq.Names ++ (l.drop k).flatMap DEq.Names := by rw [← List.flatMap_append, List.take_append_drop]
  rw [this]; simp
theorem cntN_step {l : List DEq} {i : Nat} {q : DEq} (s : ByteArray) (hq : l[i]? = some q) : cntL s ((l.take (i + 1)).flatMap DEq.Names) = cntL s ((l.take i).flatMap DEq.Names) + cntL s q.Names := by
  rw [flatMap_next _ hq, cntL_append]
theorem n93 : (Tryz.f93.name == "runtime.NumGoroutine") = false := by kernel_rfl
theorem defined93 (n : DNode) (hn : okNode n) (s : ByteArray) (k : Nat) (hk : k ≤ n.Eqs.length) : PCall Tryz.prog 93 [n.enc, .s s, .i (k : Int)] (.i (cntL s ((n.Eqs.take k).flatMap DEq.Names) : Nat)) := by
  have hfl := flatN_len hn.2.2.2.2.2
  have h4 := hn.2.2.2.1
  refine pcall_of_vc tabOK Tryz.func93 n93 rfl (by repeat' first | exact pure_nil | refine pure_cons ?_ ?_ | exact .raw _ | exact pure_enc _ | exact pure_lst _ | exact pure_strs _ | exact pure_ints _ | exact DTy.pure _ | exact DTy.pures _ | exact DEnum.pure _ | exact DEnum.pures _ | exact DDecl.pure _ | exact DDecl.pures _ | exact DEq.pure _ | exact DEq.pures _ | exact DNode.pure _ | exact DNode.pures _ | exact DProg.pure _ | exact DProg.pures _ | exact DCond.pure _ | exact DCond.pures _ | exact DAtom.pure _ | exact DAtom.pures _ | exact DPlain.pure _ | exact DPlain.pures _ | exact DVar.pure _ | exact DVar.pures _ | exact DFlow.pure _ | exact DFlow.pures _ | exact DFlows.pure _ | exact DFlows.pures _ | exact DAsked.pure _ | exact DAsked.pures _ | exact DFault.pure _ | exact DFault.pures _ | exact DCell.pure _ | exact DCell.pures _ | exact DReply.pure _ | exact DReply.pures _ | exact DAsk.pure _ | exact DAsk.pures _ | exact DOp.pure _ | exact DOp.pures _ | exact pure_list (fun x => DDecl.pures x) _ | exact .fn _ _ _ pure_nil pure_nil | refine .agg _ ?_ | refine .tup _ ?_ | assumption) (by repeat' first | exact pure_nil | refine pure_cons ?_ ?_ | exact .raw _ | exact pure_enc _ | exact pure_lst _ | exact pure_strs _ | exact pure_ints _ | exact DTy.pure _ | exact DTy.pures _ | exact DEnum.pure _ | exact DEnum.pures _ | exact DDecl.pure _ | exact DDecl.pures _ | exact DEq.pure _ | exact DEq.pures _ | exact DNode.pure _ | exact DNode.pures _ | exact DProg.pure _ | exact DProg.pures _ | exact DCond.pure _ | exact DCond.pures _ | exact DAtom.pure _ | exact DAtom.pures _ | exact DPlain.pure _ | exact DPlain.pures _ | exact DVar.pure _ | exact DVar.pures _ | exact DFlow.pure _ | exact DFlow.pures _ | exact DFlows.pure _ | exact DFlows.pures _ | exact DAsked.pure _ | exact DAsked.pures _ | exact DFault.pure _ | exact DFault.pures _ | exact DCell.pure _ | exact DCell.pures _ | exact DReply.pure _ | exact DReply.pures _ | exact DAsk.pure _ | exact DAsk.pures _ | exact DOp.pure _ | exact DOp.pures _ | exact pure_list (fun x => DDecl.pures x) _ | exact .fn _ _ _ pure_nil pure_nil | refine .agg _ ?_ | refine .tup _ ?_ | assumption) (n := 40) rfl (rs := [.tmp 6]) rfl ?_
  simp only [go_sem, Nat.reduceAdd, Nat.reduceSub, Nat.reduceMul, Nat.reduceLT, Nat.reduceLeDiff, Nat.reduceEqDiff, Nat.reduceBEq, Nat.reduceBNe, Nat.reducePow, Int.reduceEq, Int.reduceNe, Int.reduceLT, Int.reduceLE, Int.reduceGT, Int.reduceGE, Int.reduceAdd, Int.reduceSub, Int.reduceNeg, Int.reduceMul, not_true_eq_false, not_false_eq_true, true_and, and_true, Int.reduceToNat]
  refine loop_frH [7, 8, 9, 10, 11, 12, 13, 14, 15, 16, 17, 18, 19, 20, 21, 22, 23, 24, 25, 26, 27, 28, 29, 30, 31, 32, 33, 34, 35, 36, 37, 38] (fun m C => ∃ i : Nat, i ≤ k ∧ m = k - i ∧ C = [(8, .raw (.int .i64 (i : Nat))), (7, .raw (.int .i64 ((cntL s ((n.Eqs.take i).flatMap DEq.Names) : Nat) : Int)))]) k _ ⟨0, by omega, by omega, rfl⟩ (.cons rfl (.cons rfl .nil)) ?_
  rintro m C ja ⟨i, hi, rfl, rfl⟩
  simp only [go_sem, Nat.reduceAdd, Nat.reduceSub, Nat.reduceMul, Nat.reduceLT, Nat.reduceLeDiff, Nat.reduceEqDiff, Nat.reduceBEq, Nat.reduceBNe, Nat.reducePow, Int.reduceEq, Int.reduceNe, Int.reduceLT, Int.reduceLE, Int.reduceGT, Int.reduceGE, Int.reduceAdd, Int.reduceSub, Int.reduceNeg, Int.reduceMul, not_true_eq_false, not_false_eq_true, true_and, and_true, Int.reduceToNat]
  refine brK_dec (fun hlt => ?_) (fun hge => ?_)
  · obtain ⟨q, hq⟩ : ∃ q, n.Eqs[i]? = some q := ⟨_, List.getElem?_eq_getElem (by omega)⟩
    have hst := cntN_step s hq
    have hb := cntL_le s ((n.Eqs.take (i + 1)).flatMap DEq.Names)
    have hb2 := flatN_take (l := n.Eqs) (i + 1)
    have hq20 := (hn.2.2.2.2.2 q (List.mem_of_getElem? hq)).1
    simp only [go_sem, Nat.reduceAdd, Nat.reduceSub, Nat.reduceMul, Nat.reduceLT, Nat.reduceLeDiff, Nat.reduceEqDiff, Nat.reduceBEq, Nat.reduceBNe, Nat.reducePow, Int.reduceEq, Int.reduceNe, Int.reduceLT, Int.reduceLE, Int.reduceGT, Int.reduceGE, Int.reduceAdd, Int.reduceSub, Int.reduceNeg, Int.reduceMul, not_true_eq_false, not_false_eq_true, true_and, and_true, Int.reduceToNat]
    refine loop_frH [7, 9, 15, 16, 17, 18, 19, 20, 21, 22, 23, 24, 25, 26, 27, 28, 29, 30, 31, 32, 33, 34, 35, 36, 37, 38] (fun m C => ∃ j : Nat, j ≤ q.Names.length ∧ m = q.Names.length - j ∧ C = [(9, .raw (.int .i64 (j : Nat))), (7, .raw (.int .i64 ((cntL s ((n.Eqs.take i).flatMap DEq.Names) + cntL s (q.Names.take j) : Nat) : Int)))]) q.Names.length _ ⟨0, by omega, by omega, rfl⟩ (.cons rfl (.cons rfl .nil)) ?_
    rintro m C jb ⟨j, hj, rfl, rfl⟩
    simp only [go_sem, Nat.reduceAdd, Nat.reduceSub, Nat.reduceMul, Nat.reduceLT, Nat.reduceLeDiff, Nat.reduceEqDiff, Nat.reduceBEq, Nat.reduceBNe, Nat.reducePow, Int.reduceEq, Int.reduceNe, Int.reduceLT, Int.reduceLE, Int.reduceGT, Int.reduceGE, Int.reduceAdd, Int.reduceSub, Int.reduceNeg, Int.reduceMul, not_true_eq_false, not_false_eq_true, true_and, and_true, Int.reduceToNat]
    refine elemHave (by omega) hq ?_
    simp only [go_sem, Nat.reduceAdd, Nat.reduceSub, Nat.reduceMul, Nat.reduceLT, Nat.reduceLeDiff, Nat.reduceEqDiff, Nat.reduceBEq, Nat.reduceBNe, Nat.reducePow, Int.reduceEq, Int.reduceNe, Int.reduceLT, Int.reduceLE, Int.reduceGT, Int.reduceGE, Int.reduceAdd, Int.reduceSub, Int.reduceNeg, Int.reduceMul, not_true_eq_false, not_false_eq_true, true_and, and_true, Int.reduceToNat]
    intro _
    refine brK_dec (fun hlt2 => ?_) (fun hge2 => ?_)
    · have hc := cntL_take (s := s) (l := q.Names) (k := j) (by omega)
      have hc2 := cntL_take_le s q.Names (j + 1)
      simp only [go_sem, Nat.reduceAdd, Nat.reduceSub, Nat.reduceMul, Nat.reduceLT, Nat.reduceLeDiff, Nat.reduceEqDiff, Nat.reduceBEq, Nat.reduceBNe, Nat.reducePow, Int.reduceEq, Int.reduceNe, Int.reduceLT, Int.reduceLE, Int.reduceGT, Int.reduceGE, Int.reduceAdd, Int.reduceSub, Int.reduceNeg, Int.reduceMul, not_true_eq_false, not_false_eq_true, true_and, and_true, Int.reduceToNat]
      refine elemHave (by omega) hq ?_
      simp only [go_sem, Nat.reduceAdd, Nat.reduceSub, Nat.reduceMul, Nat.reduceLT, Nat.reduceLeDiff, Nat.reduceEqDiff, Nat.reduceBEq, Nat.reduceBNe, Nat.reducePow, Int.reduceEq, Int.reduceNe, Int.reduceLT, Int.reduceLE, Int.reduceGT, Int.reduceGE, Int.reduceAdd, Int.reduceSub, Int.reduceNeg, Int.reduceMul, not_true_eq_false, not_false_eq_true, true_and, and_true, Int.reduceToNat]
      refine elemMap (by omega) (by omega) (fun x hx => ?_)
      have hxe : q.Names[j]'(by omega) = x := by
        have h := List.getElem?_eq_some_iff.1 hx
        obtain ⟨_, h⟩ := h
        simpa using h
      rw [hxe] at hc
      simp only [go_sem, Nat.reduceAdd, Nat.reduceSub, Nat.reduceMul, Nat.reduceLT, Nat.reduceLeDiff, Nat.reduceEqDiff, Nat.reduceBEq, Nat.reduceBNe, Nat.reducePow, Int.reduceEq, Int.reduceNe, Int.reduceLT, Int.reduceLE, Int.reduceGT, Int.reduceGE, Int.reduceAdd, Int.reduceSub, Int.reduceNeg, Int.reduceMul, not_true_eq_false, not_false_eq_true, true_and, and_true, Int.reduceToNat]
      refine brK_dec (fun he => ?_) (fun he => ?_)
      · rw [if_pos he] at hc
        simp only [go_sem, Nat.reduceAdd, Nat.reduceSub, Nat.reduceMul, Nat.reduceLT, Nat.reduceLeDiff, Nat.reduceEqDiff, Nat.reduceBEq, Nat.reduceBNe, Nat.reducePow, Int.reduceEq, Int.reduceNe, Int.reduceLT, Int.reduceLE, Int.reduceGT, Int.reduceGE, Int.reduceAdd, Int.reduceSub, Int.reduceNeg, Int.reduceMul, not_true_eq_false, not_false_eq_true, true_and, and_true, Int.reduceToNat]
        rw [wrap_in _ (by omega) (by omega)]
        exact loopFrH _ (by omega) ⟨j + 1, by omega, rfl, rfl⟩ (.next rfl (by omega) (.cons (by rw [hc]; simp; omega) .nil)) rfl
      · rw [if_neg he] at hc
        simp only [go_sem, Nat.reduceAdd, Nat.reduceSub, Nat.reduceMul, Nat.reduceLT, Nat.reduceLeDiff, Nat.reduceEqDiff, Nat.reduceBEq, Nat.reduceBNe, Nat.reducePow, Int.reduceEq, Int.reduceNe, Int.reduceLT, Int.reduceLE, Int.reduceGT, Int.reduceGE, Int.reduceAdd, Int.reduceSub, Int.reduceNeg, Int.reduceMul, not_true_eq_false, not_false_eq_true, true_and, and_true, Int.reduceToNat]
        exact loopFrH _ (by omega) ⟨j + 1, by omega, rfl, rfl⟩ (.next rfl (by omega) (.cons (by rw [hc]; rfl) .nil)) rfl
    · have hjl : j = q.Names.length := by omega
      subst hjl
      simp only [go_sem, Nat.reduceAdd, Nat.reduceSub, Nat.reduceMul, Nat.reduceLT, Nat.reduceLeDiff, Nat.reduceEqDiff, Nat.reduceBEq, Nat.reduceBNe, Nat.reducePow, Int.reduceEq, Int.reduceNe, Int.reduceLT, Int.reduceLE, Int.reduceGT, Int.reduceGE, Int.reduceAdd, Int.reduceSub, Int.reduceNeg, Int.reduceMul, not_true_eq_false, not_false_eq_true, true_and, and_true, Int.reduceToNat]
      exact loopFrH _ (by omega) ⟨i + 1, by omega, rfl, rfl⟩ (.next rfl (by omega) (.cons (by rw [hst, List.take_length]; rfl) .nil)) rfl
  · have hik : i = k := by omega
    subst hik
    simp only [go_sem, Nat.reduceAdd, Nat.reduceSub, Nat.reduceMul, Nat.reduceLT, Nat.reduceLeDiff, Nat.reduceEqDiff, Nat.reduceBEq, Nat.reduceBNe, Nat.reducePow, Int.reduceEq, Int.reduceNe, Int.reduceLT, Int.reduceLE, Int.reduceGT, Int.reduceGE, Int.reduceAdd, Int.reduceSub, Int.reduceNeg, Int.reduceMul, not_true_eq_false, not_false_eq_true, true_and, and_true, Int.reduceToNat]
    exact finIq rfl rfl
theorem n143 : (Tryz.f143.name == "runtime.NumGoroutine") = false := by kernel_rfl
theorem part143 (p : DProg) (j : Nat) (n : DNode) (hj : p.Nodes[j]? = some n) (hl : (allV n).length ≤ 60) (e : Ex) : PCall Tryz.prog 143 [p.enc, .i (j : Int), e.enc] (.b (leadsF p (j : Int) n e)) := by
  refine pcall_of_vc tabOK Tryz.func143 n143 rfl (by repeat' first | exact pure_nil | refine pure_cons ?_ ?_ | exact .raw _ | exact pure_enc _ | exact pure_lst _ | exact pure_strs _ | exact pure_ints _ | exact DTy.pure _ | exact DTy.pures _ | exact DEnum.pure _ | exact DEnum.pures _ | exact DDecl.pure _ | exact DDecl.pures _ | exact DEq.pure _ | exact DEq.pures _ | exact DNode.pure _ | exact DNode.pures _ | exact DProg.pure _ | exact DProg.pures _ | exact DCond.pure _ | exact DCond.pures _ | exact DAtom.pure _ | exact DAtom.pures _ | exact DPlain.pure _ | exact DPlain.pures _ | exact DVar.pure _ | exact DVar.pures _ | exact DFlow.pure _ | exact DFlow.pures _ | exact DFlows.pure _ | exact DFlows.pures _ | exact DAsked.pure _ | exact DAsked.pures _ | exact DFault.pure _ | exact DFault.pures _ | exact DCell.pure _ | exact DCell.pures _ | exact DReply.pure _ | exact DReply.pures _ | exact DAsk.pure _ | exact DAsk.pures _ | exact DOp.pure _ | exact DOp.pures _ | exact pure_list (fun x => DDecl.pures x) _ | exact .fn _ _ _ pure_nil pure_nil | refine .agg _ ?_ | refine .tup _ ?_ | assumption) (by repeat' first | exact pure_nil | refine pure_cons ?_ ?_ | exact .raw _ | exact pure_enc _ | exact pure_lst _ | exact pure_strs _ | exact pure_ints _ | exact DTy.pure _ | exact DTy.pures _ | exact DEnum.pure _ | exact DEnum.pures _ | exact DDecl.pure _ | exact DDecl.pures _ | exact DEq.pure _ | exact DEq.pures _ | exact DNode.pure _ | exact DNode.pures _ | exact DProg.pure _ | exact DProg.pures _ | exact DCond.pure _ | exact DCond.pures _ | exact DAtom.pure _ | exact DAtom.pures _ | exact DPlain.pure _ | exact DPlain.pures _ | exact DVar.pure _ | exact DVar.pures _ | exact DFlow.pure _ | exact DFlow.pures _ | exact DFlows.pure _ | exact DFlows.pures _ | exact DAsked.pure _ | exact DAsked.pures _ | exact DFault.pure _ | exact DFault.pures _ | exact DCell.pure _ | exact DCell.pures _ | exact DReply.pure _ | exact DReply.pures _ | exact DAsk.pure _ | exact DAsk.pures _ | exact DOp.pure _ | exact DOp.pures _ | exact pure_list (fun x => DDecl.pures x) _ | exact .fn _ _ _ pure_nil pure_nil | refine .agg _ ?_ | refine .tup _ ?_ | assumption) (n := 74) rfl (rs := [.tmp 6]) rfl ?_
  repeat' first
    | exact finB rfl
    | exact finI rfl
    | exact finP rfl
    | exact absurd rfl (by assumption)
    | simp only [go_sem, Nat.reduceAdd, Nat.reduceSub, Nat.reduceMul, Nat.reduceLT, Nat.reduceLeDiff, Nat.reduceEqDiff, Nat.reduceBEq, Nat.reduceBNe, Nat.reducePow, Int.reduceEq, Int.reduceNe, Int.reduceLT, Int.reduceLE, Int.reduceGT, Int.reduceGE, Int.reduceAdd, Int.reduceSub, Int.reduceNeg, Int.reduceMul, not_true_eq_false, not_false_eq_true, true_and, and_true, Int.reduceToNat]
    | (intro _)
    | refine brK_dec (fun _ => ?_) (fun _ => ?_)
    | refine brK_split (fun hb_ => ?_) (fun hb_ => ?_)
    | refine gK_dec (fun _ => ?_) (fun _ => ?_)
    | refine gK_split (fun hb_ => ?_) (fun hb_ => ?_)
    | refine gqK_dec (fun _ => ?_) (fun _ => ?_)
    | refine ⟨by omega, ?_⟩
    | refine elemHave (by omega) (by assumption) ?_
    | refine elemMap (by omega) (by omega) (fun x hx => ?_)
    | refine drawK mo (by kernel_rfl) ?_
    | (exfalso; omega)
    | (refine elemHave (by omega) hj ?_)
    | (refine PCall.call (is90 n e.name hl) ?_; generalize hix : isF n e.name = b; cases b)
    | (refine pcK_of (armX15 p x) ?_; generalize hax : armOk p.Enums x = b; cases b)
    | (refine PCall.call (armX15 p e.name) ?_)
    | (refine PCall.call (find24 p e.name) ?_)
    | (refine finBq rfl ?_; unfold leadsF; rw [List.all_eq_false.2 ⟨x, List.mem_of_getElem? hx, by simp [hax]⟩]; rfl)
    | (refine finBq rfl ?_; unfold leadsF; rw [if_pos (by omega), hix]; simp; done)
    | (have hall := List.all_eq_true.2 (take_full hpi (by omega)); refine finBq rfl ?_; unfold leadsF; rw [hall]; simp [*]; done)
    | (have hall := List.all_eq_true.2 (take_full hpi (by omega)); refine finBq rfl ?_; unfold leadsF; rw [hall]; simp [*]; omega)
    | exact loopFrH _ (by omega) ⟨i + 1, by omega, rfl, take_all hpi (by simpa using hx) hax, rfl⟩ (.next rfl (by omega) .nil) rfl
    | (refine loop_frH [6, 8, 35, 36, 37, 38, 39, 40, 41, 42, 43, 44, 45, 46, 47, 48, 49] (fun mm_ CC_ => ∃ (i : Nat), i ≤ e.arms.length ∧ mm_ = e.arms.length - i ∧ (∀ s ∈ e.arms.take i, armOk p.Enums s = true) ∧ CC_ = [(8, .raw (.int .i64 ((i : Nat) : Int)))]) (e.arms.length) _ ⟨0, by omega, by omega, by simp, rfl⟩ (.cons rfl .nil) ?_; rintro mm_ CC_ ji ⟨i, hi, rfl, hpi, rfl⟩)
end Go.Proofs.YtipcmpkihhfhcaaGreatDoor

namespace Go.Proofs.YtipcmpkihhfhcaaGreatDoor
open Go.Abs
set_option maxRecDepth 20000
set_option linter.unusedSimpArgs false
set_option linter.unusedVariables false
set_option maxHeartbeats 1000000
attribute [local irreducible] vc vcOps vcStep vcGuard prK hrK gK gsK brK callK ElemK SeqK BlockK ScopeK OpsK CallK LoopK LoopGo finPost ACall PCall PCallE BCall vqOps vqStep vqGuard qrK heK pcK gqK gqsK QOpsK qcallK DrawK
theorem eqErr_n {p : DProg} {a : Int} {n : DNode} {D : List ByteArray} {q : DEq} {E : Int} (h : namesErr n D q.Names = E) (hE : ¬ E = 0) : eqErr p a n D q = E := by
  subst h
  unfold eqErr
  rw [if_neg hE]
theorem eqErr_p {p : DProg} {a : Int} {n : DNode} {D : List ByteArray} {q : DEq} (h : namesErr n D q.Names = 0) {b : Bool} (hb : (parts q.E).all (leadsF p a n) = b) : eqErr p a n D q = if b = true then 0 else 5 := by
  unfold eqErr
  rw [if_pos h, hb]
theorem cnt_no {s : ByteArray} {l : List ByteArray} (h : ¬ ((cntL s l : Nat) : Int) > 0) : s ∉ l := fun hm => by have := cntL_mem hm; omega
theorem cnt_yes {s : ByteArray} {l : List ByteArray} (h : ((cntL s l : Nat) : Int) > 0) : s ∈ l := by
  by_cases q : s ∈ l
  · exact q
  · have := cntL_zero q; omega
theorem not_both {s : ByteArray} {D l : List ByteArray} {k jj : Nat} (h1 : ¬ ((cntL s D : Nat) : Int) > 0) (h2 : ∀ x, l[k]? = some x → x ∉ l.take jj) (hs : l[((k : Nat) : Int).toNat]? = some s) (hk : jj = k) : s ∉ D ++ l.take k := by
  rw [List.mem_append]
  rintro (h | h)
  · exact cnt_no h1 h
  · subst hk; exact h2 s (by simpa using hs) h
theorem n92 : (Tryz.f92.name == "runtime.NumGoroutine") = false := by kernel_rfl
theorem eq92 (p : DProg) (j : Nat) (n : DNode) (hj : p.Nodes[j]? = some n) (hn : okNode n) (i : Nat) (q : DEq) (hq : n.Eqs[i]? = some q) : PCall Tryz.prog 92 [p.enc, .i (j : Int), .i (i : Int)] (.i (eqErr p (j : Int) n ((n.Eqs.take i).flatMap DEq.Names) q)) := by
  have hl := okN_lenX hn
  have hqo := hn.2.2.2.2.2 q (List.mem_of_getElem? hq)
  have hpl := hqo.2.1.1
  have hil : i < n.Eqs.length := (List.getElem?_eq_some_iff.1 hq).1
  generalize hD : (n.Eqs.take i).flatMap DEq.Names = D
  refine pcall_of_vc tabOK Tryz.func92 n92 rfl (by repeat' first | exact pure_nil | refine pure_cons ?_ ?_ | exact .raw _ | exact pure_enc _ | exact pure_lst _ | exact pure_strs _ | exact pure_ints _ | exact DTy.pure _ | exact DTy.pures _ | exact DEnum.pure _ | exact DEnum.pures _ | exact DDecl.pure _ | exact DDecl.pures _ | exact DEq.pure _ | exact DEq.pures _ | exact DNode.pure _ | exact DNode.pures _ | exact DProg.pure _ | exact DProg.pures _ | exact DCond.pure _ | exact DCond.pures _ | exact DAtom.pure _ | exact DAtom.pures _ | exact DPlain.pure _ | exact DPlain.pures _ | exact DVar.pure _ | exact DVar.pures _ | exact DFlow.pure _ | exact DFlow.pures _ | exact DFlows.pure _ | exact DFlows.pures _ | exact DAsked.pure _ | exact DAsked.pures _ | exact DFault.pure _ | exact DFault.pures _ | exact DCell.pure _ | exact DCell.pures _ | exact DReply.pure _ | exact DReply.pures _ | exact DAsk.pure _ | exact DAsk.pures _ | exact DOp.pure _ | exact DOp.pures _ | exact pure_list (fun x => DDecl.pures x) _ | exact .fn _ _ _ pure_nil pure_nil | refine .agg _ ?_ | refine .tup _ ?_ | assumption) (by repeat' first | exact pure_nil | refine pure_cons ?_ ?_ | exact .raw _ | exact pure_enc _ | exact pure_lst _ | exact pure_strs _ | exact pure_ints _ | exact DTy.pure _ | exact DTy.pures _ | exact DEnum.pure _ | exact DEnum.pures _ | exact DDecl.pure _ | exact DDecl.pures _ | exact DEq.pure _ | exact DEq.pures _ | exact DNode.pure _ | exact DNode.pures _ | exact DProg.pure _ | exact DProg.pures _ | exact DCond.pure _ | exact DCond.pures _ | exact DAtom.pure _ | exact DAtom.pures _ | exact DPlain.pure _ | exact DPlain.pures _ | exact DVar.pure _ | exact DVar.pures _ | exact DFlow.pure _ | exact DFlow.pures _ | exact DFlows.pure _ | exact DFlows.pures _ | exact DAsked.pure _ | exact DAsked.pures _ | exact DFault.pure _ | exact DFault.pures _ | exact DCell.pure _ | exact DCell.pures _ | exact DReply.pure _ | exact DReply.pures _ | exact DAsk.pure _ | exact DAsk.pures _ | exact DOp.pure _ | exact DOp.pures _ | exact pure_list (fun x => DDecl.pures x) _ | exact .fn _ _ _ pure_nil pure_nil | refine .agg _ ?_ | refine .tup _ ?_ | assumption) (n := 89) rfl (rs := [.tmp 6]) rfl ?_
  repeat' first
    | exact finB rfl
    | exact finI rfl
    | exact finP rfl
    | exact absurd rfl (by assumption)
    | simp only [go_sem, Nat.reduceAdd, Nat.reduceSub, Nat.reduceMul, Nat.reduceLT, Nat.reduceLeDiff, Nat.reduceEqDiff, Nat.reduceBEq, Nat.reduceBNe, Nat.reducePow, Int.reduceEq, Int.reduceNe, Int.reduceLT, Int.reduceLE, Int.reduceGT, Int.reduceGE, Int.reduceAdd, Int.reduceSub, Int.reduceNeg, Int.reduceMul, not_true_eq_false, not_false_eq_true, true_and, and_true, Int.reduceToNat]
    | (intro _)
    | refine brK_dec (fun _ => ?_) (fun _ => ?_)
    | refine brK_split (fun hb_ => ?_) (fun hb_ => ?_)
    | refine gK_dec (fun _ => ?_) (fun _ => ?_)
    | refine gK_split (fun hb_ => ?_) (fun hb_ => ?_)
    | refine gqK_dec (fun _ => ?_) (fun _ => ?_)
    | refine ⟨by omega, ?_⟩
    | refine elemHave (by omega) (by assumption) ?_
    | ((fail_if_success (clear hy)); refine elemMap (by omega) (by omega) (fun y hy => ?_))
    | refine elemMap (by omega) (by omega) (fun x hx => ?_)
    | refine drawK mo (by kernel_rfl) ?_
    | (exfalso; omega)
    | (refine elemHave (by omega) hj ?_)
    | (refine elemHave (by omega) hq ?_)
    | (refine PCall.call (parts_spec q.E (by omega)) ?_)
    | (refine pcK_of (is90 n y hl) ?_; generalize hiy : isF n y = b; cases b)
    | (refine pcK_of (input142 n y) ?_; generalize hny : inF n y = b; cases b)
    | (refine pcK_of (defined93 n hn y i (by omega)) ?_; rw [hD])
    | (refine pcK_of (part143 p j n hj hl y) ?_; generalize hpy : leadsF p (j : Int) n y = b; cases b)
    | (have e5 := names_5 hpk hy hiy; exact finIq rfl ((eqErr_n rfl (by omega)).trans e5).symm)
    | (have e6 := names_6 hpk hy hiy (.inl hny); exact finIq rfl ((eqErr_n rfl (by omega)).trans e6).symm)
    | (have e6 := names_6 hpk hy hiy (.inr (List.mem_append_left _ (cnt_yes (by assumption)))); exact finIq rfl ((eqErr_n rfl (by omega)).trans e6).symm)
    | (have e6 := names_6 hpk hy hiy (.inr (List.mem_append_right _ (mem_take hx (by omega) (by assumption)))); exact finIq rfl ((eqErr_n rfl (by omega)).trans e6).symm)
    | (have e0 := names_0 hpk (by omega); exact finIq rfl (eqErr_p e0 (List.all_eq_false.2 ⟨y, List.mem_of_getElem? hy, by simp [hpy]⟩)).symm)
    | (have e0 := names_0 hpk (by omega); exact finIq rfl (eqErr_p e0 (List.all_eq_true.2 (take_full hpm (by omega)))).symm)
    | exact loopFrH _ (by omega) ⟨k + 1, by omega, rfl, names_next hpk hy hiy hny (not_both (by assumption) hpjj hy (by omega)), rfl⟩ (.next rfl (by omega) .nil) rfl
    | (refine loop_frH [6, 9, 10, 23, 24, 25, 26, 27, 28, 29, 30, 31, 32, 33, 34, 35, 36, 37, 38, 39, 40, 41, 42, 43, 44, 45, 46, 47, 48, 49, 50, 51, 52, 53, 54, 55, 56, 57, 58, 59, 60, 61, 62, 63, 64, 65, 66, 67, 68, 69, 70, 71] (fun mm_ CC_ => ∃ (k : Nat), k ≤ q.Names.length ∧ mm_ = q.Names.length - k ∧ (namesErr n (D ++ q.Names.take k) (q.Names.drop k) = namesErr n D q.Names) ∧ CC_ = [(9, .raw (.int .i64 ((k : Nat) : Int)))]) (q.Names.length) _ ⟨0, by omega, by omega, by simp, rfl⟩ (.cons rfl .nil) ?_; rintro mm_ CC_ jk ⟨k, hk, rfl, hpk, rfl⟩)
    | exact loopFrH _ (by omega) ⟨jj + 1, by omega, rfl, ostep hpjj hy hx (by assumption), rfl⟩ (.next rfl (by omega) .nil) rfl
    | (refine loop_frH [6, 10, 56, 57, 58, 59, 60, 61, 62, 63, 64, 65, 66, 67, 68, 69, 70, 71] (fun mm_ CC_ => ∃ (jj : Nat), jj ≤ k ∧ mm_ = k - jj ∧ (∀ x, q.Names[k]? = some x → x ∉ q.Names.take jj) ∧ CC_ = [(10, .raw (.int .i64 ((jj : Nat) : Int)))]) (k) _ ⟨0, by omega, by omega, by simp, rfl⟩ (.cons rfl .nil) ?_; rintro mm_ CC_ jjj ⟨jj, hjj, rfl, hpjj, rfl⟩)
    | exact loopFrH _ (by omega) ⟨m + 1, by omega, rfl, take_all hpm (by simpa using hy) hpy, rfl⟩ (.next rfl (by omega) .nil) rfl
    | (refine loop_frH [6, 12, 75, 76, 77, 78, 79, 80, 81, 82, 83, 84, 85, 86, 87, 88] (fun mm_ CC_ => ∃ (m : Nat), m ≤ (parts q.E).length ∧ mm_ = (parts q.E).length - m ∧ (∀ z ∈ (parts q.E).take m, leadsF p (j : Int) n z = true) ∧ CC_ = [(12, .raw (.int .i64 ((m : Nat) : Int)))]) ((parts q.E).length) _ ⟨0, by omega, by omega, by simp, rfl⟩ (.cons rfl .nil) ?_; rintro mm_ CC_ jm ⟨m, hm, rfl, hpm, rfl⟩)
end Go.Proofs.YtipcmpkihhfhcaaGreatDoor

namespace Go.Proofs.YtipcmpkihhfhcaaGreatDoor
open Go.Abs
set_option maxRecDepth 20000
set_option linter.unusedSimpArgs false
set_option linter.unusedVariables false
set_option maxHeartbeats 1000000
attribute [local irreducible] vc vcOps vcStep vcGuard prK hrK gK gsK brK callK ElemK SeqK BlockK ScopeK OpsK CallK LoopK LoopGo finPost ACall PCall PCallE BCall vqOps vqStep vqGuard qrK heK pcK gqK gqsK QOpsK qcallK DrawK
theorem n47 : (Tryz.f47.name == "runtime.NumGoroutine") = false := by kernel_rfl
theorem fault47 (a b c : Int) : PCall Tryz.prog 47 [.i a, .i b, .i c] (DFault.enc ⟨a, b, c⟩) := by
  refine pcall_of_vc tabOK Tryz.func47 n47 rfl (by repeat' first | exact pure_nil | refine pure_cons ?_ ?_ | exact .raw _ | exact pure_enc _ | exact pure_lst _ | exact pure_strs _ | exact pure_ints _ | exact DTy.pure _ | exact DTy.pures _ | exact DEnum.pure _ | exact DEnum.pures _ | exact DDecl.pure _ | exact DDecl.pures _ | exact DEq.pure _ | exact DEq.pures _ | exact DNode.pure _ | exact DNode.pures _ | exact DProg.pure _ | exact DProg.pures _ | exact DCond.pure _ | exact DCond.pures _ | exact DAtom.pure _ | exact DAtom.pures _ | exact DPlain.pure _ | exact DPlain.pures _ | exact DVar.pure _ | exact DVar.pures _ | exact DFlow.pure _ | exact DFlow.pures _ | exact DFlows.pure _ | exact DFlows.pures _ | exact DAsked.pure _ | exact DAsked.pures _ | exact DFault.pure _ | exact DFault.pures _ | exact DCell.pure _ | exact DCell.pures _ | exact DReply.pure _ | exact DReply.pures _ | exact DAsk.pure _ | exact DAsk.pures _ | exact DOp.pure _ | exact DOp.pures _ | exact pure_list (fun x => DDecl.pures x) _ | exact .fn _ _ _ pure_nil pure_nil | refine .agg _ ?_ | refine .tup _ ?_ | assumption) (by repeat' first | exact pure_nil | refine pure_cons ?_ ?_ | exact .raw _ | exact pure_enc _ | exact pure_lst _ | exact pure_strs _ | exact pure_ints _ | exact DTy.pure _ | exact DTy.pures _ | exact DEnum.pure _ | exact DEnum.pures _ | exact DDecl.pure _ | exact DDecl.pures _ | exact DEq.pure _ | exact DEq.pures _ | exact DNode.pure _ | exact DNode.pures _ | exact DProg.pure _ | exact DProg.pures _ | exact DCond.pure _ | exact DCond.pures _ | exact DAtom.pure _ | exact DAtom.pures _ | exact DPlain.pure _ | exact DPlain.pures _ | exact DVar.pure _ | exact DVar.pures _ | exact DFlow.pure _ | exact DFlow.pures _ | exact DFlows.pure _ | exact DFlows.pures _ | exact DAsked.pure _ | exact DAsked.pures _ | exact DFault.pure _ | exact DFault.pures _ | exact DCell.pure _ | exact DCell.pures _ | exact DReply.pure _ | exact DReply.pures _ | exact DAsk.pure _ | exact DAsk.pures _ | exact DOp.pure _ | exact DOp.pures _ | exact pure_list (fun x => DDecl.pures x) _ | exact .fn _ _ _ pure_nil pure_nil | refine .agg _ ?_ | refine .tup _ ?_ | assumption) (n := 11) rfl (rs := [.cell 6 33]) rfl ?_
  simp only [go_sem, Nat.reduceAdd, Nat.reduceSub, Nat.reduceMul, Nat.reduceLT, Nat.reduceLeDiff, Nat.reduceEqDiff, Nat.reduceBEq, Nat.reduceBNe, Nat.reducePow, Int.reduceEq, Int.reduceNe, Int.reduceLT, Int.reduceLE, Int.reduceGT, Int.reduceGE, Int.reduceAdd, Int.reduceSub, Int.reduceNeg, Int.reduceMul, not_true_eq_false, not_false_eq_true, true_and, and_true, Int.reduceToNat]
  rw [DFault.enc_eq]
  exact ⟨_, rfl, false, .refl _⟩
theorem faultX_err {p : DProg} {a : Int} {n : DNode} (h : (allV n).all (clockedF p.Enums n) = false) : nodeFault p a n = ⟨a, -1, 5⟩ := by unfold nodeFault; rw [if_neg (by rw [h]; simp)]
theorem faultX_eq {p : DProg} {a : Int} {n : DNode} {e : Int × Int} (h : (allV n).all (clockedF p.Enums n) = true) (he : eqsErr p a n 0 [] n.Eqs = e) (h2 : ¬ e.2 = 0) : nodeFault p a n = ⟨a, e.1, e.2⟩ := by unfold nodeFault; rw [if_pos h, he, if_neg h2]
theorem faultX_def {p : DProg} {a : Int} {n : DNode} {e : Int × Int} (h : (allV n).all (clockedF p.Enums n) = true) (he : eqsErr p a n 0 [] n.Eqs = e) (h2 : e.2 = 0) {b : Bool} (hb : allDef n = b) : nodeFault p a n = if b = true then ⟨0, 0, 0⟩ else ⟨a, -1, 5⟩ := by unfold nodeFault; rw [if_pos h, he, if_pos h2, hb]
theorem clk_no {L : List DEnum} {n : DNode} {d : DDecl} (h1 : ¬ d.On = ⟨#[]⟩) (h2 : isF n d.On = false ∨ armOk L d.Ctor = false) : clockedF L n d = false := by
  unfold clockedF
  rw [decide_eq_false h1]
  rcases h2 with h2 | h2 <;> simp [h2]
theorem clk_yes {L : List DEnum} {n : DNode} {d : DDecl} (h2 : d.On = ⟨#[]⟩ ∨ (isF n d.On = true ∧ armOk L d.Ctor = true)) : clockedF L n d = true := by
  unfold clockedF
  rcases h2 with h2 | h2
  · rw [decide_eq_true h2]; rfl
  · simp [h2.1, h2.2]
theorem rest_at {n : DNode} {i : Nat} {d : DDecl} (h : (allV n)[i]? = some d) (hi : n.Ins.length ≤ i) : (n.Outs ++ n.Vars)[i - n.Ins.length]? = some d := by
  have e : allV n = n.Ins ++ (n.Outs ++ n.Vars) := by simp [allV]
  rw [e, List.getElem?_append_right hi] at h
  exact h
theorem n50 : (Tryz.f50.name == "runtime.NumGoroutine") = false := by kernel_rfl
theorem node50 (p : DProg) (j : Nat) (n : DNode) (hj : p.Nodes[j]? = some n) (hn : okNode n) : PCall Tryz.prog 50 [p.enc, .i (j : Int)] (nodeFault p (j : Int) n).enc := by
  have hl := okN_lenX hn
  have h4 := hn.2.2.2.1
  have hlen : (allV n).length = n.Ins.length + (n.Outs ++ n.Vars).length := by simp [allV]
  refine pcall_of_vc tabOK Tryz.func50 n50 rfl (by repeat' first | exact pure_nil | refine pure_cons ?_ ?_ | exact .raw _ | exact pure_enc _ | exact pure_lst _ | exact pure_strs _ | exact pure_ints _ | exact DTy.pure _ | exact DTy.pures _ | exact DEnum.pure _ | exact DEnum.pures _ | exact DDecl.pure _ | exact DDecl.pures _ | exact DEq.pure _ | exact DEq.pures _ | exact DNode.pure _ | exact DNode.pures _ | exact DProg.pure _ | exact DProg.pures _ | exact DCond.pure _ | exact DCond.pures _ | exact DAtom.pure _ | exact DAtom.pures _ | exact DPlain.pure _ | exact DPlain.pures _ | exact DVar.pure _ | exact DVar.pures _ | exact DFlow.pure _ | exact DFlow.pures _ | exact DFlows.pure _ | exact DFlows.pures _ | exact DAsked.pure _ | exact DAsked.pures _ | exact DFault.pure _ | exact DFault.pures _ | exact DCell.pure _ | exact DCell.pures _ | exact DReply.pure _ | exact DReply.pures _ | exact DAsk.pure _ | exact DAsk.pures _ | exact DOp.pure _ | exact DOp.pures _ | exact pure_list (fun x => DDecl.pures x) _ | exact .fn _ _ _ pure_nil pure_nil | refine .agg _ ?_ | refine .tup _ ?_ | assumption) (by repeat' first | exact pure_nil | refine pure_cons ?_ ?_ | exact .raw _ | exact pure_enc _ | exact pure_lst _ | exact pure_strs _ | exact pure_ints _ | exact DTy.pure _ | exact DTy.pures _ | exact DEnum.pure _ | exact DEnum.pures _ | exact DDecl.pure _ | exact DDecl.pures _ | exact DEq.pure _ | exact DEq.pures _ | exact DNode.pure _ | exact DNode.pures _ | exact DProg.pure _ | exact DProg.pures _ | exact DCond.pure _ | exact DCond.pures _ | exact DAtom.pure _ | exact DAtom.pures _ | exact DPlain.pure _ | exact DPlain.pures _ | exact DVar.pure _ | exact DVar.pures _ | exact DFlow.pure _ | exact DFlow.pures _ | exact DFlows.pure _ | exact DFlows.pures _ | exact DAsked.pure _ | exact DAsked.pures _ | exact DFault.pure _ | exact DFault.pures _ | exact DCell.pure _ | exact DCell.pures _ | exact DReply.pure _ | exact DReply.pures _ | exact DAsk.pure _ | exact DAsk.pures _ | exact DOp.pure _ | exact DOp.pures _ | exact pure_list (fun x => DDecl.pures x) _ | exact .fn _ _ _ pure_nil pure_nil | refine .agg _ ?_ | refine .tup _ ?_ | assumption) (n := 92) rfl (rs := [.cell 4 33]) rfl ?_
  simp only [go_sem, Nat.reduceAdd, Nat.reduceSub, Nat.reduceMul, Nat.reduceLT, Nat.reduceLeDiff, Nat.reduceEqDiff, Nat.reduceBEq, Nat.reduceBNe, Nat.reducePow, Int.reduceEq, Int.reduceNe, Int.reduceLT, Int.reduceLE, Int.reduceGT, Int.reduceGE, Int.reduceAdd, Int.reduceSub, Int.reduceNeg, Int.reduceMul, not_true_eq_false, not_false_eq_true, true_and, and_true, Int.reduceToNat]
  refine elemHave (by omega) hj ?_
  simp only [go_sem, Nat.reduceAdd, Nat.reduceSub, Nat.reduceMul, Nat.reduceLT, Nat.reduceLeDiff, Nat.reduceEqDiff, Nat.reduceBEq, Nat.reduceBNe, Nat.reducePow, Int.reduceEq, Int.reduceNe, Int.reduceLT, Int.reduceLE, Int.reduceGT, Int.reduceGE, Int.reduceAdd, Int.reduceSub, Int.reduceNeg, Int.reduceMul, not_true_eq_false, not_false_eq_true, true_and, and_true, Int.reduceToNat]
  refine PCall.call (all66 n (by omega)) ?_
  simp only [go_sem, Nat.reduceAdd, Nat.reduceSub, Nat.reduceMul, Nat.reduceLT, Nat.reduceLeDiff, Nat.reduceEqDiff, Nat.reduceBEq, Nat.reduceBNe, Nat.reducePow, Int.reduceEq, Int.reduceNe, Int.reduceLT, Int.reduceLE, Int.reduceGT, Int.reduceGE, Int.reduceAdd, Int.reduceSub, Int.reduceNeg, Int.reduceMul, not_true_eq_false, not_false_eq_true, true_and, and_true, Int.reduceToNat]
  refine loop_frH [7, 18, 19, 20, 21, 22, 23, 24, 25, 26, 27, 28, 29, 30, 31, 32, 33, 34, 35, 36, 37, 38, 39, 40, 41, 42, 43, 44, 45, 46, 47, 48, 49, 50, 51] (fun m C => ∃ i : Nat, i ≤ (allV n).length ∧ m = (allV n).length - i ∧ (∀ d ∈ (allV n).take i, clockedF p.Enums n d = true) ∧ C = [(7, .raw (.int .i64 (i : Nat)))]) (allV n).length _ ⟨0, by omega, by omega, by simp, rfl⟩ (.cons rfl .nil) ?_
  rintro m C ja ⟨i, hi, rfl, hp, rfl⟩
  simp only [go_sem, Nat.reduceAdd, Nat.reduceSub, Nat.reduceMul, Nat.reduceLT, Nat.reduceLeDiff, Nat.reduceEqDiff, Nat.reduceBEq, Nat.reduceBNe, Nat.reducePow, Int.reduceEq, Int.reduceNe, Int.reduceLT, Int.reduceLE, Int.reduceGT, Int.reduceGE, Int.reduceAdd, Int.reduceSub, Int.reduceNeg, Int.reduceMul, not_true_eq_false, not_false_eq_true, true_and, and_true, Int.reduceToNat]
  intro _
  refine brK_dec (fun hlt => ?_) (fun hge => ?_)
  · obtain ⟨d, hd⟩ : ∃ d, (allV n)[i]? = some d := ⟨_, List.getElem?_eq_getElem (by omega)⟩
    repeat' first
      | (exfalso; omega)
      | simp only [go_sem, Nat.reduceAdd, Nat.reduceSub, Nat.reduceMul, Nat.reduceLT, Nat.reduceLeDiff, Nat.reduceEqDiff, Nat.reduceBEq, Nat.reduceBNe, Nat.reducePow, Int.reduceEq, Int.reduceNe, Int.reduceLT, Int.reduceLE, Int.reduceGT, Int.reduceGE, Int.reduceAdd, Int.reduceSub, Int.reduceNeg, Int.reduceMul, not_true_eq_false, not_false_eq_true, true_and, and_true, Int.reduceToNat]
      | (intro _)
      | refine brK_dec (fun _ => ?_) (fun _ => ?_)
      | refine gqK_dec (fun _ => ?_) (fun _ => ?_)
      | refine elemHave (by omega) hd ?_
      | refine drawK mo (by kernel_rfl) ?_
      | (refine pcK_of (is90 n d.On hl) ?_; generalize hix : isF n d.On = b; cases b)
      | (refine pcK_of (armX15 p d.Ctor) ?_; generalize hax : armOk p.Enums d.Ctor = b; cases b)
      | (refine PCall.call (fault47 _ _ _) ?_)
      | (have hz : ¬ d.On = ⟨#[]⟩ := (by assumption); have hc := clk_no (L := p.Enums) (n := n) (d := d) hz (.inl hix); rw [faultX_err (List.all_eq_false.2 ⟨d, List.mem_of_getElem? hd, by simp [hc]⟩)]; exact ⟨_, rfl, false, by rw [DFault.enc_eq]; exact .refl _⟩)
      | (have hz : ¬ d.On = ⟨#[]⟩ := (by assumption); have hc := clk_no (L := p.Enums) (n := n) (d := d) hz (.inr hax); rw [faultX_err (List.all_eq_false.2 ⟨d, List.mem_of_getElem? hd, by simp [hc]⟩)]; exact ⟨_, rfl, false, by rw [DFault.enc_eq]; exact .refl _⟩)
      | (have hc := clk_yes (L := p.Enums) (n := n) (d := d) (.inr ⟨hix, hax⟩); exact loopFrH _ (by omega) ⟨i + 1, by omega, rfl, take_all hp hd hc, rfl⟩ (.next rfl (by omega) .nil) rfl)
      | (have hz : d.On = ⟨#[]⟩ := (by first | assumption | exact Classical.not_not.1 (by assumption)); have hc := clk_yes (L := p.Enums) (n := n) (d := d) (.inl hz); exact loopFrH _ (by omega) ⟨i + 1, by omega, rfl, take_all hp hd hc, rfl⟩ (.next rfl (by omega) .nil) rfl)
  · have hcl : (allV n).all (clockedF p.Enums n) = true := List.all_eq_true.2 (take_full hp (by omega))
    generalize hE : eqsErr p (j : Int) n 0 [] n.Eqs = E
    simp only [go_sem, Nat.reduceAdd, Nat.reduceSub, Nat.reduceMul, Nat.reduceLT, Nat.reduceLeDiff, Nat.reduceEqDiff, Nat.reduceBEq, Nat.reduceBNe, Nat.reducePow, Int.reduceEq, Int.reduceNe, Int.reduceLT, Int.reduceLE, Int.reduceGT, Int.reduceGE, Int.reduceAdd, Int.reduceSub, Int.reduceNeg, Int.reduceMul, not_true_eq_false, not_false_eq_true, true_and, and_true, Int.reduceToNat]
    refine loop_frH [8, 9, 52, 53, 54, 55, 56, 57, 58, 59, 60, 61, 62, 63, 64, 65, 66, 67, 68] (fun m C => ∃ i : Nat, i ≤ n.Eqs.length ∧ m = n.Eqs.length - i ∧ eqsErr p (j : Int) n i ((n.Eqs.take i).flatMap DEq.Names) (n.Eqs.drop i) = E ∧ C = [(8, .raw (.int .i64 (i : Nat)))]) n.Eqs.length _ ⟨0, by omega, by omega, by simpa using hE, rfl⟩ (.cons rfl .nil) ?_
    rintro m C jb ⟨i2, hi2, rfl, hE', rfl⟩
    simp only [go_sem, Nat.reduceAdd, Nat.reduceSub, Nat.reduceMul, Nat.reduceLT, Nat.reduceLeDiff, Nat.reduceEqDiff, Nat.reduceBEq, Nat.reduceBNe, Nat.reducePow, Int.reduceEq, Int.reduceNe, Int.reduceLT, Int.reduceLE, Int.reduceGT, Int.reduceGE, Int.reduceAdd, Int.reduceSub, Int.reduceNeg, Int.reduceMul, not_true_eq_false, not_false_eq_true, true_and, and_true, Int.reduceToNat]
    intro _
    refine brK_dec (fun hlt => ?_) (fun hge2 => ?_)
    · obtain ⟨q, hq⟩ : ∃ q, n.Eqs[i2]? = some q := ⟨_, List.getElem?_eq_getElem (by omega)⟩
      simp only [go_sem, Nat.reduceAdd, Nat.reduceSub, Nat.reduceMul, Nat.reduceLT, Nat.reduceLeDiff, Nat.reduceEqDiff, Nat.reduceBEq, Nat.reduceBNe, Nat.reducePow, Int.reduceEq, Int.reduceNe, Int.reduceLT, Int.reduceLE, Int.reduceGT, Int.reduceGE, Int.reduceAdd, Int.reduceSub, Int.reduceNeg, Int.reduceMul, not_true_eq_false, not_false_eq_true, true_and, and_true, Int.reduceToNat]
      refine PCall.call (eq92 p j n hj hn i2 q hq) ?_
      by_cases he : eqErr p (j : Int) n ((n.Eqs.take i2).flatMap DEq.Names) q = 0
      · have hE1 := eqs_next hE' (by simpa using hq) he
        rw [he]
        simp only [go_sem, Nat.reduceAdd, Nat.reduceSub, Nat.reduceMul, Nat.reduceLT, Nat.reduceLeDiff, Nat.reduceEqDiff, Nat.reduceBEq, Nat.reduceBNe, Nat.reducePow, Int.reduceEq, Int.reduceNe, Int.reduceLT, Int.reduceLE, Int.reduceGT, Int.reduceGE, Int.reduceAdd, Int.reduceSub, Int.reduceNeg, Int.reduceMul, not_true_eq_false, not_false_eq_true, true_and, and_true, Int.reduceToNat]
        exact loopFrH _ (by omega) ⟨i2 + 1, by omega, rfl, hE1, rfl⟩ (.next rfl (by omega) .nil) rfl
      · have hE1 := eqs_at hE' (by simpa using hq) he
        rw [faultX_eq hcl hE (by rw [hE1]; exact he), hE1]
        generalize eqErr p (j : Int) n ((n.Eqs.take i2).flatMap DEq.Names) q = ee at he
        simp only [go_sem, Nat.reduceAdd, Nat.reduceSub, Nat.reduceMul, Nat.reduceLT, Nat.reduceLeDiff, Nat.reduceEqDiff, Nat.reduceBEq, Nat.reduceBNe, Nat.reducePow, Int.reduceEq, Int.reduceNe, Int.reduceLT, Int.reduceLE, Int.reduceGT, Int.reduceGE, Int.reduceAdd, Int.reduceSub, Int.reduceNeg, Int.reduceMul, not_true_eq_false, not_false_eq_true, true_and, and_true, Int.reduceToNat]
        refine brK_dec (fun _ => ?_) (fun hq => absurd he hq)
        simp only [go_sem, Nat.reduceAdd, Nat.reduceSub, Nat.reduceMul, Nat.reduceLT, Nat.reduceLeDiff, Nat.reduceEqDiff, Nat.reduceBEq, Nat.reduceBNe, Nat.reducePow, Int.reduceEq, Int.reduceNe, Int.reduceLT, Int.reduceLE, Int.reduceGT, Int.reduceGE, Int.reduceAdd, Int.reduceSub, Int.reduceNeg, Int.reduceMul, not_true_eq_false, not_false_eq_true, true_and, and_true, Int.reduceToNat]
        refine PCall.call (fault47 _ _ _) ?_
        simp only [go_sem, Nat.reduceAdd, Nat.reduceSub, Nat.reduceMul, Nat.reduceLT, Nat.reduceLeDiff, Nat.reduceEqDiff, Nat.reduceBEq, Nat.reduceBNe, Nat.reducePow, Int.reduceEq, Int.reduceNe, Int.reduceLT, Int.reduceLE, Int.reduceGT, Int.reduceGE, Int.reduceAdd, Int.reduceSub, Int.reduceNeg, Int.reduceMul, not_true_eq_false, not_false_eq_true, true_and, and_true, Int.reduceToNat]
        exact ⟨_, rfl, false, by rw [DFault.enc_eq]; exact .refl _⟩
    · have hE1 := eqs_0 hE' (by omega)
      generalize hb : allDef n = b
      rw [faultX_def hcl hE (by rw [hE1]) hb]
      simp only [go_sem, Nat.reduceAdd, Nat.reduceSub, Nat.reduceMul, Nat.reduceLT, Nat.reduceLeDiff, Nat.reduceEqDiff, Nat.reduceBEq, Nat.reduceBNe, Nat.reducePow, Int.reduceEq, Int.reduceNe, Int.reduceLT, Int.reduceLE, Int.reduceGT, Int.reduceGE, Int.reduceAdd, Int.reduceSub, Int.reduceNeg, Int.reduceMul, not_true_eq_false, not_false_eq_true, true_and, and_true, Int.reduceToNat]
      intro _
      refine loop_frH [10, 72, 73, 74, 75, 76, 77, 78, 79, 80, 81, 82, 83, 84, 85, 86, 87, 88, 89, 90] (fun m C => ∃ i : Nat, n.Ins.length ≤ i ∧ i ≤ (allV n).length ∧ m = (allV n).length - i ∧ (∀ d ∈ (n.Outs ++ n.Vars).take (i - n.Ins.length), memB d.Name (n.Eqs.flatMap DEq.Names) = true) ∧ C = [(10, .raw (.int .i64 (i : Nat)))]) ((allV n).length - n.Ins.length) _ ⟨n.Ins.length, by omega, by omega, rfl, by simp, rfl⟩ (.cons rfl .nil) ?_
      rintro m C jc ⟨i3, hi3, hi3', rfl, hp3, rfl⟩
      simp only [go_sem, Nat.reduceAdd, Nat.reduceSub, Nat.reduceMul, Nat.reduceLT, Nat.reduceLeDiff, Nat.reduceEqDiff, Nat.reduceBEq, Nat.reduceBNe, Nat.reducePow, Int.reduceEq, Int.reduceNe, Int.reduceLT, Int.reduceLE, Int.reduceGT, Int.reduceGE, Int.reduceAdd, Int.reduceSub, Int.reduceNeg, Int.reduceMul, not_true_eq_false, not_false_eq_true, true_and, and_true, Int.reduceToNat]
      intro _
      refine brK_dec (fun hlt => ?_) (fun hge3 => ?_)
      · obtain ⟨d, hd⟩ : ∃ d, (allV n)[i3]? = some d := ⟨_, List.getElem?_eq_getElem (by omega)⟩
        have hd2 := rest_at hd hi3
        simp only [go_sem, Nat.reduceAdd, Nat.reduceSub, Nat.reduceMul, Nat.reduceLT, Nat.reduceLeDiff, Nat.reduceEqDiff, Nat.reduceBEq, Nat.reduceBNe, Nat.reducePow, Int.reduceEq, Int.reduceNe, Int.reduceLT, Int.reduceLE, Int.reduceGT, Int.reduceGE, Int.reduceAdd, Int.reduceSub, Int.reduceNeg, Int.reduceMul, not_true_eq_false, not_false_eq_true, true_and, and_true, Int.reduceToNat]
        refine drawK mo (by kernel_rfl) ?_
        simp only [go_sem, Nat.reduceAdd, Nat.reduceSub, Nat.reduceMul, Nat.reduceLT, Nat.reduceLeDiff, Nat.reduceEqDiff, Nat.reduceBEq, Nat.reduceBNe, Nat.reducePow, Int.reduceEq, Int.reduceNe, Int.reduceLT, Int.reduceLE, Int.reduceGT, Int.reduceGE, Int.reduceAdd, Int.reduceSub, Int.reduceNeg, Int.reduceMul, not_true_eq_false, not_false_eq_true, true_and, and_true, Int.reduceToNat]
        refine elemHave (by omega) hd ?_
        simp only [go_sem, Nat.reduceAdd, Nat.reduceSub, Nat.reduceMul, Nat.reduceLT, Nat.reduceLeDiff, Nat.reduceEqDiff, Nat.reduceBEq, Nat.reduceBNe, Nat.reducePow, Int.reduceEq, Int.reduceNe, Int.reduceLT, Int.reduceLE, Int.reduceGT, Int.reduceGE, Int.reduceAdd, Int.reduceSub, Int.reduceNeg, Int.reduceMul, not_true_eq_false, not_false_eq_true, true_and, and_true, Int.reduceToNat]
        refine pcK_of (defined93 n hn d.Name n.Eqs.length (Nat.le_refl _)) ?_
        rw [List.take_length]
        simp only [go_sem, Nat.reduceAdd, Nat.reduceSub, Nat.reduceMul, Nat.reduceLT, Nat.reduceLeDiff, Nat.reduceEqDiff, Nat.reduceBEq, Nat.reduceBNe, Nat.reducePow, Int.reduceEq, Int.reduceNe, Int.reduceLT, Int.reduceLE, Int.reduceGT, Int.reduceGE, Int.reduceAdd, Int.reduceSub, Int.reduceNeg, Int.reduceMul, not_true_eq_false, not_false_eq_true, true_and, and_true, Int.reduceToNat]
        refine brK_dec (fun hz => ?_) (fun hz => ?_)
        · have hno : memB d.Name (n.Eqs.flatMap DEq.Names) = false := by
            cases hm : memB d.Name (n.Eqs.flatMap DEq.Names) with
            | false => rfl
            | true => have := cntL_mem (memB_iff.1 hm); exfalso; omega
          have hbf : b = false := by rw [← hb]; unfold allDef; exact List.all_eq_false.2 ⟨d, List.mem_of_getElem? hd2, by simp [hno]⟩
          rw [hbf, if_neg (by simp)]
          simp only [go_sem, Nat.reduceAdd, Nat.reduceSub, Nat.reduceMul, Nat.reduceLT, Nat.reduceLeDiff, Nat.reduceEqDiff, Nat.reduceBEq, Nat.reduceBNe, Nat.reducePow, Int.reduceEq, Int.reduceNe, Int.reduceLT, Int.reduceLE, Int.reduceGT, Int.reduceGE, Int.reduceAdd, Int.reduceSub, Int.reduceNeg, Int.reduceMul, not_true_eq_false, not_false_eq_true, true_and, and_true, Int.reduceToNat]
          refine PCall.call (fault47 _ _ _) ?_
          simp only [go_sem, Nat.reduceAdd, Nat.reduceSub, Nat.reduceMul, Nat.reduceLT, Nat.reduceLeDiff, Nat.reduceEqDiff, Nat.reduceBEq, Nat.reduceBNe, Nat.reducePow, Int.reduceEq, Int.reduceNe, Int.reduceLT, Int.reduceLE, Int.reduceGT, Int.reduceGE, Int.reduceAdd, Int.reduceSub, Int.reduceNeg, Int.reduceMul, not_true_eq_false, not_false_eq_true, true_and, and_true, Int.reduceToNat]
          exact ⟨_, rfl, false, by rw [DFault.enc_eq]; exact .refl _⟩
        · have hyes : memB d.Name (n.Eqs.flatMap DEq.Names) = true := by
            cases hm : memB d.Name (n.Eqs.flatMap DEq.Names) with
            | true => rfl
            | false =>
              have hnm : d.Name ∉ n.Eqs.flatMap DEq.Names := fun h => by rw [memB_iff.2 h] at hm; exact Bool.noConfusion hm
              exact absurd (by have := cntL_zero hnm; omega) hz
          simp only [go_sem, Nat.reduceAdd, Nat.reduceSub, Nat.reduceMul, Nat.reduceLT, Nat.reduceLeDiff, Nat.reduceEqDiff, Nat.reduceBEq, Nat.reduceBNe, Nat.reducePow, Int.reduceEq, Int.reduceNe, Int.reduceLT, Int.reduceLE, Int.reduceGT, Int.reduceGE, Int.reduceAdd, Int.reduceSub, Int.reduceNeg, Int.reduceMul, not_true_eq_false, not_false_eq_true, true_and, and_true, Int.reduceToNat]
          exact loopFrH _ (by omega) ⟨i3 + 1, by omega, by omega, rfl, by rw [show i3 + 1 - n.Ins.length = (i3 - n.Ins.length) + 1 by omega]; exact take_all hp3 hd2 hyes, rfl⟩ (.next rfl (by omega) .nil) rfl
      · have hbt : b = true := by rw [← hb]; unfold allDef; exact List.all_eq_true.2 (take_full hp3 (by omega))
        rw [hbt, if_pos rfl]
        simp only [go_sem, Nat.reduceAdd, Nat.reduceSub, Nat.reduceMul, Nat.reduceLT, Nat.reduceLeDiff, Nat.reduceEqDiff, Nat.reduceBEq, Nat.reduceBNe, Nat.reducePow, Int.reduceEq, Int.reduceNe, Int.reduceLT, Int.reduceLE, Int.reduceGT, Int.reduceGE, Int.reduceAdd, Int.reduceSub, Int.reduceNeg, Int.reduceMul, not_true_eq_false, not_false_eq_true, true_and, and_true, Int.reduceToNat]
        exact ⟨_, rfl, false, by rw [DFault.enc_eq]; exact .refl _⟩
theorem n16 : (Tryz.f16.name == "runtime.NumGoroutine") = false := by kernel_rfl
theorem scopeX (p : DProg) (hp : okProg p) : PCall Tryz.prog 16 [p.enc] (scopeF p).enc := by
  refine pcall_of_vc tabOK Tryz.func16 n16 rfl (by repeat' first | exact pure_nil | refine pure_cons ?_ ?_ | exact .raw _ | exact pure_enc _ | exact pure_lst _ | exact pure_strs _ | exact pure_ints _ | exact DTy.pure _ | exact DTy.pures _ | exact DEnum.pure _ | exact DEnum.pures _ | exact DDecl.pure _ | exact DDecl.pures _ | exact DEq.pure _ | exact DEq.pures _ | exact DNode.pure _ | exact DNode.pures _ | exact DProg.pure _ | exact DProg.pures _ | exact DCond.pure _ | exact DCond.pures _ | exact DAtom.pure _ | exact DAtom.pures _ | exact DPlain.pure _ | exact DPlain.pures _ | exact DVar.pure _ | exact DVar.pures _ | exact DFlow.pure _ | exact DFlow.pures _ | exact DFlows.pure _ | exact DFlows.pures _ | exact DAsked.pure _ | exact DAsked.pures _ | exact DFault.pure _ | exact DFault.pures _ | exact DCell.pure _ | exact DCell.pures _ | exact DReply.pure _ | exact DReply.pures _ | exact DAsk.pure _ | exact DAsk.pures _ | exact DOp.pure _ | exact DOp.pures _ | exact pure_list (fun x => DDecl.pures x) _ | exact .fn _ _ _ pure_nil pure_nil | refine .agg _ ?_ | refine .tup _ ?_ | assumption) (by repeat' first | exact pure_nil | refine pure_cons ?_ ?_ | exact .raw _ | exact pure_enc _ | exact pure_lst _ | exact pure_strs _ | exact pure_ints _ | exact DTy.pure _ | exact DTy.pures _ | exact DEnum.pure _ | exact DEnum.pures _ | exact DDecl.pure _ | exact DDecl.pures _ | exact DEq.pure _ | exact DEq.pures _ | exact DNode.pure _ | exact DNode.pures _ | exact DProg.pure _ | exact DProg.pures _ | exact DCond.pure _ | exact DCond.pures _ | exact DAtom.pure _ | exact DAtom.pures _ | exact DPlain.pure _ | exact DPlain.pures _ | exact DVar.pure _ | exact DVar.pures _ | exact DFlow.pure _ | exact DFlow.pures _ | exact DFlows.pure _ | exact DFlows.pures _ | exact DAsked.pure _ | exact DAsked.pures _ | exact DFault.pure _ | exact DFault.pures _ | exact DCell.pure _ | exact DCell.pures _ | exact DReply.pure _ | exact DReply.pures _ | exact DAsk.pure _ | exact DAsk.pures _ | exact DOp.pure _ | exact DOp.pures _ | exact pure_list (fun x => DDecl.pures x) _ | exact .fn _ _ _ pure_nil pure_nil | refine .agg _ ?_ | refine .tup _ ?_ | assumption) (n := 27) rfl (rs := [.cell 2 33]) rfl ?_
  have hp6 := hp.2.1
  unfold scopeF
  simp only [go_sem, Nat.reduceAdd, Nat.reduceSub, Nat.reduceMul, Nat.reduceLT, Nat.reduceLeDiff, Nat.reduceEqDiff, Nat.reduceBEq, Nat.reduceBNe, Nat.reducePow, Int.reduceEq, Int.reduceNe, Int.reduceLT, Int.reduceLE, Int.reduceGT, Int.reduceGE, Int.reduceAdd, Int.reduceSub, Int.reduceNeg, Int.reduceMul, not_true_eq_false, not_false_eq_true, true_and, and_true, Int.reduceToNat]
  refine PCall.call (checkX p hp) ?_
  generalize checkF p = e
  simp only [go_sem, Nat.reduceAdd, Nat.reduceSub, Nat.reduceMul, Nat.reduceLT, Nat.reduceLeDiff, Nat.reduceEqDiff, Nat.reduceBEq, Nat.reduceBNe, Nat.reducePow, Int.reduceEq, Int.reduceNe, Int.reduceLT, Int.reduceLE, Int.reduceGT, Int.reduceGE, Int.reduceAdd, Int.reduceSub, Int.reduceNeg, Int.reduceMul, not_true_eq_false, not_false_eq_true, true_and, and_true, Int.reduceToNat]
  refine brK_dec (fun h0 => ?_) (fun h0 => ?_)
  · rw [if_neg h0]
    simp only [go_sem, Nat.reduceAdd, Nat.reduceSub, Nat.reduceMul, Nat.reduceLT, Nat.reduceLeDiff, Nat.reduceEqDiff, Nat.reduceBEq, Nat.reduceBNe, Nat.reducePow, Int.reduceEq, Int.reduceNe, Int.reduceLT, Int.reduceLE, Int.reduceGT, Int.reduceGE, Int.reduceAdd, Int.reduceSub, Int.reduceNeg, Int.reduceMul, not_true_eq_false, not_false_eq_true, true_and, and_true, Int.reduceToNat]
    refine PCall.call (fault47 _ _ _) ?_
    simp only [go_sem, Nat.reduceAdd, Nat.reduceSub, Nat.reduceMul, Nat.reduceLT, Nat.reduceLeDiff, Nat.reduceEqDiff, Nat.reduceBEq, Nat.reduceBNe, Nat.reducePow, Int.reduceEq, Int.reduceNe, Int.reduceLT, Int.reduceLE, Int.reduceGT, Int.reduceGE, Int.reduceAdd, Int.reduceSub, Int.reduceNeg, Int.reduceMul, not_true_eq_false, not_false_eq_true, true_and, and_true, Int.reduceToNat]
    exact ⟨_, rfl, false, by rw [DFault.enc_eq]; exact .refl _⟩
  rw [if_pos (by simpa using h0)]
  generalize hE : nodesFault p 0 p.Nodes = E
  simp only [go_sem, Nat.reduceAdd, Nat.reduceSub, Nat.reduceMul, Nat.reduceLT, Nat.reduceLeDiff, Nat.reduceEqDiff, Nat.reduceBEq, Nat.reduceBNe, Nat.reducePow, Int.reduceEq, Int.reduceNe, Int.reduceLT, Int.reduceLE, Int.reduceGT, Int.reduceGE, Int.reduceAdd, Int.reduceSub, Int.reduceNeg, Int.reduceMul, not_true_eq_false, not_false_eq_true, true_and, and_true, Int.reduceToNat]
  refine loop_frX [4, 5, 12, 13, 14, 15, 16, 17, 18, 19, 20, 21, 22, 23, 24, 25] (fun m C => ∃ i : Nat, i ≤ p.Nodes.length ∧ m = p.Nodes.length - i ∧ nodesFault p i (p.Nodes.drop i) = E ∧ C = [(4, .raw (.int .i64 (i : Nat)))]) p.Nodes.length _ ⟨0, by omega, by omega, hE, rfl⟩ (.cons rfl .nil) ?_
  rintro m C ja r ⟨i, hi, rfl, hE', rfl⟩
  simp only [go_sem, Nat.reduceAdd, Nat.reduceSub, Nat.reduceMul, Nat.reduceLT, Nat.reduceLeDiff, Nat.reduceEqDiff, Nat.reduceBEq, Nat.reduceBNe, Nat.reducePow, Int.reduceEq, Int.reduceNe, Int.reduceLT, Int.reduceLE, Int.reduceGT, Int.reduceGE, Int.reduceAdd, Int.reduceSub, Int.reduceNeg, Int.reduceMul, not_true_eq_false, not_false_eq_true, true_and, and_true, Int.reduceToNat]
  intro _
  refine brK_dec (fun hlt => ?_) (fun hge => ?_)
  · obtain ⟨n, hj⟩ : ∃ n, p.Nodes[i]? = some n := ⟨_, List.getElem?_eq_getElem (by omega)⟩
    have hn := hp.2.2 n (List.mem_of_getElem? hj)
    simp only [go_sem, Nat.reduceAdd, Nat.reduceSub, Nat.reduceMul, Nat.reduceLT, Nat.reduceLeDiff, Nat.reduceEqDiff, Nat.reduceBEq, Nat.reduceBNe, Nat.reducePow, Int.reduceEq, Int.reduceNe, Int.reduceLT, Int.reduceLE, Int.reduceGT, Int.reduceGE, Int.reduceAdd, Int.reduceSub, Int.reduceNeg, Int.reduceMul, not_true_eq_false, not_false_eq_true, true_and, and_true, Int.reduceToNat]
    refine PCall.call (node50 p i n hj hn) ?_
    have hzz : (AV.agg [.raw (.int .i64 0), .raw (.int .i64 0), .raw (.int .i64 0)]) = (⟨0, 0, 0⟩ : DFault).enc := by rw [DFault.enc_eq]
    by_cases hF : (nodeFault p (i : Int) n).Err = 0
    · have hE1 := nodes_next hE' (by simpa using hj) hF
      have hz := nodeFault_zero hF
      rw [hz]
      simp only [go_sem, Nat.reduceAdd, Nat.reduceSub, Nat.reduceMul, Nat.reduceLT, Nat.reduceLeDiff, Nat.reduceEqDiff, Nat.reduceBEq, Nat.reduceBNe, Nat.reducePow, Int.reduceEq, Int.reduceNe, Int.reduceLT, Int.reduceLE, Int.reduceGT, Int.reduceGE, Int.reduceAdd, Int.reduceSub, Int.reduceNeg, Int.reduceMul, not_true_eq_false, not_false_eq_true, true_and, and_true, Int.reduceToNat]
      rw [hzz]
      simp only [go_sem, Nat.reduceAdd, Nat.reduceSub, Nat.reduceMul, Nat.reduceLT, Nat.reduceLeDiff, Nat.reduceEqDiff, Nat.reduceBEq, Nat.reduceBNe, Nat.reducePow, Int.reduceEq, Int.reduceNe, Int.reduceLT, Int.reduceLE, Int.reduceGT, Int.reduceGE, Int.reduceAdd, Int.reduceSub, Int.reduceNeg, Int.reduceMul, not_true_eq_false, not_false_eq_true, true_and, and_true, Int.reduceToNat]
      exact loopFrX _ (by omega) _ ⟨i + 1, by omega, rfl, hE1, rfl⟩ (.next rfl (by omega) .nil) rfl (by first | rfl | (simp only [List.append_assoc, List.cons_append, List.nil_append]; rfl))
    · have hE1 := nodes_at hE' (by simpa using hj) hF
      rw [hE1]
      generalize nodeFault p (i : Int) n = F at hF
      simp only [go_sem, Nat.reduceAdd, Nat.reduceSub, Nat.reduceMul, Nat.reduceLT, Nat.reduceLeDiff, Nat.reduceEqDiff, Nat.reduceBEq, Nat.reduceBNe, Nat.reducePow, Int.reduceEq, Int.reduceNe, Int.reduceLT, Int.reduceLE, Int.reduceGT, Int.reduceGE, Int.reduceAdd, Int.reduceSub, Int.reduceNeg, Int.reduceMul, not_true_eq_false, not_false_eq_true, true_and, and_true, Int.reduceToNat]
      rw [hzz]
      simp only [go_sem, Nat.reduceAdd, Nat.reduceSub, Nat.reduceMul, Nat.reduceLT, Nat.reduceLeDiff, Nat.reduceEqDiff, Nat.reduceBEq, Nat.reduceBNe, Nat.reducePow, Int.reduceEq, Int.reduceNe, Int.reduceLT, Int.reduceLE, Int.reduceGT, Int.reduceGE, Int.reduceAdd, Int.reduceSub, Int.reduceNeg, Int.reduceMul, not_true_eq_false, not_false_eq_true, true_and, and_true, Int.reduceToNat]
      refine brK_dec (fun _ => ?_) (fun hq => absurd (by intro h; rw [h] at hF; exact hF rfl) hq)
      simp only [go_sem, Nat.reduceAdd, Nat.reduceSub, Nat.reduceMul, Nat.reduceLT, Nat.reduceLeDiff, Nat.reduceEqDiff, Nat.reduceBEq, Nat.reduceBNe, Nat.reducePow, Int.reduceEq, Int.reduceNe, Int.reduceLT, Int.reduceLE, Int.reduceGT, Int.reduceGE, Int.reduceAdd, Int.reduceSub, Int.reduceNeg, Int.reduceMul, not_true_eq_false, not_false_eq_true, true_and, and_true, Int.reduceToNat]
      exact ⟨_, rfl, false, by rw [DFault.enc_eq]; exact .refl _⟩
  · have h0 := nodes_0 hE' (by omega)
    subst h0
    simp only [go_sem, Nat.reduceAdd, Nat.reduceSub, Nat.reduceMul, Nat.reduceLT, Nat.reduceLeDiff, Nat.reduceEqDiff, Nat.reduceBEq, Nat.reduceBNe, Nat.reducePow, Int.reduceEq, Int.reduceNe, Int.reduceLT, Int.reduceLE, Int.reduceGT, Int.reduceGE, Int.reduceAdd, Int.reduceSub, Int.reduceNeg, Int.reduceMul, not_true_eq_false, not_false_eq_true, true_and, and_true, Int.reduceToNat]
    exact ⟨_, rfl, false, by rw [DFault.enc_eq]; exact .refl _⟩
end Go.Proofs.YtipcmpkihhfhcaaGreatDoor

namespace Go.Proofs.YtipcmpkihhfhcaaGreatDoor
open Go.Abs
set_option maxRecDepth 20000
set_option linter.unusedSimpArgs false
set_option linter.unusedVariables false
set_option maxHeartbeats 1000000
attribute [local irreducible] vc vcOps vcStep vcGuard prK hrK gK gsK brK callK ElemK SeqK BlockK ScopeK OpsK CallK LoopK LoopGo finPost ACall PCall PCallE BCall vqOps vqStep vqGuard qrK heK pcK gqK gqsK QOpsK qcallK DrawK
abbrev sA : DDecl := ⟨⟨#[97]⟩, ⟨1, 0, 0⟩, ⟨#[]⟩, ⟨#[]⟩⟩
abbrev sB : DDecl := ⟨⟨#[98]⟩, ⟨1, 0, 0⟩, ⟨#[]⟩, ⟨#[]⟩⟩
abbrev sE : Ex := .mk 3 0 ⟨#[99]⟩ 0 [] []
abbrev sQ : DEq := ⟨[⟨#[98]⟩], sE⟩
abbrev sN : DNode := ⟨⟨#[102]⟩, [sA], [sB], [], [sQ]⟩
abbrev sP : DProg := ⟨[], [sN]⟩
theorem sE_parts : parts sE = [sE] := by simp [parts, partsL]
theorem sE_ok : okE sE := by
  constructor
  · rw [sE_parts]; decide
  · rw [sE_parts]; intro x hx
    rw [List.mem_singleton.1 hx]
    exact ⟨by decide, fun a ha => by simp [Ex.arms] at ha⟩
theorem sP_ok : okProg sP := by
  refine ⟨⟨by decide, by simp⟩, by decide, fun n hn => ?_⟩
  rw [List.mem_singleton.1 hn]
  refine ⟨⟨by decide, fun d hd => ?_⟩, ⟨by decide, fun d hd => ?_⟩, ⟨by decide, by simp⟩, by decide, by decide, fun q hq => ?_⟩
  · rw [List.mem_singleton.1 hd]; decide
  · rw [List.mem_singleton.1 hd]; decide
  · rw [List.mem_singleton.1 hq]
    exact ⟨by decide, sE_ok, fun s hs => by rw [List.mem_singleton.1 hs]; decide⟩
theorem low97 : lowF ⟨#[97]⟩ = true := by decide +kernel
theorem low98 : lowF ⟨#[98]⟩ = true := by decide +kernel
theorem low99 : lowF ⟨#[99]⟩ = true := by decide +kernel
theorem low102 : lowF ⟨#[102]⟩ = true := by decide +kernel
theorem sE_right : rightE sE = true := by
  unfold rightE
  rw [sE_parts]
  simp [partE, numbersE, namedE, armsE, subsE, Ex.kind, Ex.op, Ex.n, Ex.name, Ex.arms, Ex.subs, low99, depthE, depthL]
theorem sP_check : checkF sP = 0 := by
  have h1 : enumsF [] = 0 := by
    unfold enumsF greatE rightEn
    simp [onceB_yes]
  have h2 : nodeF 0 sN = true := by
    unfold nodeF bareN eqF declaredF bareF rightTyF
    simp [allV, low97, low98, low102, sE_right]
  have h3 : onceN sN = true := by
    unfold onceN
    exact onceB_yes (by simp [allV])
  have h4 : onceB [(⟨#[102]⟩ : ByteArray)] = true := onceB_yes (by simp)
  have h5 : greatF sN = false := by decide +kernel
  unfold checkF
  simp [h1, h2, h3, h4, h5]
theorem sP_scope : scopeF sP = ⟨0, 0, 5⟩ := by
  unfold scopeF
  rw [sP_check, if_pos rfl]
  decide +kernel
theorem weak_tkS {sz : Nat} {es ds : List AV} {k : Nat} (h : es = ds) : Weak (.lst sz es (some k)) (.lst sz ds none) := h ▸ .tok _ _ _
theorem weakS (a b c d e : Nat) : Weak (.agg [.raw (.slice none 0 0), .lst 5 [.agg [.s ⟨#[102]⟩, .lst 6 [.agg [.s ⟨#[97]⟩, .i 1, .i 0, .i 0, .s ⟨#[]⟩, .s ⟨#[]⟩]] (some a), .lst 6 [.agg [.s ⟨#[98]⟩, .i 1, .i 0, .i 0, .s ⟨#[]⟩, .s ⟨#[]⟩]] (some b), .raw (.slice none 0 0), .lst 7 [.agg [.lst 1 [.s ⟨#[98]⟩] (some c), .i 3, .i 0, .s ⟨#[99]⟩, .i 0, .raw (.slice none 0 0), .raw (.slice none 0 0)]] (some d)]] (some e)]) sP.enc := by
  rw [DProg.enc_eq]
  refine Weak.aggs ⟨.nil _, ?_, trivial⟩
  refine Weak.lsts (by simp) (by intro e he; obtain ⟨x, _, rfl⟩ := List.mem_map.1 he; rw [DNode.enc_cells]; rfl) ?_
  show WeakL _ (flat [sN.enc])
  rw [DNode.enc_eq]
  refine ⟨.refl _, weak_tkS (by simp [DDecl.enc_eq]), weak_tkS (by simp [DDecl.enc_eq]), .nil _, ?_, trivial⟩
  refine Weak.lsts (by simp) (by intro e he; obtain ⟨x, _, rfl⟩ := List.mem_map.1 he; rw [DEq.enc_cells]; rfl) ?_
  show WeakL _ (flat [sQ.enc])
  rw [DEq.enc_eq]
  exact ⟨weak_tkS (by simp), .refl _, .refl _, .refl _, .refl _, .nil _, .nil _, trivial⟩
theorem n14 : (Tryz.f14.name == "runtime.NumGoroutine") = false := by kernel_rfl
theorem live14 : PCall Tryz.prog 14 [] (.b true) := by
  have hs := scopeCheck sP sP_ok
  rw [sP_scope] at hs
  refine pcall_of_vc tabOK Tryz.func14 n14 rfl (by repeat' first | exact pure_nil | refine pure_cons ?_ ?_ | exact .raw _ | exact pure_enc _ | exact pure_lst _ | exact pure_strs _ | exact pure_ints _ | exact DTy.pure _ | exact DTy.pures _ | exact DEnum.pure _ | exact DEnum.pures _ | exact DDecl.pure _ | exact DDecl.pures _ | exact DEq.pure _ | exact DEq.pures _ | exact DNode.pure _ | exact DNode.pures _ | exact DProg.pure _ | exact DProg.pures _ | exact DCond.pure _ | exact DCond.pures _ | exact DAtom.pure _ | exact DAtom.pures _ | exact DPlain.pure _ | exact DPlain.pures _ | exact DVar.pure _ | exact DVar.pures _ | exact DFlow.pure _ | exact DFlow.pures _ | exact DFlows.pure _ | exact DFlows.pures _ | exact DAsked.pure _ | exact DAsked.pures _ | exact DFault.pure _ | exact DFault.pures _ | exact DCell.pure _ | exact DCell.pures _ | exact DReply.pure _ | exact DReply.pures _ | exact DAsk.pure _ | exact DAsk.pures _ | exact DOp.pure _ | exact DOp.pures _ | exact pure_list (fun x => DDecl.pures x) _ | exact .fn _ _ _ pure_nil pure_nil | refine .agg _ ?_ | refine .tup _ ?_ | assumption) (by repeat' first | exact pure_nil | refine pure_cons ?_ ?_ | exact .raw _ | exact pure_enc _ | exact pure_lst _ | exact pure_strs _ | exact pure_ints _ | exact DTy.pure _ | exact DTy.pures _ | exact DEnum.pure _ | exact DEnum.pures _ | exact DDecl.pure _ | exact DDecl.pures _ | exact DEq.pure _ | exact DEq.pures _ | exact DNode.pure _ | exact DNode.pures _ | exact DProg.pure _ | exact DProg.pures _ | exact DCond.pure _ | exact DCond.pures _ | exact DAtom.pure _ | exact DAtom.pures _ | exact DPlain.pure _ | exact DPlain.pures _ | exact DVar.pure _ | exact DVar.pures _ | exact DFlow.pure _ | exact DFlow.pures _ | exact DFlows.pure _ | exact DFlows.pures _ | exact DAsked.pure _ | exact DAsked.pures _ | exact DFault.pure _ | exact DFault.pures _ | exact DCell.pure _ | exact DCell.pures _ | exact DReply.pure _ | exact DReply.pures _ | exact DAsk.pure _ | exact DAsk.pures _ | exact DOp.pure _ | exact DOp.pures _ | exact pure_list (fun x => DDecl.pures x) _ | exact .fn _ _ _ pure_nil pure_nil | refine .agg _ ?_ | refine .tup _ ?_ | assumption) (n := 21) rfl (rs := [.tmp 0]) rfl ?_
  simp only [go_sem, Nat.reduceAdd, Nat.reduceSub, Nat.reduceMul, Nat.reduceLT, Nat.reduceLeDiff, Nat.reduceEqDiff, Nat.reduceBEq, Nat.reduceBNe, Nat.reducePow, Int.reduceEq, Int.reduceNe, Int.reduceLT, Int.reduceLE, Int.reduceGT, Int.reduceGE, Int.reduceAdd, Int.reduceSub, Int.reduceNeg, Int.reduceMul, not_true_eq_false, not_false_eq_true, true_and, and_true, Int.reduceToNat]
  refine PCall.callW hs ⟨weakS _ _ _ _ _, trivial⟩ ?_
  simp only [go_sem, Nat.reduceAdd, Nat.reduceSub, Nat.reduceMul, Nat.reduceLT, Nat.reduceLeDiff, Nat.reduceEqDiff, Nat.reduceBEq, Nat.reduceBNe, Nat.reducePow, Int.reduceEq, Int.reduceNe, Int.reduceLT, Int.reduceLE, Int.reduceGT, Int.reduceGE, Int.reduceAdd, Int.reduceSub, Int.reduceNeg, Int.reduceMul, not_true_eq_false, not_false_eq_true, true_and, and_true, Int.reduceToNat]
  refine PCall.call (fault47 _ _ _) ?_
  simp only [go_sem, Nat.reduceAdd, Nat.reduceSub, Nat.reduceMul, Nat.reduceLT, Nat.reduceLeDiff, Nat.reduceEqDiff, Nat.reduceBEq, Nat.reduceBNe, Nat.reducePow, Int.reduceEq, Int.reduceNe, Int.reduceLT, Int.reduceLE, Int.reduceGT, Int.reduceGE, Int.reduceAdd, Int.reduceSub, Int.reduceNeg, Int.reduceMul, not_true_eq_false, not_false_eq_true, true_and, and_true, Int.reduceToNat]
  try exact finBq rfl (by simp)
end Go.Proofs.YtipcmpkihhfhcaaGreatDoor

namespace Go.Proofs.YtipcmpkihhfhcaaGreatDoor
open Go.Abs
set_option maxRecDepth 20000
set_option linter.unusedSimpArgs false
set_option linter.unusedVariables false
set_option maxHeartbeats 1000000
attribute [local irreducible] vc vcOps vcStep vcGuard prK hrK gK gsK brK callK ElemK SeqK BlockK ScopeK OpsK CallK LoopK LoopGo finPost ACall PCall PCallE BCall vqOps vqStep vqGuard qrK heK pcK gqK gqsK QOpsK qcallK DrawK
theorem names_nodup {n : DNode} : ∀ {l D : List ByteArray}, namesErr n D l = 0 → D.Nodup → (D ++ l).Nodup
  | [], D, _, h => by simpa using h
  | s :: r, D, h, hD => by
    rw [namesErr] at h
    split at h
    · omega
    · split at h
      · omega
      · rename_i h2
        have hs : s ∉ D := fun hm => h2 (by rw [memB_iff.2 hm, Bool.or_true])
        have := names_nodup h (by rw [List.nodup_append]; exact ⟨hD, by simp, fun a ha b hb e => by rw [List.mem_singleton.1 hb] at e; exact hs (e ▸ ha)⟩)
        simpa using this
theorem eqs_nodup {p : DProg} {a : Int} {n : DNode} : ∀ {l : List DEq} {i : Nat} {D : List ByteArray}, (eqsErr p a n i D l).2 = 0 → D.Nodup → (D ++ l.flatMap DEq.Names).Nodup ∧ ∀ q ∈ l, (parts q.E).all (leadsF p a n) = true
  | [], _, _, _, hD => by simpa using hD
  | q :: r, i, D, h, hD => by
    rw [eqsErr] at h
    split at h
    · rename_i h0
      have hq : namesErr n D q.Names = 0 ∧ (parts q.E).all (leadsF p a n) = true := by
        unfold eqErr at h0
        split at h0
        · split at h0
          · exact ⟨by assumption, by assumption⟩
          · omega
        · rename_i h1; exact absurd h0 h1
      obtain ⟨k1, k2⟩ := eqs_nodup h (names_nodup hq.1 hD)
      refine ⟨by rw [List.flatMap_cons, ← List.append_assoc]; exact k1, fun x hx => ?_⟩
      rcases List.mem_cons.1 hx with rfl | hx
      · exact hq.2
      · exact k2 x hx
    · rename_i h0
      exact absurd h h0
theorem cnt_one {s : ByteArray} : ∀ {l : List ByteArray}, l.Nodup → cntL s l ≤ 1
  | [], _ => by simp [cntL]
  | x :: l, h => by
    rw [List.nodup_cons] at h
    have ih := cnt_one (s := s) h.2
    rw [cntL]
    split
    · rename_i e
      have := cntL_zero (s := s) (l := l) (e ▸ h.1)
      omega
    · omega
def onceOK (p : DProg) (i : Nat) (n : DNode) : Prop := (∀ (k : Nat) d, (allV n)[k]? = some d → (k < n.Ins.length → cntL d.Name (n.Eqs.flatMap DEq.Names) = 0) ∧ (n.Ins.length ≤ k → cntL d.Name (n.Eqs.flatMap DEq.Names) = 1)) ∧
  ∀ q ∈ n.Eqs, ∀ x ∈ parts q.E, x.kind = 13 → 0 ≤ findF p x.name ∧ findF p x.name < (i : Int)
theorem once_of {p : DProg} {i : Nat} {n : DNode} (h : (nodeFault p (i : Int) n).Err = 0) : onceOK p i n := by
  unfold nodeFault at h
  split at h
  · split at h
    · rename_i h2
      split at h
      · rename_i hd
        obtain ⟨k1, k2⟩ := eqs_nodup h2 List.nodup_nil
        rw [List.nil_append] at k1
        have hin := eqsErr_in h2
        refine ⟨fun k d hk => ⟨fun hlt => ?_, fun hge => ?_⟩, fun q hq x hx h13 => ?_⟩
        · have hdi : d ∈ n.Ins := by
            have e : allV n = n.Ins ++ (n.Outs ++ n.Vars) := by simp [allV]
            rw [e, List.getElem?_append_left hlt] at hk
            exact List.mem_of_getElem? hk
          refine cntL_zero fun hm => ?_
          have h1 := hin _ hm
          have h2 : inF n d.Name = true := List.any_eq_true.2 ⟨d, hdi, by simp⟩
          rw [h2] at h1; cases h1
        · have hdo := List.mem_of_getElem? (rest_at hk hge)
          have hm := memB_iff.1 (List.all_eq_true.1 hd d hdo)
          have h1 := cntL_mem hm
          have h2 := cnt_one (s := d.Name) k1
          omega
        · have hl := List.all_eq_true.1 (k2 q hq) x hx
          unfold leadsF at hl
          rw [if_neg (by omega), if_neg (by omega), if_pos h13] at hl
          simp only [Bool.and_eq_true, decide_eq_true_eq] at hl
          exact hl.2
      · simp at h
    · rename_i h2; exact absurd h h2
  · simp at h
theorem nodes_ok {p : DProg} : ∀ {l : List DNode} {i : Nat}, nodesFault p i l = ⟨0, 0, 0⟩ → ∀ (k : Nat) n, l[k]? = some n → (nodeFault p ((i + k : Nat) : Int) n).Err = 0
  | [], _, _, k, n, h => by simp at h
  | x :: l, i, h, k, n, hk => by
    rw [nodesFault] at h
    split at h
    · rename_i h0
      cases k with
      | zero => simp at hk; subst hk; simpa using h0
      | succ k =>
        have := nodes_ok h k n (by simpa using hk)
        rw [show i + (k + 1) = i + 1 + k by omega]
        exact this
    · rename_i h0
      rw [h] at h0
      exact absurd rfl h0
theorem scope_once {p : DProg} (h : scopeF p = ⟨0, 0, 0⟩) {i : Nat} {n : DNode} (hn : p.Nodes[((i : Nat) : Int).toNat]? = some n) : onceOK p i n := by
  unfold scopeF at h
  split at h
  · have := nodes_ok h i n (by simpa using hn)
    rw [Nat.zero_add] at this
    exact once_of this
  · cases h
theorem n18 : (Tryz.f18.name == "runtime.NumGoroutine") = false := by kernel_rfl
theorem count18 (n : DNode) (hn : okNode n) (s : ByteArray) : PCall Tryz.prog 18 [n.enc, .s s] (.i (cntL s (n.Eqs.flatMap DEq.Names) : Nat)) := by
  have hfl := flatN_len hn.2.2.2.2.2
  have h4 := hn.2.2.2.1
  refine pcall_of_vc tabOK Tryz.func18 n18 rfl (by repeat' first | exact pure_nil | refine pure_cons ?_ ?_ | exact .raw _ | exact pure_enc _ | exact pure_lst _ | exact pure_strs _ | exact pure_ints _ | exact DTy.pure _ | exact DTy.pures _ | exact DEnum.pure _ | exact DEnum.pures _ | exact DDecl.pure _ | exact DDecl.pures _ | exact DEq.pure _ | exact DEq.pures _ | exact DNode.pure _ | exact DNode.pures _ | exact DProg.pure _ | exact DProg.pures _ | exact DCond.pure _ | exact DCond.pures _ | exact DAtom.pure _ | exact DAtom.pures _ | exact DPlain.pure _ | exact DPlain.pures _ | exact DVar.pure _ | exact DVar.pures _ | exact DFlow.pure _ | exact DFlow.pures _ | exact DFlows.pure _ | exact DFlows.pures _ | exact DAsked.pure _ | exact DAsked.pures _ | exact DFault.pure _ | exact DFault.pures _ | exact DCell.pure _ | exact DCell.pures _ | exact DReply.pure _ | exact DReply.pures _ | exact DAsk.pure _ | exact DAsk.pures _ | exact DOp.pure _ | exact DOp.pures _ | exact pure_list (fun x => DDecl.pures x) _ | exact .fn _ _ _ pure_nil pure_nil | refine .agg _ ?_ | refine .tup _ ?_ | assumption) (by repeat' first | exact pure_nil | refine pure_cons ?_ ?_ | exact .raw _ | exact pure_enc _ | exact pure_lst _ | exact pure_strs _ | exact pure_ints _ | exact DTy.pure _ | exact DTy.pures _ | exact DEnum.pure _ | exact DEnum.pures _ | exact DDecl.pure _ | exact DDecl.pures _ | exact DEq.pure _ | exact DEq.pures _ | exact DNode.pure _ | exact DNode.pures _ | exact DProg.pure _ | exact DProg.pures _ | exact DCond.pure _ | exact DCond.pures _ | exact DAtom.pure _ | exact DAtom.pures _ | exact DPlain.pure _ | exact DPlain.pures _ | exact DVar.pure _ | exact DVar.pures _ | exact DFlow.pure _ | exact DFlow.pures _ | exact DFlows.pure _ | exact DFlows.pures _ | exact DAsked.pure _ | exact DAsked.pures _ | exact DFault.pure _ | exact DFault.pures _ | exact DCell.pure _ | exact DCell.pures _ | exact DReply.pure _ | exact DReply.pures _ | exact DAsk.pure _ | exact DAsk.pures _ | exact DOp.pure _ | exact DOp.pures _ | exact pure_list (fun x => DDecl.pures x) _ | exact .fn _ _ _ pure_nil pure_nil | refine .agg _ ?_ | refine .tup _ ?_ | assumption) (n := 40) rfl (rs := [.tmp 4]) rfl ?_
  simp only [go_sem, Nat.reduceAdd, Nat.reduceSub, Nat.reduceMul, Nat.reduceLT, Nat.reduceLeDiff, Nat.reduceEqDiff, Nat.reduceBEq, Nat.reduceBNe, Nat.reducePow, Int.reduceEq, Int.reduceNe, Int.reduceLT, Int.reduceLE, Int.reduceGT, Int.reduceGE, Int.reduceAdd, Int.reduceSub, Int.reduceNeg, Int.reduceMul, not_true_eq_false, not_false_eq_true, true_and, and_true, Int.reduceToNat]
  refine loop_frH [5, 6, 7, 8, 9, 10, 11, 12, 13, 14, 15, 16, 17, 18, 19, 20, 21, 22, 23, 24, 25, 26, 27, 28, 29, 30, 31, 32, 33, 34, 35, 36, 37, 38] (fun m C => ∃ i : Nat, i ≤ n.Eqs.length ∧ m = n.Eqs.length - i ∧ C = [(6, .raw (.int .i64 (i : Nat))), (5, .raw (.int .i64 ((cntL s ((n.Eqs.take i).flatMap DEq.Names) : Nat) : Int)))]) n.Eqs.length _ ⟨0, by omega, by omega, rfl⟩ (.cons rfl (.cons rfl .nil)) ?_
  rintro m C ja ⟨i, hi, rfl, rfl⟩
  simp only [go_sem, Nat.reduceAdd, Nat.reduceSub, Nat.reduceMul, Nat.reduceLT, Nat.reduceLeDiff, Nat.reduceEqDiff, Nat.reduceBEq, Nat.reduceBNe, Nat.reducePow, Int.reduceEq, Int.reduceNe, Int.reduceLT, Int.reduceLE, Int.reduceGT, Int.reduceGE, Int.reduceAdd, Int.reduceSub, Int.reduceNeg, Int.reduceMul, not_true_eq_false, not_false_eq_true, true_and, and_true, Int.reduceToNat]
  intro _
  refine brK_dec (fun hlt => ?_) (fun hge => ?_)
  · obtain ⟨q, hq⟩ : ∃ q, n.Eqs[i]? = some q := ⟨_, List.getElem?_eq_getElem (by omega)⟩
    have hst := cntN_step s hq
    have hb := cntL_le s ((n.Eqs.take (i + 1)).flatMap DEq.Names)
    have hb2 := flatN_take (l := n.Eqs) (i + 1)
    have hq20 := (hn.2.2.2.2.2 q (List.mem_of_getElem? hq)).1
    simp only [go_sem, Nat.reduceAdd, Nat.reduceSub, Nat.reduceMul, Nat.reduceLT, Nat.reduceLeDiff, Nat.reduceEqDiff, Nat.reduceBEq, Nat.reduceBNe, Nat.reducePow, Int.reduceEq, Int.reduceNe, Int.reduceLT, Int.reduceLE, Int.reduceGT, Int.reduceGE, Int.reduceAdd, Int.reduceSub, Int.reduceNeg, Int.reduceMul, not_true_eq_false, not_false_eq_true, true_and, and_true, Int.reduceToNat]
    refine loop_frH [5, 7, 15, 16, 17, 18, 19, 20, 21, 22, 23, 24, 25, 26, 27, 28, 29, 30, 31, 32, 33, 34, 35, 36, 37, 38] (fun m C => ∃ j : Nat, j ≤ q.Names.length ∧ m = q.Names.length - j ∧ C = [(7, .raw (.int .i64 (j : Nat))), (5, .raw (.int .i64 ((cntL s ((n.Eqs.take i).flatMap DEq.Names) + cntL s (q.Names.take j) : Nat) : Int)))]) q.Names.length _ ⟨0, by omega, by omega, rfl⟩ (.cons rfl (.cons rfl .nil)) ?_
    rintro m C jb ⟨j, hj, rfl, rfl⟩
    simp only [go_sem, Nat.reduceAdd, Nat.reduceSub, Nat.reduceMul, Nat.reduceLT, Nat.reduceLeDiff, Nat.reduceEqDiff, Nat.reduceBEq, Nat.reduceBNe, Nat.reducePow, Int.reduceEq, Int.reduceNe, Int.reduceLT, Int.reduceLE, Int.reduceGT, Int.reduceGE, Int.reduceAdd, Int.reduceSub, Int.reduceNeg, Int.reduceMul, not_true_eq_false, not_false_eq_true, true_and, and_true, Int.reduceToNat]
    refine elemHave (by omega) hq ?_
    simp only [go_sem, Nat.reduceAdd, Nat.reduceSub, Nat.reduceMul, Nat.reduceLT, Nat.reduceLeDiff, Nat.reduceEqDiff, Nat.reduceBEq, Nat.reduceBNe, Nat.reducePow, Int.reduceEq, Int.reduceNe, Int.reduceLT, Int.reduceLE, Int.reduceGT, Int.reduceGE, Int.reduceAdd, Int.reduceSub, Int.reduceNeg, Int.reduceMul, not_true_eq_false, not_false_eq_true, true_and, and_true, Int.reduceToNat]
    intro _
    refine brK_dec (fun hlt2 => ?_) (fun hge2 => ?_)
    · have hc := cntL_take (s := s) (l := q.Names) (k := j) (by omega)
      have hc2 := cntL_take_le s q.Names (j + 1)
      simp only [go_sem, Nat.reduceAdd, Nat.reduceSub, Nat.reduceMul, Nat.reduceLT, Nat.reduceLeDiff, Nat.reduceEqDiff, Nat.reduceBEq, Nat.reduceBNe, Nat.reducePow, Int.reduceEq, Int.reduceNe, Int.reduceLT, Int.reduceLE, Int.reduceGT, Int.reduceGE, Int.reduceAdd, Int.reduceSub, Int.reduceNeg, Int.reduceMul, not_true_eq_false, not_false_eq_true, true_and, and_true, Int.reduceToNat]
      refine elemHave (by omega) hq ?_
      simp only [go_sem, Nat.reduceAdd, Nat.reduceSub, Nat.reduceMul, Nat.reduceLT, Nat.reduceLeDiff, Nat.reduceEqDiff, Nat.reduceBEq, Nat.reduceBNe, Nat.reducePow, Int.reduceEq, Int.reduceNe, Int.reduceLT, Int.reduceLE, Int.reduceGT, Int.reduceGE, Int.reduceAdd, Int.reduceSub, Int.reduceNeg, Int.reduceMul, not_true_eq_false, not_false_eq_true, true_and, and_true, Int.reduceToNat]
      refine elemMap (by omega) (by omega) (fun x hx => ?_)
      have hxe : q.Names[j]'(by omega) = x := by
        have h := List.getElem?_eq_some_iff.1 hx
        obtain ⟨_, h⟩ := h
        simpa using h
      rw [hxe] at hc
      simp only [go_sem, Nat.reduceAdd, Nat.reduceSub, Nat.reduceMul, Nat.reduceLT, Nat.reduceLeDiff, Nat.reduceEqDiff, Nat.reduceBEq, Nat.reduceBNe, Nat.reducePow, Int.reduceEq, Int.reduceNe, Int.reduceLT, Int.reduceLE, Int.reduceGT, Int.reduceGE, Int.reduceAdd, Int.reduceSub, Int.reduceNeg, Int.reduceMul, not_true_eq_false, not_false_eq_true, true_and, and_true, Int.reduceToNat]
      refine brK_dec (fun he => ?_) (fun he => ?_)
      · rw [if_pos he] at hc
        simp only [go_sem, Nat.reduceAdd, Nat.reduceSub, Nat.reduceMul, Nat.reduceLT, Nat.reduceLeDiff, Nat.reduceEqDiff, Nat.reduceBEq, Nat.reduceBNe, Nat.reducePow, Int.reduceEq, Int.reduceNe, Int.reduceLT, Int.reduceLE, Int.reduceGT, Int.reduceGE, Int.reduceAdd, Int.reduceSub, Int.reduceNeg, Int.reduceMul, not_true_eq_false, not_false_eq_true, true_and, and_true, Int.reduceToNat]
        rw [wrap_in _ (by omega) (by omega)]
        exact loopFrH _ (by omega) ⟨j + 1, by omega, rfl, rfl⟩ (.next rfl (by omega) (.cons (by rw [hc]; simp; omega) .nil)) rfl
      · rw [if_neg he] at hc
        simp only [go_sem, Nat.reduceAdd, Nat.reduceSub, Nat.reduceMul, Nat.reduceLT, Nat.reduceLeDiff, Nat.reduceEqDiff, Nat.reduceBEq, Nat.reduceBNe, Nat.reducePow, Int.reduceEq, Int.reduceNe, Int.reduceLT, Int.reduceLE, Int.reduceGT, Int.reduceGE, Int.reduceAdd, Int.reduceSub, Int.reduceNeg, Int.reduceMul, not_true_eq_false, not_false_eq_true, true_and, and_true, Int.reduceToNat]
        exact loopFrH _ (by omega) ⟨j + 1, by omega, rfl, rfl⟩ (.next rfl (by omega) (.cons (by rw [hc]; rfl) .nil)) rfl
    · have hjl : j = q.Names.length := by omega
      subst hjl
      simp only [go_sem, Nat.reduceAdd, Nat.reduceSub, Nat.reduceMul, Nat.reduceLT, Nat.reduceLeDiff, Nat.reduceEqDiff, Nat.reduceBEq, Nat.reduceBNe, Nat.reducePow, Int.reduceEq, Int.reduceNe, Int.reduceLT, Int.reduceLE, Int.reduceGT, Int.reduceGE, Int.reduceAdd, Int.reduceSub, Int.reduceNeg, Int.reduceMul, not_true_eq_false, not_false_eq_true, true_and, and_true, Int.reduceToNat]
      exact loopFrH _ (by omega) ⟨i + 1, by omega, rfl, rfl⟩ (.next rfl (by omega) (.cons (by rw [hst, List.take_length]; rfl) .nil)) rfl
  · have hik : i = n.Eqs.length := by omega
    subst hik
    rw [List.take_length]
    simp only [go_sem, Nat.reduceAdd, Nat.reduceSub, Nat.reduceMul, Nat.reduceLT, Nat.reduceLeDiff, Nat.reduceEqDiff, Nat.reduceBEq, Nat.reduceBNe, Nat.reducePow, Int.reduceEq, Int.reduceNe, Int.reduceLT, Int.reduceLE, Int.reduceGT, Int.reduceGE, Int.reduceAdd, Int.reduceSub, Int.reduceNeg, Int.reduceMul, not_true_eq_false, not_false_eq_true, true_and, and_true, Int.reduceToNat]
    exact finIq rfl rfl
theorem zeroF : (AV.agg [.raw (.int .i64 0), .raw (.int .i64 0), .raw (.int .i64 0)]) = (⟨0, 0, 0⟩ : DFault).enc := by rw [DFault.enc_eq]
end Go.Proofs.YtipcmpkihhfhcaaGreatDoor

namespace Go.Proofs.YtipcmpkihhfhcaaGreatDoor
open Go.Abs
set_option maxRecDepth 20000
set_option linter.unusedSimpArgs false
set_option linter.unusedVariables false
set_option maxHeartbeats 1000000
attribute [local irreducible] vc vcOps vcStep vcGuard prK hrK gK gsK brK callK ElemK SeqK BlockK ScopeK OpsK CallK LoopK LoopGo finPost ACall PCall PCallE BCall vqOps vqStep vqGuard qrK heK pcK gqK gqsK QOpsK qcallK DrawK
set_option maxHeartbeats 4000000
theorem n5 : (Tryz.f5.name == "runtime.NumGoroutine") = false := by kernel_rfl
theorem law_once (p : DProg) : PCall Tryz.prog 5 [p.enc] (.b true) := by
  refine pcall_of_vc tabOK Tryz.func5 n5 rfl (by repeat' first | exact pure_nil | refine pure_cons ?_ ?_ | exact .raw _ | exact pure_enc _ | exact pure_lst _ | exact pure_strs _ | exact pure_ints _ | exact DTy.pure _ | exact DTy.pures _ | exact DEnum.pure _ | exact DEnum.pures _ | exact DDecl.pure _ | exact DDecl.pures _ | exact DEq.pure _ | exact DEq.pures _ | exact DNode.pure _ | exact DNode.pures _ | exact DProg.pure _ | exact DProg.pures _ | exact DCond.pure _ | exact DCond.pures _ | exact DAtom.pure _ | exact DAtom.pures _ | exact DPlain.pure _ | exact DPlain.pures _ | exact DVar.pure _ | exact DVar.pures _ | exact DFlow.pure _ | exact DFlow.pures _ | exact DFlows.pure _ | exact DFlows.pures _ | exact DAsked.pure _ | exact DAsked.pures _ | exact DFault.pure _ | exact DFault.pures _ | exact DCell.pure _ | exact DCell.pures _ | exact DReply.pure _ | exact DReply.pures _ | exact DAsk.pure _ | exact DAsk.pures _ | exact DOp.pure _ | exact DOp.pures _ | exact pure_list (fun x => DDecl.pures x) _ | exact .fn _ _ _ pure_nil pure_nil | refine .agg _ ?_ | refine .tup _ ?_ | assumption) (by repeat' first | exact pure_nil | refine pure_cons ?_ ?_ | exact .raw _ | exact pure_enc _ | exact pure_lst _ | exact pure_strs _ | exact pure_ints _ | exact DTy.pure _ | exact DTy.pures _ | exact DEnum.pure _ | exact DEnum.pures _ | exact DDecl.pure _ | exact DDecl.pures _ | exact DEq.pure _ | exact DEq.pures _ | exact DNode.pure _ | exact DNode.pures _ | exact DProg.pure _ | exact DProg.pures _ | exact DCond.pure _ | exact DCond.pures _ | exact DAtom.pure _ | exact DAtom.pures _ | exact DPlain.pure _ | exact DPlain.pures _ | exact DVar.pure _ | exact DVar.pures _ | exact DFlow.pure _ | exact DFlow.pures _ | exact DFlows.pure _ | exact DFlows.pures _ | exact DAsked.pure _ | exact DAsked.pures _ | exact DFault.pure _ | exact DFault.pures _ | exact DCell.pure _ | exact DCell.pures _ | exact DReply.pure _ | exact DReply.pures _ | exact DAsk.pure _ | exact DAsk.pures _ | exact DOp.pure _ | exact DOp.pures _ | exact pure_list (fun x => DDecl.pures x) _ | exact .fn _ _ _ pure_nil pure_nil | refine .agg _ ?_ | refine .tup _ ?_ | assumption) (n := 103) rfl (rs := [.tmp 2]) rfl ?_
  repeat' first
    | exact finB rfl
    | exact finI rfl
    | exact finP rfl
    | exact absurd rfl (by assumption)
    | simp only [go_sem, Nat.reduceAdd, Nat.reduceSub, Nat.reduceMul, Nat.reduceLT, Nat.reduceLeDiff, Nat.reduceEqDiff, Nat.reduceBEq, Nat.reduceBNe, Nat.reducePow, Int.reduceEq, Int.reduceNe, Int.reduceLT, Int.reduceLE, Int.reduceGT, Int.reduceGE, Int.reduceAdd, Int.reduceSub, Int.reduceNeg, Int.reduceMul, not_true_eq_false, not_false_eq_true, true_and, and_true, Int.reduceToNat]
    | (intro _)
    | refine brK_dec (fun _ => ?_) (fun _ => ?_)
    | refine brK_split (fun hb_ => ?_) (fun hb_ => ?_)
    | refine gK_dec (fun _ => ?_) (fun _ => ?_)
    | refine gK_split (fun hb_ => ?_) (fun hb_ => ?_)
    | refine gqK_dec (fun _ => ?_) (fun _ => ?_)
    | refine ⟨by omega, ?_⟩
    | refine elemHave (by omega) (by assumption) ?_
    | ((fail_if_success (clear ha)); refine elemMap (by omega) (by omega) (fun a ha => ?_))
    | ((fail_if_success (clear hb)); refine elemMap (by omega) (by omega) (fun b hb => ?_))
    | refine elemMap (by omega) (by omega) (fun x hx => ?_)
    | refine drawK mo (by kernel_rfl) ?_
    | (exfalso; omega)
    | ((fail_if_success (clear hok)); refine PCallE.call (small_p _) (fun r hr => ?_); obtain ⟨bb, rfl, hok⟩ := hr; cases bb <;> (try replace hok := hok rfl))
    | (refine PCall.call live14 ?_)
    | (refine PCall.call (scopeCheck p hok) ?_)
    | (rw [zeroF])
    | ((fail_if_success (clear hz)); have hz : scopeF p = ⟨0, 0, 0⟩ := (by first | assumption | exact Classical.not_not.1 (by assumption)))
    | ((fail_if_success (clear hon)); have hon := scope_once hz ha)
    | (refine PCall.call (all66 a (by have := okN_lenX (hok.2.2 _ (List.mem_of_getElem? ha)); omega)) ?_)
    | (refine pcK_of (count18 a (hok.2.2 _ (List.mem_of_getElem? ha)) b.Name) ?_)
    | (refine PCall.call (parts_spec b.E (by have := (hok.2.2 _ (List.mem_of_getElem? ha)).2.2.2.2.2 b (List.mem_of_getElem? hb); have := this.2.1.1; omega)) ?_)
    | (refine pcK_of (find24 p x.name) ?_)
    | (have h0 := hon.1 _ b (by simpa using hb); have h1 := h0.1; have h2 := h0.2; exfalso; omega)
    | (have h0 := hon.2 b (List.mem_of_getElem? hb) x (List.mem_of_getElem? hx) (by assumption); exfalso; omega)
    | (exact absurd rfl (by assumption))
    | (exact finBq rfl (by simp))
    | exact loopFrX _ (by omega) _ ⟨i + 1, by omega, rfl, rfl⟩ (.next rfl (by omega) .nil) rfl (by first | rfl | (simp only [List.append_assoc, List.cons_append, List.nil_append]; rfl))
    | (refine loop_frX [2, 3, 4, 5, 6, 7, 8, 9, 10, 21, 22, 23, 24, 25, 26, 27, 28, 29, 30, 31, 32, 33, 34, 35, 36, 37, 38, 39, 40, 41, 42, 43, 44, 45, 46, 47, 48, 49, 50, 51, 52, 53, 54, 55, 56, 57, 58, 59, 60, 61, 62, 63, 64, 65, 66, 67, 68, 69, 70, 71, 72, 73, 74, 75, 76, 77, 78, 79, 80, 81, 82, 83, 84, 85, 86, 87, 88, 89, 90, 91, 92, 93, 94, 95, 96, 97, 98, 99, 100, 101] (fun mm_ CC_ => ∃ (i : Nat), i ≤ p.Nodes.length ∧ mm_ = p.Nodes.length - i ∧ CC_ = [(3, .raw (.int .i64 ((i : Nat) : Int)))]) (p.Nodes.length) _ ⟨0, by omega, by omega, rfl⟩ (.cons rfl .nil) ?_; rintro mm_ CC_ ji ri ⟨i, hi, rfl, rfl⟩)
    | exact loopFrH _ (by omega) ⟨k + 1, by omega, rfl, rfl⟩ (.next rfl (by omega) .nil) rfl
    | (refine loop_frH [2, 6, 7, 35, 36, 37, 38, 39, 40, 41, 42, 43, 44, 45, 46, 47, 48, 49, 50, 51, 52, 53, 54] (fun mm_ CC_ => ∃ (k : Nat), k ≤ (allV a).length ∧ mm_ = (allV a).length - k ∧ CC_ = [(6, .raw (.int .i64 ((k : Nat) : Int)))]) ((allV a).length) _ ⟨0, by omega, by omega, rfl⟩ (.cons rfl .nil) ?_; rintro mm_ CC_ jk ⟨k, hk, rfl, rfl⟩)
    | exact loopFrH _ (by omega) ⟨e + 1, by omega, rfl, rfl⟩ (.next rfl (by omega) .nil) rfl
    | (refine loop_frH [2, 8, 9, 10, 55, 56, 57, 58, 59, 60, 61, 62, 63, 64, 65, 66, 67, 68, 69, 70, 71, 72, 73, 74, 75, 76, 77, 78, 79, 80, 81, 82, 83, 84, 85, 86, 87, 88, 89, 90, 91, 92, 93, 94, 95, 96, 97, 98, 99, 100, 101] (fun mm_ CC_ => ∃ (e : Nat), e ≤ a.Eqs.length ∧ mm_ = a.Eqs.length - e ∧ CC_ = [(8, .raw (.int .i64 ((e : Nat) : Int)))]) (a.Eqs.length) _ ⟨0, by omega, by omega, rfl⟩ (.cons rfl .nil) ?_; rintro mm_ CC_ je ⟨e, he, rfl, rfl⟩)
    | exact loopFrH _ (by omega) ⟨m + 1, by omega, rfl, rfl⟩ (.next rfl (by omega) .nil) rfl
    | (refine loop_frH [2, 10, 69, 70, 71, 72, 73, 74, 75, 76, 77, 78, 79, 80, 81, 82, 83, 84, 85, 86, 87, 88, 89, 90, 91, 92, 93, 94, 95, 96, 97, 98, 99, 100, 101] (fun mm_ CC_ => ∃ (m : Nat), m ≤ (parts b.E).length ∧ mm_ = (parts b.E).length - m ∧ CC_ = [(10, .raw (.int .i64 ((m : Nat) : Int)))]) ((parts b.E).length) _ ⟨0, by omega, by omega, rfl⟩ (.cons rfl .nil) ?_; rintro mm_ CC_ jm ⟨m, hm, rfl, rfl⟩)

end Go.Proofs.YtipcmpkihhfhcaaGreatDoor
