import Derived.Test.YtfjjckaiopbbkaaFits2
namespace Go.Proofs.Ytfjjckaiopbbkaa
open Go.Abs
set_option maxRecDepth 20000
set_option linter.unusedSimpArgs false
set_option linter.unusedVariables false
set_option maxHeartbeats 1000000
attribute [local irreducible] vc vcOps vcStep vcGuard prK hrK gK gsK brK callK ElemK SeqK BlockK ScopeK OpsK CallK LoopK LoopGo finPost ACall PCall PCallE BCall vqOps vqStep vqGuard qrK heK pcK gqK gqsK QOpsK qcallK DrawK
theorem nodeAt_nat {p : DProg} {k : Nat} : nodeAt p k = p.Nodes[k]? := by simp [nodeAt]
theorem nodeAt_none {p : DProg} {k : Int} : nodeAt p k = none ↔ (k < 0 ∨ k ≥ p.Nodes.length) := by
  unfold nodeAt
  split
  · simp [List.getElem?_eq_none_iff]; omega
  · simp; omega
theorem nodeAt_some {p : DProg} {k : Int} {n : DNode} (h : nodeAt p k = some n) : ∃ j : Nat, k = j ∧ p.Nodes[j]? = some n := by
  unfold nodeAt at h
  split at h
  · exact ⟨k.toNat, by omega, h⟩
  · cases h
abbrev progB (p : DProg) : Blk := .cells 35 [.lst 2 (p.Enums.map DEnum.enc) none, .lst 5 (p.Nodes.map DNode.enc) none]
theorem armA_fst (L : List DEnum) (c : ByteArray) : armA (armF L c) = armA ((armF L c).1, (armF L c).2.1, armOk L c) := rfl
theorem n46 : (Try.f46.name == "runtime.NumGoroutine") = false := by kernel_rfl
theorem row46v (p : DProg) (k : Nat) (n : DNode) (hn : p.Nodes[k]? = some n) (name : ByteArray) (hl : (allV n).length ≤ 4294967296) : PCall Try.prog 46 [p.enc, .i k, .s name] (rowA (rowN p.Enums n name)) := by
  refine pcall_of_vc tabOK Try.func46 n46 rfl (by repeat' first | exact pure_nil | refine pure_cons ?_ ?_ | exact .raw _ | exact pure_enc _ | exact pure_lst _ | exact pure_strs _ | exact pure_ints _ | exact DTy.pure _ | exact DTy.pures _ | exact DEnum.pure _ | exact DEnum.pures _ | exact DDecl.pure _ | exact DDecl.pures _ | exact DEq.pure _ | exact DEq.pures _ | exact DNode.pure _ | exact DNode.pures _ | exact DProg.pure _ | exact DProg.pures _ | exact DCond.pure _ | exact DCond.pures _ | exact DAtom.pure _ | exact DAtom.pures _ | exact DPlain.pure _ | exact DPlain.pures _ | exact DVar.pure _ | exact DVar.pures _ | exact DFlow.pure _ | exact DFlow.pures _ | exact DFlows.pure _ | exact DFlows.pures _ | exact DAsked.pure _ | exact DAsked.pures _ | exact DFault.pure _ | exact DFault.pures _ | exact DCell.pure _ | exact DCell.pures _ | exact DReply.pure _ | exact DReply.pures _ | exact DAsk.pure _ | exact DAsk.pures _ | exact DOp.pure _ | exact DOp.pures _ | exact pure_list (fun x => DDecl.pures x) _ | exact .fn _ _ _ pure_nil pure_nil | refine .agg _ ?_ | refine .tup _ ?_ | assumption) (by repeat' first | exact pure_nil | refine pure_cons ?_ ?_ | exact .raw _ | exact pure_enc _ | exact pure_lst _ | exact pure_strs _ | exact pure_ints _ | exact DTy.pure _ | exact DTy.pures _ | exact DEnum.pure _ | exact DEnum.pures _ | exact DDecl.pure _ | exact DDecl.pures _ | exact DEq.pure _ | exact DEq.pures _ | exact DNode.pure _ | exact DNode.pures _ | exact DProg.pure _ | exact DProg.pures _ | exact DCond.pure _ | exact DCond.pures _ | exact DAtom.pure _ | exact DAtom.pures _ | exact DPlain.pure _ | exact DPlain.pures _ | exact DVar.pure _ | exact DVar.pures _ | exact DFlow.pure _ | exact DFlow.pures _ | exact DFlows.pure _ | exact DFlows.pures _ | exact DAsked.pure _ | exact DAsked.pures _ | exact DFault.pure _ | exact DFault.pures _ | exact DCell.pure _ | exact DCell.pures _ | exact DReply.pure _ | exact DReply.pures _ | exact DAsk.pure _ | exact DAsk.pures _ | exact DOp.pure _ | exact DOp.pures _ | exact pure_list (fun x => DDecl.pures x) _ | exact .fn _ _ _ pure_nil pure_nil | refine .agg _ ?_ | refine .tup _ ?_ | assumption) (n := 68) rfl (rs := [.tmp 6, .tmp 7]) rfl ?_
  have hk : k < p.Nodes.length := (List.getElem?_eq_some_iff.1 hn).1
  repeat' first | (exfalso; omega) | simp only [go_sem, Nat.reduceAdd, Nat.reduceSub, Nat.reduceMul, Nat.reduceLT, Nat.reduceLeDiff, Nat.reduceEqDiff, Nat.reduceBEq, Nat.reduceBNe, Nat.reducePow, Int.reduceEq, Int.reduceNe, Int.reduceLT, Int.reduceLE, Int.reduceGT, Int.reduceGE, Int.reduceAdd, Int.reduceSub, Int.reduceNeg, Int.reduceMul, not_true_eq_false, not_false_eq_true, true_and, and_true, Int.reduceToNat] | (intro _) | refine gK_dec (fun _ => ?_) (fun _ => ?_) | refine brK_dec (fun _ => ?_) (fun _ => ?_)
  refine elemHave (by omega) (by simpa using hn) ?_
  simp only [go_sem, Nat.reduceAdd, Nat.reduceSub, Nat.reduceMul, Nat.reduceLT, Nat.reduceLeDiff, Nat.reduceEqDiff, Nat.reduceBEq, Nat.reduceBNe, Nat.reducePow, Int.reduceEq, Int.reduceNe, Int.reduceLT, Int.reduceLE, Int.reduceGT, Int.reduceGE, Int.reduceAdd, Int.reduceSub, Int.reduceNeg, Int.reduceMul, not_true_eq_false, not_false_eq_true, true_and, and_true, Int.reduceToNat]
  refine PCall.call (clock22 n name hl) ?_
  unfold rowN
  have hlen := clock_len n name
  generalize clock n name = d at hlen ⊢
  obtain ⟨l, ok⟩ := d
  dsimp only at hlen
  cases ok with
  | false =>
    simp only [go_sem, Nat.reduceAdd, Nat.reduceSub, Nat.reduceMul, Nat.reduceLT, Nat.reduceLeDiff, Nat.reduceEqDiff, Nat.reduceBEq, Nat.reduceBNe, Nat.reducePow, Int.reduceEq, Int.reduceNe, Int.reduceLT, Int.reduceLE, Int.reduceGT, Int.reduceGE, Int.reduceAdd, Int.reduceSub, Int.reduceNeg, Int.reduceMul, not_true_eq_false, not_false_eq_true, true_and, and_true, Int.reduceToNat]
    exact ⟨_, rfl, false, weak_norow⟩
  | true =>
    simp only [go_sem, Nat.reduceAdd, Nat.reduceSub, Nat.reduceMul, Nat.reduceLT, Nat.reduceLeDiff, Nat.reduceEqDiff, Nat.reduceBEq, Nat.reduceBNe, Nat.reducePow, Int.reduceEq, Int.reduceNe, Int.reduceLT, Int.reduceLE, Int.reduceGT, Int.reduceGE, Int.reduceAdd, Int.reduceSub, Int.reduceNeg, Int.reduceMul, not_true_eq_false, not_false_eq_true, true_and, and_true, Int.reduceToNat]
    refine loop_fr [6, 7, 10, 11, 12, 13, 14, 37, 38, 39, 40, 41, 42, 43, 44, 45, 46, 47, 48, 49, 50, 51, 52, 53, 54, 55, 56, 57, 58, 59, 60, 61, 62, 63, 64, 65, 66] (fun m C h => ∃ (i : Nat) (r : List Blk), i ≤ l.length ∧ m = l.length - i ∧ (∀ d ∈ l.take i, armOk p.Enums d.Ctor = true) ∧ C = [(11, .raw (.int .i64 (i : Nat))), (10, .lst 2 (((l.take i).map (fun d => condOf p.Enums d.On d.Ctor)).map DCond.enc) (some 1))] ∧
      h = progB p :: .tok 130 2 (((l.take i).map (fun d => condOf p.Enums d.On d.Ctor)).map DCond.enc).length :: r) l.length _ ⟨0, [], by omega, by omega, by simp, rfl, rfl⟩ (.cons rfl (.cons rfl .nil)) ?_
    rintro m C j h ⟨i, r, hi, rfl, ha, rfl, rfl⟩
    simp only [go_sem, Nat.reduceAdd, Nat.reduceSub, Nat.reduceMul, Nat.reduceLT, Nat.reduceLeDiff, Nat.reduceEqDiff, Nat.reduceBEq, Nat.reduceBNe, Nat.reducePow, Int.reduceEq, Int.reduceNe, Int.reduceLT, Int.reduceLE, Int.reduceGT, Int.reduceGE, Int.reduceAdd, Int.reduceSub, Int.reduceNeg, Int.reduceMul, not_true_eq_false, not_false_eq_true, true_and, and_true, Int.reduceToNat]
    intro _
    refine brK_dec (fun hlt => ?_) (fun hge => ?_)
    · simp only [go_sem, Nat.reduceAdd, Nat.reduceSub, Nat.reduceMul, Nat.reduceLT, Nat.reduceLeDiff, Nat.reduceEqDiff, Nat.reduceBEq, Nat.reduceBNe, Nat.reducePow, Int.reduceEq, Int.reduceNe, Int.reduceLT, Int.reduceLE, Int.reduceGT, Int.reduceGE, Int.reduceAdd, Int.reduceSub, Int.reduceNeg, Int.reduceMul, not_true_eq_false, not_false_eq_true, true_and, and_true, Int.reduceToNat]
      refine drawK mo (by kernel_rfl) ?_
      simp only [go_sem, Nat.reduceAdd, Nat.reduceSub, Nat.reduceMul, Nat.reduceLT, Nat.reduceLeDiff, Nat.reduceEqDiff, Nat.reduceBEq, Nat.reduceBNe, Nat.reducePow, Int.reduceEq, Int.reduceNe, Int.reduceLT, Int.reduceLE, Int.reduceGT, Int.reduceGE, Int.reduceAdd, Int.reduceSub, Int.reduceNeg, Int.reduceMul, not_true_eq_false, not_false_eq_true, true_and, and_true, Int.reduceToNat]
      refine elemMap (by omega) (by omega) (fun x hx => ?_)
      have hx' : l[i]? = some x := by simpa using hx
      simp only [go_sem, Nat.reduceAdd, Nat.reduceSub, Nat.reduceMul, Nat.reduceLT, Nat.reduceLeDiff, Nat.reduceEqDiff, Nat.reduceBEq, Nat.reduceBNe, Nat.reducePow, Int.reduceEq, Int.reduceNe, Int.reduceLT, Int.reduceLE, Int.reduceGT, Int.reduceGE, Int.reduceAdd, Int.reduceSub, Int.reduceNeg, Int.reduceMul, not_true_eq_false, not_false_eq_true, true_and, and_true, Int.reduceToNat]
      refine pcK_of (arm91 p.Enums x.Ctor) ?_
      rw [armA_fst]
      generalize hb : armOk p.Enums x.Ctor = ok
      cases ok with
      | false =>
        simp only [go_sem, Nat.reduceAdd, Nat.reduceSub, Nat.reduceMul, Nat.reduceLT, Nat.reduceLeDiff, Nat.reduceEqDiff, Nat.reduceBEq, Nat.reduceBNe, Nat.reducePow, Int.reduceEq, Int.reduceNe, Int.reduceLT, Int.reduceLE, Int.reduceGT, Int.reduceGE, Int.reduceAdd, Int.reduceSub, Int.reduceNeg, Int.reduceMul, not_true_eq_false, not_false_eq_true, true_and, and_true, Int.reduceToNat, monoApp, monoApp2]
        rw [rowL_no (List.mem_of_getElem? hx') hb]
        exact ⟨_, rfl, false, weak_norow⟩
      | true =>
        simp only [go_sem, Nat.reduceAdd, Nat.reduceSub, Nat.reduceMul, Nat.reduceLT, Nat.reduceLeDiff, Nat.reduceEqDiff, Nat.reduceBEq, Nat.reduceBNe, Nat.reducePow, Int.reduceEq, Int.reduceNe, Int.reduceLT, Int.reduceLE, Int.reduceGT, Int.reduceGE, Int.reduceAdd, Int.reduceSub, Int.reduceNeg, Int.reduceMul, not_true_eq_false, not_false_eq_true, true_and, and_true, Int.reduceToNat, monoApp, monoApp2]
        refine elemMap (by omega) (by omega) (fun y hy => ?_)
        rw [hx] at hy; cases hy
        simp only [go_sem, Nat.reduceAdd, Nat.reduceSub, Nat.reduceMul, Nat.reduceLT, Nat.reduceLeDiff, Nat.reduceEqDiff, Nat.reduceBEq, Nat.reduceBNe, Nat.reducePow, Int.reduceEq, Int.reduceNe, Int.reduceLT, Int.reduceLE, Int.reduceGT, Int.reduceGE, Int.reduceAdd, Int.reduceSub, Int.reduceNeg, Int.reduceMul, not_true_eq_false, not_false_eq_true, true_and, and_true, Int.reduceToNat]
        refine ⟨by simp; omega, ?_⟩
        have h3 : ((l.take (i + 1)).map (fun d => condOf p.Enums d.On d.Ctor)).map DCond.enc = ((l.take i).map (fun d => condOf p.Enums d.On d.Ctor)).map DCond.enc ++ [.agg [.s x.On, .i (armF p.Enums x.Ctor).2.1]] := by
          obtain ⟨hlt', rfl⟩ := List.getElem?_eq_some_iff.1 hx'
          rw [List.take_succ_eq_append_getElem hlt', List.map_append, List.map_append]
          simp only [List.map_cons, List.map_nil, DCond.enc_eq, condOf]
        have h4 : (l.take (i + 1)).length = (l.take i).length + 1 := by simp; omega
        exact loopFr _ (by omega) ⟨i + 1, _, by omega, rfl, take_all ha hx' hb, rfl, by rw [h4]⟩
          (.next rfl (by omega) (.cons (by rw [h3]; rfl) .nil)) rfl
    · have : i = l.length := by omega
      subst this
      simp only [go_sem, Nat.reduceAdd, Nat.reduceSub, Nat.reduceMul, Nat.reduceLT, Nat.reduceLeDiff, Nat.reduceEqDiff, Nat.reduceBEq, Nat.reduceBNe, Nat.reducePow, Int.reduceEq, Int.reduceNe, Int.reduceLT, Int.reduceLE, Int.reduceGT, Int.reduceGE, Int.reduceAdd, Int.reduceSub, Int.reduceNeg, Int.reduceMul, not_true_eq_false, not_false_eq_true, true_and, and_true, Int.reduceToNat]
      rw [List.take_length] at ha ⊢
      rw [rowL_yes ha]
      exact ⟨_, rfl, false, Weak.tups ⟨.tok _ _ _, .refl _, trivial⟩⟩
theorem row46n (p : DProg) (k : Int) (hn : nodeAt p k = none) (name : ByteArray) : PCall Try.prog 46 [p.enc, .i k, .s name] (rowA ([], false)) := by
  refine pcall_of_vc tabOK Try.func46 n46 rfl (by repeat' first | exact pure_nil | refine pure_cons ?_ ?_ | exact .raw _ | exact pure_enc _ | exact pure_lst _ | exact pure_strs _ | exact pure_ints _ | exact DTy.pure _ | exact DTy.pures _ | exact DEnum.pure _ | exact DEnum.pures _ | exact DDecl.pure _ | exact DDecl.pures _ | exact DEq.pure _ | exact DEq.pures _ | exact DNode.pure _ | exact DNode.pures _ | exact DProg.pure _ | exact DProg.pures _ | exact DCond.pure _ | exact DCond.pures _ | exact DAtom.pure _ | exact DAtom.pures _ | exact DPlain.pure _ | exact DPlain.pures _ | exact DVar.pure _ | exact DVar.pures _ | exact DFlow.pure _ | exact DFlow.pures _ | exact DFlows.pure _ | exact DFlows.pures _ | exact DAsked.pure _ | exact DAsked.pures _ | exact DFault.pure _ | exact DFault.pures _ | exact DCell.pure _ | exact DCell.pures _ | exact DReply.pure _ | exact DReply.pures _ | exact DAsk.pure _ | exact DAsk.pures _ | exact DOp.pure _ | exact DOp.pures _ | exact pure_list (fun x => DDecl.pures x) _ | exact .fn _ _ _ pure_nil pure_nil | refine .agg _ ?_ | refine .tup _ ?_ | assumption) (by repeat' first | exact pure_nil | refine pure_cons ?_ ?_ | exact .raw _ | exact pure_enc _ | exact pure_lst _ | exact pure_strs _ | exact pure_ints _ | exact DTy.pure _ | exact DTy.pures _ | exact DEnum.pure _ | exact DEnum.pures _ | exact DDecl.pure _ | exact DDecl.pures _ | exact DEq.pure _ | exact DEq.pures _ | exact DNode.pure _ | exact DNode.pures _ | exact DProg.pure _ | exact DProg.pures _ | exact DCond.pure _ | exact DCond.pures _ | exact DAtom.pure _ | exact DAtom.pures _ | exact DPlain.pure _ | exact DPlain.pures _ | exact DVar.pure _ | exact DVar.pures _ | exact DFlow.pure _ | exact DFlow.pures _ | exact DFlows.pure _ | exact DFlows.pures _ | exact DAsked.pure _ | exact DAsked.pures _ | exact DFault.pure _ | exact DFault.pures _ | exact DCell.pure _ | exact DCell.pures _ | exact DReply.pure _ | exact DReply.pures _ | exact DAsk.pure _ | exact DAsk.pures _ | exact DOp.pure _ | exact DOp.pures _ | exact pure_list (fun x => DDecl.pures x) _ | exact .fn _ _ _ pure_nil pure_nil | refine .agg _ ?_ | refine .tup _ ?_ | assumption) (n := 68) rfl (rs := [.tmp 6, .tmp 7]) rfl ?_
  have hk := nodeAt_none.1 hn
  repeat' first | (exfalso; omega) | exact ⟨_, rfl, false, weak_norow⟩ | simp only [go_sem, Nat.reduceAdd, Nat.reduceSub, Nat.reduceMul, Nat.reduceLT, Nat.reduceLeDiff, Nat.reduceEqDiff, Nat.reduceBEq, Nat.reduceBNe, Nat.reducePow, Int.reduceEq, Int.reduceNe, Int.reduceLT, Int.reduceLE, Int.reduceGT, Int.reduceGE, Int.reduceAdd, Int.reduceSub, Int.reduceNeg, Int.reduceMul, not_true_eq_false, not_false_eq_true, true_and, and_true, Int.reduceToNat] | (intro _) | refine gK_dec (fun _ => ?_) (fun _ => ?_) | refine brK_dec (fun _ => ?_) (fun _ => ?_)
theorem row46 (p : DProg) (k : Int) (name : ByteArray) (hl : ∀ n ∈ p.Nodes, (allV n).length ≤ 4294967296) : PCall Try.prog 46 [p.enc, .i k, .s name] (rowA (rowF p k name)) := by
  unfold rowF
  cases hn : nodeAt p k with
  | none => exact row46n p k hn name
  | some n =>
    obtain ⟨j, rfl, hj⟩ := nodeAt_some hn
    exact row46v p j n hj name (hl n (List.mem_of_getElem? hj))
end Go.Proofs.Ytfjjckaiopbbkaa
