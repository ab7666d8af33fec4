import Derived.Test.YtlomkmbajkbdnaaDoorRightR
import Derived.Test.YtlomkmbajkbdnaaDoorSame3
namespace Go.Proofs.YtlomkmbajkbdnaaDoor
open Go.Abs
set_option maxRecDepth 20000
set_option linter.unusedSimpArgs false
set_option linter.unusedVariables false
set_option maxHeartbeats 1000000
attribute [local irreducible] vc vcOps vcStep vcGuard prK hrK gK gsK brK callK ElemK SeqK BlockK ScopeK OpsK CallK LoopK LoopGo finPost ACall PCall PCallE BCall vqOps vqStep vqGuard qrK heK pcK gqK gqsK QOpsK qcallK DrawK
theorem n26 : (Tryd.f26.name == "runtime.NumGoroutine") = false := by kernel_rfl
theorem vars26 (e : Ex) (hb : (parts e).length ≤ 100000) : PCall Tryd.prog 26 [e.enc] (.lst 1 ((varsE (parts e)).map AV.s) none) := by
  refine pcall_of_vc tabOK Tryd.func26 n26 rfl (by repeat' first | exact pure_nil | refine pure_cons ?_ ?_ | exact .raw _ | exact pure_enc _ | exact pure_lst _ | exact pure_strs _ | exact pure_ints _ | exact DTy.pure _ | exact DTy.pures _ | exact DEnum.pure _ | exact DEnum.pures _ | exact DDecl.pure _ | exact DDecl.pures _ | exact DEq.pure _ | exact DEq.pures _ | exact DNode.pure _ | exact DNode.pures _ | exact DProg.pure _ | exact DProg.pures _ | exact DCond.pure _ | exact DCond.pures _ | exact DAtom.pure _ | exact DAtom.pures _ | exact DPlain.pure _ | exact DPlain.pures _ | exact DVar.pure _ | exact DVar.pures _ | exact DFlow.pure _ | exact DFlow.pures _ | exact DFlows.pure _ | exact DFlows.pures _ | exact DAsked.pure _ | exact DAsked.pures _ | exact DFault.pure _ | exact DFault.pures _ | exact DCell.pure _ | exact DCell.pures _ | exact DReply.pure _ | exact DReply.pures _ | exact DAsk.pure _ | exact DAsk.pures _ | exact DOp.pure _ | exact DOp.pures _ | exact pure_list (fun x => DDecl.pures x) _ | exact .fn _ _ _ pure_nil pure_nil | refine .agg _ ?_ | refine .tup _ ?_ | assumption) (pure_strs _) (n := 46) rfl (rs := [.tmp 2]) rfl ?_
  simp only [go_sem, Nat.reduceAdd, Nat.reduceSub, Nat.reduceMul, Nat.reduceLT, Nat.reduceLeDiff, Nat.reduceEqDiff, Nat.reduceBEq, Nat.reduceBNe, Nat.reducePow, Int.reduceEq, Int.reduceNe, Int.reduceLT, Int.reduceLE, Int.reduceGT, Int.reduceGE, Int.reduceAdd, Int.reduceSub, Int.reduceNeg, Int.reduceMul, not_true_eq_false, not_false_eq_true, true_and, and_true, Int.reduceToNat]
  refine PCall.call (parts_spec e hb) ?_
  generalize parts e = L at hb
  simp only [go_sem, Nat.reduceAdd, Nat.reduceSub, Nat.reduceMul, Nat.reduceLT, Nat.reduceLeDiff, Nat.reduceEqDiff, Nat.reduceBEq, Nat.reduceBNe, Nat.reducePow, Int.reduceEq, Int.reduceNe, Int.reduceLT, Int.reduceLE, Int.reduceGT, Int.reduceGE, Int.reduceAdd, Int.reduceSub, Int.reduceNeg, Int.reduceMul, not_true_eq_false, not_false_eq_true, true_and, and_true, Int.reduceToNat]
  refine loop_fr [3, 5, 9, 10, 11, 12, 13, 14, 15, 16, 17, 18, 19, 20, 21, 22, 23, 24, 25, 26, 27, 28, 29, 30, 31, 32, 33, 34, 35, 36, 37, 38, 39, 40, 41, 42, 43, 44] (fun m C hh => ∃ (i : Nat) (r : List Blk), i ≤ L.length ∧ m = L.length - i ∧ C = [(5, .raw (.int .i64 (i : Nat))), (3, .lst 1 ((varsE (L.take i)).map AV.s) (some 1))] ∧ hh = exBx e :: .tok 9 1 (varsE (L.take i)).length :: r) L.length _ ⟨0, _, by omega, by omega, rfl, rfl⟩ (.cons rfl (.cons rfl .nil)) ?_
  rintro m C j hh ⟨i, r, hi, rfl, rfl, rfl⟩
  simp only [go_sem, Nat.reduceAdd, Nat.reduceSub, Nat.reduceMul, Nat.reduceLT, Nat.reduceLeDiff, Nat.reduceEqDiff, Nat.reduceBEq, Nat.reduceBNe, Nat.reducePow, Int.reduceEq, Int.reduceNe, Int.reduceLT, Int.reduceLE, Int.reduceGT, Int.reduceGE, Int.reduceAdd, Int.reduceSub, Int.reduceNeg, Int.reduceMul, not_true_eq_false, not_false_eq_true, true_and, and_true, Int.reduceToNat]
  intro _
  refine brK_dec (fun hlt => ?_) (fun hge => ?_)
  · obtain ⟨x, hx⟩ : ∃ x, L[i]? = some x := ⟨_, List.getElem?_eq_getElem (by omega)⟩
    have hle := varsE_le (L.take i)
    rw [List.length_take] at hle
    have hst := varsE_step hx
    repeat' first
      | (exfalso; omega)
      | simp only [go_sem, Nat.reduceAdd, Nat.reduceSub, Nat.reduceMul, Nat.reduceLT, Nat.reduceLeDiff, Nat.reduceEqDiff, Nat.reduceBEq, Nat.reduceBNe, Nat.reducePow, Int.reduceEq, Int.reduceNe, Int.reduceLT, Int.reduceLE, Int.reduceGT, Int.reduceGE, Int.reduceAdd, Int.reduceSub, Int.reduceNeg, Int.reduceMul, not_true_eq_false, not_false_eq_true, true_and, and_true, Int.reduceToNat]
      | (intro _)
      | refine brK_dec (fun _ => ?_) (fun _ => ?_)
      | refine gK_dec (fun _ => ?_) (fun _ => ?_)
      | refine elemHave (by omega) (by simpa using hx) ?_
      | refine ⟨by omega, ?_⟩
      | (have hv : isV x = true := (by simp [isV, *]; done)
         rw [if_pos hv] at hst
         exact loopFr _ (by omega) ⟨i + 1, _, by omega, rfl, rfl, by rw [hst]; simp; rfl⟩ (.next rfl (by omega) (.cons (by rw [hst]; simp [slot]) .nil)) rfl)
      | (have hv : ¬ isV x = true := (by simp [isV, *]; done)
         rw [if_neg hv, List.append_nil] at hst
         exact loopFr _ (by omega) ⟨i + 1, _, by omega, rfl, rfl, by rw [hst]⟩ (.next rfl (by omega) (.cons (by rw [hst]; rfl) .nil)) rfl)
  · have hie : i = L.length := by omega
    subst hie
    simp only [go_sem, Nat.reduceAdd, Nat.reduceSub, Nat.reduceMul, Nat.reduceLT, Nat.reduceLeDiff, Nat.reduceEqDiff, Nat.reduceBEq, Nat.reduceBNe, Nat.reducePow, Int.reduceEq, Int.reduceNe, Int.reduceLT, Int.reduceLE, Int.reduceGT, Int.reduceGE, Int.reduceAdd, Int.reduceSub, Int.reduceNeg, Int.reduceMul, not_true_eq_false, not_false_eq_true, true_and, and_true, Int.reduceToNat]
    rw [List.take_length]
    exact ⟨_, rfl, false, .tok _ _ _⟩

abbrev exL : Ex := .mk 6 0 ⟨#[]⟩ 3 [] [.mk 3 0 ⟨#[97]⟩ 0 [] [], .mk 1 1 ⟨#[]⟩ 0 [] []]
theorem exL_parts : parts exL = [exL, .mk 3 0 ⟨#[97]⟩ 0 [] [], .mk 1 1 ⟨#[]⟩ 0 [] []] := by simp [parts, partsL]
theorem exL_ok : okE exL := by
  constructor
  · rw [exL_parts]; decide
  · rw [exL_parts]; intro x hx
    simp only [List.mem_cons, List.not_mem_nil, or_false] at hx
    rcases hx with rfl | rfl | rfl <;> exact ⟨by decide, fun a ha => by simp [Ex.arms] at ha⟩
theorem low_a : lowF ⟨#[97]⟩ = true := by decide +kernel
theorem exL_right : rightE exL = true := by
  unfold rightE
  rw [exL_parts]
  have h0 : onceB [] = true := once0 rfl
  simp [partE, numbersE, namedE, armsE, subsE, Ex.kind, Ex.op, Ex.n, Ex.name, Ex.arms, Ex.subs, low_a, depthE, depthL]
theorem exL_vars : varsE (parts exL) = [⟨#[97]⟩] := by rw [exL_parts]; simp [varsE, isV, Ex.kind, Ex.name]
theorem exL_depth : depthE exL = 2 := by simp [depthE, depthL]
theorem weakL (t : Option Nat) : Weak (.agg [.i 6, .i 0, .s ⟨#[]⟩, .i 3, .raw (.slice none 0 0), .lst 6 [.agg [.i 3, .i 0, .s ⟨#[97]⟩, .i 0, .raw (.slice none 0 0), .raw (.slice none 0 0)], .agg [.i 1, .i 1, .s ⟨#[]⟩, .i 0, .raw (.slice none 0 0), .raw (.slice none 0 0)]] t]) exL.enc := by
  repeat' first | exact trivial | exact .nil _ | exact .refl _ | exact .tok _ _ _ | refine ⟨?_, ?_⟩ | refine weak_ex ?_ ?_ | refine weak_subs rfl ?_ | simp only [flat_nil, flat_agg, flat_ex, flat_ex0, enc_cells, List.cons_append, List.nil_append, Ex.kind, Ex.n, Ex.name, Ex.op, Ex.arms, Ex.subs]
theorem n15 : (Tryd.f15.name == "runtime.NumGoroutine") = false := by kernel_rfl
theorem live15  : PCall Tryd.prog 15 [] (.b true) := by
  refine pcall_of_vc tabOK Tryd.func15 n15 rfl (by repeat' first | exact pure_nil | refine pure_cons ?_ ?_ | exact .raw _ | exact pure_enc _ | exact pure_lst _ | exact pure_strs _ | exact pure_ints _ | exact DTy.pure _ | exact DTy.pures _ | exact DEnum.pure _ | exact DEnum.pures _ | exact DDecl.pure _ | exact DDecl.pures _ | exact DEq.pure _ | exact DEq.pures _ | exact DNode.pure _ | exact DNode.pures _ | exact DProg.pure _ | exact DProg.pures _ | exact DCond.pure _ | exact DCond.pures _ | exact DAtom.pure _ | exact DAtom.pures _ | exact DPlain.pure _ | exact DPlain.pures _ | exact DVar.pure _ | exact DVar.pures _ | exact DFlow.pure _ | exact DFlow.pures _ | exact DFlows.pure _ | exact DFlows.pures _ | exact DAsked.pure _ | exact DAsked.pures _ | exact DFault.pure _ | exact DFault.pures _ | exact DCell.pure _ | exact DCell.pures _ | exact DReply.pure _ | exact DReply.pures _ | exact DAsk.pure _ | exact DAsk.pures _ | exact DOp.pure _ | exact DOp.pures _ | exact pure_list (fun x => DDecl.pures x) _ | exact .fn _ _ _ pure_nil pure_nil | refine .agg _ ?_ | refine .tup _ ?_ | assumption) (by repeat' first | exact pure_nil | refine pure_cons ?_ ?_ | exact .raw _ | exact pure_enc _ | exact pure_lst _ | exact pure_strs _ | exact pure_ints _ | exact DTy.pure _ | exact DTy.pures _ | exact DEnum.pure _ | exact DEnum.pures _ | exact DDecl.pure _ | exact DDecl.pures _ | exact DEq.pure _ | exact DEq.pures _ | exact DNode.pure _ | exact DNode.pures _ | exact DProg.pure _ | exact DProg.pures _ | exact DCond.pure _ | exact DCond.pures _ | exact DAtom.pure _ | exact DAtom.pures _ | exact DPlain.pure _ | exact DPlain.pures _ | exact DVar.pure _ | exact DVar.pures _ | exact DFlow.pure _ | exact DFlow.pures _ | exact DFlows.pure _ | exact DFlows.pures _ | exact DAsked.pure _ | exact DAsked.pures _ | exact DFault.pure _ | exact DFault.pures _ | exact DCell.pure _ | exact DCell.pures _ | exact DReply.pure _ | exact DReply.pures _ | exact DAsk.pure _ | exact DAsk.pures _ | exact DOp.pure _ | exact DOp.pures _ | exact pure_list (fun x => DDecl.pures x) _ | exact .fn _ _ _ pure_nil pure_nil | refine .agg _ ?_ | refine .tup _ ?_ | assumption) (n := 24) rfl (rs := [.tmp 0]) rfl ?_
  have hb : (parts exL).length ≤ 100000 := by rw [exL_parts]; decide
  have h3 : (parts exL).length = 3 := by rw [exL_parts]; rfl
  have hsz := size20 exL hb
  have hdp := depth22 exL hb
  have hvs := vars25 exL hb
  have hrt := right16 exL exL_ok
  rw [h3] at hsz
  rw [exL_depth] at hdp
  rw [exL_vars] at hvs
  rw [exL_right] at hrt
  repeat' first
    | (exfalso; omega)
    | simp only [go_sem, Nat.reduceAdd, Nat.reduceSub, Nat.reduceMul, Nat.reduceLT, Nat.reduceLeDiff, Nat.reduceEqDiff, Nat.reduceBEq, Nat.reduceBNe, Nat.reducePow, Int.reduceEq, Int.reduceNe, Int.reduceLT, Int.reduceLE, Int.reduceGT, Int.reduceGE, Int.reduceAdd, Int.reduceSub, Int.reduceNeg, Int.reduceMul, not_true_eq_false, not_false_eq_true, true_and, and_true, Int.reduceToNat]
    | refine gK_dec (fun _ => ?_) (fun _ => ?_)
    | (refine PCall.callW hsz ⟨weakL _, trivial⟩ ?_)
    | (refine PCall.callW hdp ⟨weakL _, trivial⟩ ?_)
    | (refine PCall.callW hvs ⟨weakL _, trivial⟩ ?_)
    | (refine PCall.callW hrt ⟨weakL _, trivial⟩ ?_)
    | (refine PCall.callW (namesStr [⟨#[97]⟩] [⟨#[97]⟩]) ⟨.refl _, .tok _ _ _, trivial⟩ ?_; rw [eqB_eq rfl])
    | exact finP rfl
    | exact finBq rfl (by simp)
    | (exfalso; omega)
    | (refine drawK mo (by kernel_rfl) ?_)
    | (refine pcK_ofW hsz ⟨weakL _, trivial⟩ ?_)
    | (refine pcK_ofW hdp ⟨weakL _, trivial⟩ ?_)
    | (refine pcK_ofW hvs ⟨weakL _, trivial⟩ ?_)
    | (refine pcK_ofW hrt ⟨weakL _, trivial⟩ ?_)
    | (refine pcK_ofW (namesStr [⟨#[97]⟩] [⟨#[97]⟩]) ⟨.refl _, .tok _ _ _, trivial⟩ ?_; rw [eqB_eq rfl])
end Go.Proofs.YtlomkmbajkbdnaaDoor
