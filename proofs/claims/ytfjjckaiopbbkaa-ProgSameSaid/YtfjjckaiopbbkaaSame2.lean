import Derived.Test.YtfjjckaiopbbkaaSame1
namespace Go.Proofs.Ytfjjckaiopbbkaa
open Go.Abs
set_option maxRecDepth 20000
set_option linter.unusedSimpArgs false
set_option linter.unusedVariables false
set_option maxHeartbeats 4000000
attribute [local irreducible] vc vcOps vcStep vcGuard prK hrK gK gsK brK callK ElemK SeqK BlockK ScopeK OpsK CallK LoopK LoopGo finPost ACall PCall PCallE BCall vqOps vqStep vqGuard qrK heK pcK gqK gqsK QOpsK qcallK DrawK
theorem ext_Ex {x y : Ex} (h0 : x.kind = y.kind) (h1 : x.n = y.n) (h2 : x.name = y.name) (h3 : x.op = y.op) (h4 : x.arms = y.arms) (h5 : x.subs = y.subs) : x = y := by
  cases x; cases y
  simp only [Ex.kind, Ex.n, Ex.name, Ex.op, Ex.arms, Ex.subs] at *
  subst_vars
  rfl
theorem ext_DEnum {x y : DEnum} (h0 : x.Name = y.Name) (h1 : x.Ctors = y.Ctors) : x = y := by cases x; cases y; simp_all
theorem ext_DEq {x y : DEq} (h0 : x.Names = y.Names) (h1 : x.E = y.E) : x = y := by cases x; cases y; simp_all
theorem ext_DNode {x y : DNode} (h0 : x.Name = y.Name) (h1 : x.Ins = y.Ins) (h2 : x.Outs = y.Outs) (h3 : x.Vars = y.Vars) (h4 : x.Eqs = y.Eqs) : x = y := by cases x; cases y; simp_all
theorem ext_DProg {x y : DProg} (h0 : x.Enums = y.Enums) (h1 : x.Nodes = y.Nodes) : x = y := by cases x; cases y; simp_all

theorem n141 : (Try.f141.name == "runtime.NumGoroutine") = false := by kernel_rfl
theorem exSame141 : ∀ (e f : Ex), PCall Try.prog 141 [e.enc, f.enc] (.b (eqB e f)) := by
  intro e
  induction e using Ex.ind with
  | _ e ih =>
  intro f
  refine pcall_of_vc tabOK Try.func141 n141 rfl (by repeat' first | exact pure_nil | refine pure_cons ?_ ?_ | exact .raw _ | exact pure_enc _ | exact pure_lst _ | exact pure_strs _ | exact pure_ints _ | exact DTy.pure _ | exact DTy.pures _ | exact DEnum.pure _ | exact DEnum.pures _ | exact DDecl.pure _ | exact DDecl.pures _ | exact DEq.pure _ | exact DEq.pures _ | exact DNode.pure _ | exact DNode.pures _ | exact DProg.pure _ | exact DProg.pures _ | exact DCond.pure _ | exact DCond.pures _ | exact DAtom.pure _ | exact DAtom.pures _ | exact DPlain.pure _ | exact DPlain.pures _ | exact DVar.pure _ | exact DVar.pures _ | exact DFlow.pure _ | exact DFlow.pures _ | exact DFlows.pure _ | exact DFlows.pures _ | exact DAsked.pure _ | exact DAsked.pures _ | exact DFault.pure _ | exact DFault.pures _ | exact DCell.pure _ | exact DCell.pures _ | exact DReply.pure _ | exact DReply.pures _ | exact DAsk.pure _ | exact DAsk.pures _ | exact DOp.pure _ | exact DOp.pures _ | exact pure_list (fun x => DDecl.pures x) _ | exact .fn _ _ _ pure_nil pure_nil | refine .agg _ ?_ | refine .tup _ ?_ | assumption) (by repeat' first | exact pure_nil | refine pure_cons ?_ ?_ | exact .raw _ | exact pure_enc _ | exact pure_lst _ | exact pure_strs _ | exact pure_ints _ | exact DTy.pure _ | exact DTy.pures _ | exact DEnum.pure _ | exact DEnum.pures _ | exact DDecl.pure _ | exact DDecl.pures _ | exact DEq.pure _ | exact DEq.pures _ | exact DNode.pure _ | exact DNode.pures _ | exact DProg.pure _ | exact DProg.pures _ | exact DCond.pure _ | exact DCond.pures _ | exact DAtom.pure _ | exact DAtom.pures _ | exact DPlain.pure _ | exact DPlain.pures _ | exact DVar.pure _ | exact DVar.pures _ | exact DFlow.pure _ | exact DFlow.pures _ | exact DFlows.pure _ | exact DFlows.pures _ | exact DAsked.pure _ | exact DAsked.pures _ | exact DFault.pure _ | exact DFault.pures _ | exact DCell.pure _ | exact DCell.pures _ | exact DReply.pure _ | exact DReply.pures _ | exact DAsk.pure _ | exact DAsk.pures _ | exact DOp.pure _ | exact DOp.pures _ | exact pure_list (fun x => DDecl.pures x) _ | exact .fn _ _ _ pure_nil pure_nil | refine .agg _ ?_ | refine .tup _ ?_ | assumption) (n := 45) rfl (rs := [.tmp 4]) rfl ?_
  repeat' first
    | exact finB rfl
    | exact finI rfl
    | exact finP rfl
    | exact absurd rfl (by assumption)
    | simp only [go_sem, Nat.reduceAdd, Nat.reduceSub, Nat.reduceMul, Nat.reduceLT, Nat.reduceLeDiff, Nat.reduceEqDiff, Nat.reduceBEq, Nat.reduceBNe, Nat.reducePow, Int.reduceEq, Int.reduceNe, Int.reduceLT, Int.reduceLE, Int.reduceGT, Int.reduceGE, Int.reduceAdd, Int.reduceSub, Int.reduceNeg, Int.reduceMul, not_true_eq_false, not_false_eq_true, true_and, and_true, Int.reduceToNat]
    | (intro _)
    | refine brK_dec (fun _ => ?_) (fun _ => ?_)
    | refine brK_any ?_ ?_
    | refine gK_dec (fun _ => ?_) (fun _ => ?_)
    | refine gK_any ?_ ?_
    | refine gqK_dec (fun _ => ?_) (fun _ => ?_)
    | refine ⟨by omega, ?_⟩
    | refine elemHave (by omega) (by assumption) ?_
    | refine elemMap (by omega) (by omega) (fun x hx => ?_)
    | refine drawK mo (by kernel_rfl) ?_
    | (rw [eqB_ne (by rintro rfl; contradiction)]; exact ⟨_, rfl, false, .refl _⟩)
    | (rw [eqB_eq (ext_Ex (by first | assumption | exact Classical.not_not.1 (by assumption)) (by first | assumption | exact Classical.not_not.1 (by assumption)) (by first | assumption | exact Classical.not_not.1 (by assumption)) (by first | assumption | exact Classical.not_not.1 (by assumption)) (by first | assumption | exact Classical.not_not.1 (by assumption)) (by first | assumption | exact Classical.not_not.1 (by assumption)))]; exact ⟨_, rfl, false, .refl _⟩)
    | (refine PCall.call (equalStr _ _) ?_; generalize he : eqB (α := List ByteArray) _ _ = b; cases b <;> first | replace he := eqB_t he | replace he := eqB_f he)
    | (refine PCall.call (equalEx e.subs f.subs (fun x hx y _ => ih x hx y)) ?_; generalize he : eqB (α := List Ex) _ _ = b; cases b <;> first | replace he := eqB_t he | replace he := eqB_f he)

theorem n118 : (Try.f118.name == "runtime.NumGoroutine") = false := by kernel_rfl
theorem exSame118 : ∀ (e f : Ex), PCall Try.prog 118 [e.enc, f.enc] (.b (eqB e f)) := by
  intro e
  induction e using Ex.ind with
  | _ e ih =>
  intro f
  generalize hR : eqB e f = R
  refine pcall_of_vc tabOK Try.func118 n118 rfl (by repeat' first | exact pure_nil | refine pure_cons ?_ ?_ | exact .raw _ | exact pure_enc _ | exact pure_lst _ | exact pure_strs _ | exact pure_ints _ | exact DTy.pure _ | exact DTy.pures _ | exact DEnum.pure _ | exact DEnum.pures _ | exact DDecl.pure _ | exact DDecl.pures _ | exact DEq.pure _ | exact DEq.pures _ | exact DNode.pure _ | exact DNode.pures _ | exact DProg.pure _ | exact DProg.pures _ | exact DCond.pure _ | exact DCond.pures _ | exact DAtom.pure _ | exact DAtom.pures _ | exact DPlain.pure _ | exact DPlain.pures _ | exact DVar.pure _ | exact DVar.pures _ | exact DFlow.pure _ | exact DFlow.pures _ | exact DFlows.pure _ | exact DFlows.pures _ | exact DAsked.pure _ | exact DAsked.pures _ | exact DFault.pure _ | exact DFault.pures _ | exact DCell.pure _ | exact DCell.pures _ | exact DReply.pure _ | exact DReply.pures _ | exact DAsk.pure _ | exact DAsk.pures _ | exact DOp.pure _ | exact DOp.pures _ | exact pure_list (fun x => DDecl.pures x) _ | exact .fn _ _ _ pure_nil pure_nil | refine .agg _ ?_ | refine .tup _ ?_ | assumption) (by repeat' first | exact pure_nil | refine pure_cons ?_ ?_ | exact .raw _ | exact pure_enc _ | exact pure_lst _ | exact pure_strs _ | exact pure_ints _ | exact DTy.pure _ | exact DTy.pures _ | exact DEnum.pure _ | exact DEnum.pures _ | exact DDecl.pure _ | exact DDecl.pures _ | exact DEq.pure _ | exact DEq.pures _ | exact DNode.pure _ | exact DNode.pures _ | exact DProg.pure _ | exact DProg.pures _ | exact DCond.pure _ | exact DCond.pures _ | exact DAtom.pure _ | exact DAtom.pures _ | exact DPlain.pure _ | exact DPlain.pures _ | exact DVar.pure _ | exact DVar.pures _ | exact DFlow.pure _ | exact DFlow.pures _ | exact DFlows.pure _ | exact DFlows.pures _ | exact DAsked.pure _ | exact DAsked.pures _ | exact DFault.pure _ | exact DFault.pures _ | exact DCell.pure _ | exact DCell.pures _ | exact DReply.pure _ | exact DReply.pures _ | exact DAsk.pure _ | exact DAsk.pures _ | exact DOp.pure _ | exact DOp.pures _ | exact pure_list (fun x => DDecl.pures x) _ | exact .fn _ _ _ pure_nil pure_nil | refine .agg _ ?_ | refine .tup _ ?_ | assumption) (n := 68) rfl (rs := [.tmp 4]) rfl ?_
  repeat' first
    | exact finB rfl
    | exact finI rfl
    | exact finP rfl
    | exact absurd rfl (by assumption)
    | simp only [go_sem, Nat.reduceAdd, Nat.reduceSub, Nat.reduceMul, Nat.reduceLT, Nat.reduceLeDiff, Nat.reduceEqDiff, Nat.reduceBEq, Nat.reduceBNe, Nat.reducePow, Int.reduceEq, Int.reduceNe, Int.reduceLT, Int.reduceLE, Int.reduceGT, Int.reduceGE, Int.reduceAdd, Int.reduceSub, Int.reduceNeg, Int.reduceMul, not_true_eq_false, not_false_eq_true, true_and, and_true, Int.reduceToNat]
    | (intro _)
    | refine brK_dec (fun _ => ?_) (fun _ => ?_)
    | refine brK_any ?_ ?_
    | refine gK_dec (fun _ => ?_) (fun _ => ?_)
    | refine gK_any ?_ ?_
    | refine gqK_dec (fun _ => ?_) (fun _ => ?_)
    | refine ⟨by omega, ?_⟩
    | refine elemHave (by omega) (by assumption) ?_
    | refine elemMap (by omega) (by omega) (fun x hx => ?_)
    | refine drawK mo (by kernel_rfl) ?_
    | (rw [← hR, eqB_ne (by rintro rfl; contradiction)]; exact ⟨_, rfl, false, .refl _⟩)
    | (rw [← hR, eqB_ne (fun h => at_ne' (l := e.subs) (m := f.subs) (i := i) (by assumption) (by assumption) (by assumption) (congrArg Ex.subs h))]; exact ⟨_, rfl, false, .refl _⟩)
    | (rw [← hR, eqB_eq (ext_Ex (by first | assumption | exact Classical.not_not.1 (by assumption)) (by first | assumption | exact Classical.not_not.1 (by assumption)) (by first | assumption | exact Classical.not_not.1 (by assumption)) (by first | assumption | exact Classical.not_not.1 (by assumption)) (by first | assumption | exact Classical.not_not.1 (by assumption)) (take_eq_full (i := i) (by omega) hpi (by omega)))]; exact ⟨_, rfl, false, .refl _⟩)
    | (refine PCall.call (namesStr _ _) ?_; generalize he : eqB (α := List ByteArray) _ _ = b; cases b <;> first | replace he := eqB_t he | replace he := eqB_f he)
    | (refine pcK_of (ih _ (List.mem_of_getElem? (by assumption)) _) ?_; generalize he : eqB (α := Ex) _ _ = b; cases b <;> first | replace he := eqB_t he | replace he := eqB_f he)
    | exact loopFrH _ (by omega) ⟨i + 1, by omega, rfl, take_eq_step' hpi (by assumption) (by assumption) (by assumption), rfl⟩ (.next rfl (by omega) .nil) rfl
    | (refine loop_frH [4, 5, 49, 50, 51, 52, 53, 54, 55, 56, 57, 58, 59, 60, 61, 62, 63, 64, 65, 66, 67] (fun mm_ CC_ => ∃ (i : Nat), i ≤ e.subs.length ∧ mm_ = e.subs.length - i ∧ (e.subs.take i = f.subs.take i) ∧ CC_ = [(5, .raw (.int .i64 ((i : Nat) : Int)))]) (e.subs.length) _ ⟨0, by omega, by omega, rfl, rfl⟩ (.cons rfl .nil) ?_; rintro mm_ CC_ ji ⟨i, hi, rfl, hpi, rfl⟩)

theorem n75 : (Try.f75.name == "runtime.NumGoroutine") = false := by kernel_rfl
theorem sameEnum75 (x y : DEnum) : PCall Try.prog 75 [x.enc, y.enc] (.b (eqB x y)) := by
  refine pcall_of_vc tabOK Try.func75 n75 rfl (by repeat' first | exact pure_nil | refine pure_cons ?_ ?_ | exact .raw _ | exact pure_enc _ | exact pure_lst _ | exact pure_strs _ | exact pure_ints _ | exact DTy.pure _ | exact DTy.pures _ | exact DEnum.pure _ | exact DEnum.pures _ | exact DDecl.pure _ | exact DDecl.pures _ | exact DEq.pure _ | exact DEq.pures _ | exact DNode.pure _ | exact DNode.pures _ | exact DProg.pure _ | exact DProg.pures _ | exact DCond.pure _ | exact DCond.pures _ | exact DAtom.pure _ | exact DAtom.pures _ | exact DPlain.pure _ | exact DPlain.pures _ | exact DVar.pure _ | exact DVar.pures _ | exact DFlow.pure _ | exact DFlow.pures _ | exact DFlows.pure _ | exact DFlows.pures _ | exact DAsked.pure _ | exact DAsked.pures _ | exact DFault.pure _ | exact DFault.pures _ | exact DCell.pure _ | exact DCell.pures _ | exact DReply.pure _ | exact DReply.pures _ | exact DAsk.pure _ | exact DAsk.pures _ | exact DOp.pure _ | exact DOp.pures _ | exact pure_list (fun x => DDecl.pures x) _ | exact .fn _ _ _ pure_nil pure_nil | refine .agg _ ?_ | refine .tup _ ?_ | assumption) (by repeat' first | exact pure_nil | refine pure_cons ?_ ?_ | exact .raw _ | exact pure_enc _ | exact pure_lst _ | exact pure_strs _ | exact pure_ints _ | exact DTy.pure _ | exact DTy.pures _ | exact DEnum.pure _ | exact DEnum.pures _ | exact DDecl.pure _ | exact DDecl.pures _ | exact DEq.pure _ | exact DEq.pures _ | exact DNode.pure _ | exact DNode.pures _ | exact DProg.pure _ | exact DProg.pures _ | exact DCond.pure _ | exact DCond.pures _ | exact DAtom.pure _ | exact DAtom.pures _ | exact DPlain.pure _ | exact DPlain.pures _ | exact DVar.pure _ | exact DVar.pures _ | exact DFlow.pure _ | exact DFlow.pures _ | exact DFlows.pure _ | exact DFlows.pures _ | exact DAsked.pure _ | exact DAsked.pures _ | exact DFault.pure _ | exact DFault.pures _ | exact DCell.pure _ | exact DCell.pures _ | exact DReply.pure _ | exact DReply.pures _ | exact DAsk.pure _ | exact DAsk.pures _ | exact DOp.pure _ | exact DOp.pures _ | exact pure_list (fun x => DDecl.pures x) _ | exact .fn _ _ _ pure_nil pure_nil | refine .agg _ ?_ | refine .tup _ ?_ | assumption) (n := 17) rfl (rs := [.tmp 4]) rfl ?_
  repeat' first
    | exact finB rfl
    | exact finI rfl
    | exact finP rfl
    | exact absurd rfl (by assumption)
    | simp only [go_sem, Nat.reduceAdd, Nat.reduceSub, Nat.reduceMul, Nat.reduceLT, Nat.reduceLeDiff, Nat.reduceEqDiff, Nat.reduceBEq, Nat.reduceBNe, Nat.reducePow, Int.reduceEq, Int.reduceNe, Int.reduceLT, Int.reduceLE, Int.reduceGT, Int.reduceGE, Int.reduceAdd, Int.reduceSub, Int.reduceNeg, Int.reduceMul, not_true_eq_false, not_false_eq_true, true_and, and_true, Int.reduceToNat]
    | (intro _)
    | refine brK_dec (fun _ => ?_) (fun _ => ?_)
    | refine brK_any ?_ ?_
    | refine gK_dec (fun _ => ?_) (fun _ => ?_)
    | refine gK_any ?_ ?_
    | refine gqK_dec (fun _ => ?_) (fun _ => ?_)
    | refine ⟨by omega, ?_⟩
    | refine elemHave (by omega) (by assumption) ?_
    | refine elemMap (by omega) (by omega) (fun x hx => ?_)
    | refine drawK mo (by kernel_rfl) ?_
    | (rw [eqB_ne (by rintro rfl; contradiction)]; exact ⟨_, rfl, false, .refl _⟩)
    | (rw [eqB_eq (ext_DEnum (by first | assumption | exact Classical.not_not.1 (by assumption)) (by first | assumption | exact Classical.not_not.1 (by assumption)))]; exact ⟨_, rfl, false, .refl _⟩)
    | (refine PCall.call (equalStr _ _) ?_; generalize he : eqB (α := List ByteArray) _ _ = b; cases b <;> first | replace he := eqB_t he | replace he := eqB_f he)

theorem n116 : (Try.f116.name == "runtime.NumGoroutine") = false := by kernel_rfl
theorem sameEq116 (x y : DEq) : PCall Try.prog 116 [x.enc, y.enc] (.b (eqB x y)) := by
  refine pcall_of_vc tabOK Try.func116 n116 rfl (by repeat' first | exact pure_nil | refine pure_cons ?_ ?_ | exact .raw _ | exact pure_enc _ | exact pure_lst _ | exact pure_strs _ | exact pure_ints _ | exact DTy.pure _ | exact DTy.pures _ | exact DEnum.pure _ | exact DEnum.pures _ | exact DDecl.pure _ | exact DDecl.pures _ | exact DEq.pure _ | exact DEq.pures _ | exact DNode.pure _ | exact DNode.pures _ | exact DProg.pure _ | exact DProg.pures _ | exact DCond.pure _ | exact DCond.pures _ | exact DAtom.pure _ | exact DAtom.pures _ | exact DPlain.pure _ | exact DPlain.pures _ | exact DVar.pure _ | exact DVar.pures _ | exact DFlow.pure _ | exact DFlow.pures _ | exact DFlows.pure _ | exact DFlows.pures _ | exact DAsked.pure _ | exact DAsked.pures _ | exact DFault.pure _ | exact DFault.pures _ | exact DCell.pure _ | exact DCell.pures _ | exact DReply.pure _ | exact DReply.pures _ | exact DAsk.pure _ | exact DAsk.pures _ | exact DOp.pure _ | exact DOp.pures _ | exact pure_list (fun x => DDecl.pures x) _ | exact .fn _ _ _ pure_nil pure_nil | refine .agg _ ?_ | refine .tup _ ?_ | assumption) (by repeat' first | exact pure_nil | refine pure_cons ?_ ?_ | exact .raw _ | exact pure_enc _ | exact pure_lst _ | exact pure_strs _ | exact pure_ints _ | exact DTy.pure _ | exact DTy.pures _ | exact DEnum.pure _ | exact DEnum.pures _ | exact DDecl.pure _ | exact DDecl.pures _ | exact DEq.pure _ | exact DEq.pures _ | exact DNode.pure _ | exact DNode.pures _ | exact DProg.pure _ | exact DProg.pures _ | exact DCond.pure _ | exact DCond.pures _ | exact DAtom.pure _ | exact DAtom.pures _ | exact DPlain.pure _ | exact DPlain.pures _ | exact DVar.pure _ | exact DVar.pures _ | exact DFlow.pure _ | exact DFlow.pures _ | exact DFlows.pure _ | exact DFlows.pures _ | exact DAsked.pure _ | exact DAsked.pures _ | exact DFault.pure _ | exact DFault.pures _ | exact DCell.pure _ | exact DCell.pures _ | exact DReply.pure _ | exact DReply.pures _ | exact DAsk.pure _ | exact DAsk.pures _ | exact DOp.pure _ | exact DOp.pures _ | exact pure_list (fun x => DDecl.pures x) _ | exact .fn _ _ _ pure_nil pure_nil | refine .agg _ ?_ | refine .tup _ ?_ | assumption) (n := 17) rfl (rs := [.tmp 4]) rfl ?_
  repeat' first
    | exact finB rfl
    | exact finI rfl
    | exact finP rfl
    | exact absurd rfl (by assumption)
    | simp only [go_sem, Nat.reduceAdd, Nat.reduceSub, Nat.reduceMul, Nat.reduceLT, Nat.reduceLeDiff, Nat.reduceEqDiff, Nat.reduceBEq, Nat.reduceBNe, Nat.reducePow, Int.reduceEq, Int.reduceNe, Int.reduceLT, Int.reduceLE, Int.reduceGT, Int.reduceGE, Int.reduceAdd, Int.reduceSub, Int.reduceNeg, Int.reduceMul, not_true_eq_false, not_false_eq_true, true_and, and_true, Int.reduceToNat]
    | (intro _)
    | refine brK_dec (fun _ => ?_) (fun _ => ?_)
    | refine brK_any ?_ ?_
    | refine gK_dec (fun _ => ?_) (fun _ => ?_)
    | refine gK_any ?_ ?_
    | refine gqK_dec (fun _ => ?_) (fun _ => ?_)
    | refine ⟨by omega, ?_⟩
    | refine elemHave (by omega) (by assumption) ?_
    | refine elemMap (by omega) (by omega) (fun x hx => ?_)
    | refine drawK mo (by kernel_rfl) ?_
    | (rw [eqB_ne (by rintro rfl; contradiction)]; exact ⟨_, rfl, false, .refl _⟩)
    | (rw [eqB_eq (ext_DEq (by first | assumption | exact Classical.not_not.1 (by assumption)) (by first | assumption | exact Classical.not_not.1 (by assumption)))]; exact ⟨_, rfl, false, .refl _⟩)
    | (refine PCall.call (equalStr _ _) ?_; generalize he : eqB (α := List ByteArray) _ _ = b; cases b <;> first | replace he := eqB_t he | replace he := eqB_f he)
    | (refine PCall.call (exSame141 _ _) ?_; generalize he : eqB (α := Ex) _ _ = b; cases b <;> first | replace he := eqB_t he | replace he := eqB_f he)

theorem n77 : (Try.f77.name == "runtime.NumGoroutine") = false := by kernel_rfl
theorem sameNode77 (x y : DNode) : PCall Try.prog 77 [x.enc, y.enc] (.b (eqB x y)) := by
  refine pcall_of_vc tabOK Try.func77 n77 rfl (by repeat' first | exact pure_nil | refine pure_cons ?_ ?_ | exact .raw _ | exact pure_enc _ | exact pure_lst _ | exact pure_strs _ | exact pure_ints _ | exact DTy.pure _ | exact DTy.pures _ | exact DEnum.pure _ | exact DEnum.pures _ | exact DDecl.pure _ | exact DDecl.pures _ | exact DEq.pure _ | exact DEq.pures _ | exact DNode.pure _ | exact DNode.pures _ | exact DProg.pure _ | exact DProg.pures _ | exact DCond.pure _ | exact DCond.pures _ | exact DAtom.pure _ | exact DAtom.pures _ | exact DPlain.pure _ | exact DPlain.pures _ | exact DVar.pure _ | exact DVar.pures _ | exact DFlow.pure _ | exact DFlow.pures _ | exact DFlows.pure _ | exact DFlows.pures _ | exact DAsked.pure _ | exact DAsked.pures _ | exact DFault.pure _ | exact DFault.pures _ | exact DCell.pure _ | exact DCell.pures _ | exact DReply.pure _ | exact DReply.pures _ | exact DAsk.pure _ | exact DAsk.pures _ | exact DOp.pure _ | exact DOp.pures _ | exact pure_list (fun x => DDecl.pures x) _ | exact .fn _ _ _ pure_nil pure_nil | refine .agg _ ?_ | refine .tup _ ?_ | assumption) (by repeat' first | exact pure_nil | refine pure_cons ?_ ?_ | exact .raw _ | exact pure_enc _ | exact pure_lst _ | exact pure_strs _ | exact pure_ints _ | exact DTy.pure _ | exact DTy.pures _ | exact DEnum.pure _ | exact DEnum.pures _ | exact DDecl.pure _ | exact DDecl.pures _ | exact DEq.pure _ | exact DEq.pures _ | exact DNode.pure _ | exact DNode.pures _ | exact DProg.pure _ | exact DProg.pures _ | exact DCond.pure _ | exact DCond.pures _ | exact DAtom.pure _ | exact DAtom.pures _ | exact DPlain.pure _ | exact DPlain.pures _ | exact DVar.pure _ | exact DVar.pures _ | exact DFlow.pure _ | exact DFlow.pures _ | exact DFlows.pure _ | exact DFlows.pures _ | exact DAsked.pure _ | exact DAsked.pures _ | exact DFault.pure _ | exact DFault.pures _ | exact DCell.pure _ | exact DCell.pures _ | exact DReply.pure _ | exact DReply.pures _ | exact DAsk.pure _ | exact DAsk.pures _ | exact DOp.pure _ | exact DOp.pures _ | exact pure_list (fun x => DDecl.pures x) _ | exact .fn _ _ _ pure_nil pure_nil | refine .agg _ ?_ | refine .tup _ ?_ | assumption) (n := 40) rfl (rs := [.tmp 4]) rfl ?_
  repeat' first
    | exact finB rfl
    | exact finI rfl
    | exact finP rfl
    | exact absurd rfl (by assumption)
    | simp only [go_sem, Nat.reduceAdd, Nat.reduceSub, Nat.reduceMul, Nat.reduceLT, Nat.reduceLeDiff, Nat.reduceEqDiff, Nat.reduceBEq, Nat.reduceBNe, Nat.reducePow, Int.reduceEq, Int.reduceNe, Int.reduceLT, Int.reduceLE, Int.reduceGT, Int.reduceGE, Int.reduceAdd, Int.reduceSub, Int.reduceNeg, Int.reduceMul, not_true_eq_false, not_false_eq_true, true_and, and_true, Int.reduceToNat]
    | (intro _)
    | refine brK_dec (fun _ => ?_) (fun _ => ?_)
    | refine brK_any ?_ ?_
    | refine gK_dec (fun _ => ?_) (fun _ => ?_)
    | refine gK_any ?_ ?_
    | refine gqK_dec (fun _ => ?_) (fun _ => ?_)
    | refine ⟨by omega, ?_⟩
    | refine elemHave (by omega) (by assumption) ?_
    | refine elemMap (by omega) (by omega) (fun x hx => ?_)
    | refine drawK mo (by kernel_rfl) ?_
    | (rw [eqB_ne (by rintro rfl; contradiction)]; exact ⟨_, rfl, false, .refl _⟩)
    | (rw [eqB_eq (ext_DNode (by first | assumption | exact Classical.not_not.1 (by assumption)) (by first | assumption | exact Classical.not_not.1 (by assumption)) (by first | assumption | exact Classical.not_not.1 (by assumption)) (by first | assumption | exact Classical.not_not.1 (by assumption)) (by first | assumption | exact Classical.not_not.1 (by assumption)))]; exact ⟨_, rfl, false, .refl _⟩)
    | (refine PCall.call (equalDecl _ _) ?_; generalize he : eqB (α := List DDecl) _ _ = b; cases b <;> first | replace he := eqB_t he | replace he := eqB_f he)
    | (refine PCall.call (equalEq x.Eqs y.Eqs (fun x _ y _ => sameEq116 x y)) ?_; generalize he : eqB (α := List DEq) _ _ = b; cases b <;> first | replace he := eqB_t he | replace he := eqB_f he)

theorem n35 : (Try.f35.name == "runtime.NumGoroutine") = false := by kernel_rfl
theorem same35 (x y : DProg) : PCall Try.prog 35 [x.enc, y.enc] (.b (eqB x y)) := by
  refine pcall_of_vc tabOK Try.func35 n35 rfl (by repeat' first | exact pure_nil | refine pure_cons ?_ ?_ | exact .raw _ | exact pure_enc _ | exact pure_lst _ | exact pure_strs _ | exact pure_ints _ | exact DTy.pure _ | exact DTy.pures _ | exact DEnum.pure _ | exact DEnum.pures _ | exact DDecl.pure _ | exact DDecl.pures _ | exact DEq.pure _ | exact DEq.pures _ | exact DNode.pure _ | exact DNode.pures _ | exact DProg.pure _ | exact DProg.pures _ | exact DCond.pure _ | exact DCond.pures _ | exact DAtom.pure _ | exact DAtom.pures _ | exact DPlain.pure _ | exact DPlain.pures _ | exact DVar.pure _ | exact DVar.pures _ | exact DFlow.pure _ | exact DFlow.pures _ | exact DFlows.pure _ | exact DFlows.pures _ | exact DAsked.pure _ | exact DAsked.pures _ | exact DFault.pure _ | exact DFault.pures _ | exact DCell.pure _ | exact DCell.pures _ | exact DReply.pure _ | exact DReply.pures _ | exact DAsk.pure _ | exact DAsk.pures _ | exact DOp.pure _ | exact DOp.pures _ | exact pure_list (fun x => DDecl.pures x) _ | exact .fn _ _ _ pure_nil pure_nil | refine .agg _ ?_ | refine .tup _ ?_ | assumption) (by repeat' first | exact pure_nil | refine pure_cons ?_ ?_ | exact .raw _ | exact pure_enc _ | exact pure_lst _ | exact pure_strs _ | exact pure_ints _ | exact DTy.pure _ | exact DTy.pures _ | exact DEnum.pure _ | exact DEnum.pures _ | exact DDecl.pure _ | exact DDecl.pures _ | exact DEq.pure _ | exact DEq.pures _ | exact DNode.pure _ | exact DNode.pures _ | exact DProg.pure _ | exact DProg.pures _ | exact DCond.pure _ | exact DCond.pures _ | exact DAtom.pure _ | exact DAtom.pures _ | exact DPlain.pure _ | exact DPlain.pures _ | exact DVar.pure _ | exact DVar.pures _ | exact DFlow.pure _ | exact DFlow.pures _ | exact DFlows.pure _ | exact DFlows.pures _ | exact DAsked.pure _ | exact DAsked.pures _ | exact DFault.pure _ | exact DFault.pures _ | exact DCell.pure _ | exact DCell.pures _ | exact DReply.pure _ | exact DReply.pures _ | exact DAsk.pure _ | exact DAsk.pures _ | exact DOp.pure _ | exact DOp.pures _ | exact pure_list (fun x => DDecl.pures x) _ | exact .fn _ _ _ pure_nil pure_nil | refine .agg _ ?_ | refine .tup _ ?_ | assumption) (n := 17) rfl (rs := [.tmp 4]) rfl ?_
  repeat' first
    | exact finB rfl
    | exact finI rfl
    | exact finP rfl
    | exact absurd rfl (by assumption)
    | simp only [go_sem, Nat.reduceAdd, Nat.reduceSub, Nat.reduceMul, Nat.reduceLT, Nat.reduceLeDiff, Nat.reduceEqDiff, Nat.reduceBEq, Nat.reduceBNe, Nat.reducePow, Int.reduceEq, Int.reduceNe, Int.reduceLT, Int.reduceLE, Int.reduceGT, Int.reduceGE, Int.reduceAdd, Int.reduceSub, Int.reduceNeg, Int.reduceMul, not_true_eq_false, not_false_eq_true, true_and, and_true, Int.reduceToNat]
    | (intro _)
    | refine brK_dec (fun _ => ?_) (fun _ => ?_)
    | refine brK_any ?_ ?_
    | refine gK_dec (fun _ => ?_) (fun _ => ?_)
    | refine gK_any ?_ ?_
    | refine gqK_dec (fun _ => ?_) (fun _ => ?_)
    | refine ⟨by omega, ?_⟩
    | refine elemHave (by omega) (by assumption) ?_
    | refine elemMap (by omega) (by omega) (fun x hx => ?_)
    | refine drawK mo (by kernel_rfl) ?_
    | (rw [eqB_ne (by rintro rfl; contradiction)]; exact ⟨_, rfl, false, .refl _⟩)
    | (rw [eqB_eq (ext_DProg (by first | assumption | exact Classical.not_not.1 (by assumption)) (by first | assumption | exact Classical.not_not.1 (by assumption)))]; exact ⟨_, rfl, false, .refl _⟩)
    | (refine PCall.call (equalEnum x.Enums y.Enums (fun x _ y _ => sameEnum75 x y)) ?_; generalize he : eqB (α := List DEnum) _ _ = b; cases b <;> first | replace he := eqB_t he | replace he := eqB_f he)
    | (refine PCall.call (equalNode x.Nodes y.Nodes (fun x _ y _ => sameNode77 x y)) ?_; generalize he : eqB (α := List DNode) _ _ = b; cases b <;> first | replace he := eqB_t he | replace he := eqB_f he)

theorem n78 : (Try.f78.name == "runtime.NumGoroutine") = false := by kernel_rfl
theorem enums78 (l m : List DEnum) : PCall Try.prog 78 [.lst 2 (l.map DEnum.enc) none, .lst 2 (m.map DEnum.enc) none] (.b (eqB l m)) := by
  refine pcall_of_vc tabOK Try.func78 n78 rfl (by repeat' first | exact pure_nil | refine pure_cons ?_ ?_ | exact .raw _ | exact pure_enc _ | exact pure_lst _ | exact pure_strs _ | exact pure_ints _ | exact DTy.pure _ | exact DTy.pures _ | exact DEnum.pure _ | exact DEnum.pures _ | exact DDecl.pure _ | exact DDecl.pures _ | exact DEq.pure _ | exact DEq.pures _ | exact DNode.pure _ | exact DNode.pures _ | exact DProg.pure _ | exact DProg.pures _ | exact DCond.pure _ | exact DCond.pures _ | exact DAtom.pure _ | exact DAtom.pures _ | exact DPlain.pure _ | exact DPlain.pures _ | exact DVar.pure _ | exact DVar.pures _ | exact DFlow.pure _ | exact DFlow.pures _ | exact DFlows.pure _ | exact DFlows.pures _ | exact DAsked.pure _ | exact DAsked.pures _ | exact DFault.pure _ | exact DFault.pures _ | exact DCell.pure _ | exact DCell.pures _ | exact DReply.pure _ | exact DReply.pures _ | exact DAsk.pure _ | exact DAsk.pures _ | exact DOp.pure _ | exact DOp.pures _ | exact pure_list (fun x => DDecl.pures x) _ | exact .fn _ _ _ pure_nil pure_nil | refine .agg _ ?_ | refine .tup _ ?_ | assumption) (by repeat' first | exact pure_nil | refine pure_cons ?_ ?_ | exact .raw _ | exact pure_enc _ | exact pure_lst _ | exact pure_strs _ | exact pure_ints _ | exact DTy.pure _ | exact DTy.pures _ | exact DEnum.pure _ | exact DEnum.pures _ | exact DDecl.pure _ | exact DDecl.pures _ | exact DEq.pure _ | exact DEq.pures _ | exact DNode.pure _ | exact DNode.pures _ | exact DProg.pure _ | exact DProg.pures _ | exact DCond.pure _ | exact DCond.pures _ | exact DAtom.pure _ | exact DAtom.pures _ | exact DPlain.pure _ | exact DPlain.pures _ | exact DVar.pure _ | exact DVar.pures _ | exact DFlow.pure _ | exact DFlow.pures _ | exact DFlows.pure _ | exact DFlows.pures _ | exact DAsked.pure _ | exact DAsked.pures _ | exact DFault.pure _ | exact DFault.pures _ | exact DCell.pure _ | exact DCell.pures _ | exact DReply.pure _ | exact DReply.pures _ | exact DAsk.pure _ | exact DAsk.pures _ | exact DOp.pure _ | exact DOp.pures _ | exact pure_list (fun x => DDecl.pures x) _ | exact .fn _ _ _ pure_nil pure_nil | refine .agg _ ?_ | refine .tup _ ?_ | assumption) (n := 42) rfl (rs := [.tmp 4]) rfl ?_
  repeat' first
    | exact finB rfl
    | exact finI rfl
    | exact finP rfl
    | exact absurd rfl (by assumption)
    | simp only [go_sem, Nat.reduceAdd, Nat.reduceSub, Nat.reduceMul, Nat.reduceLT, Nat.reduceLeDiff, Nat.reduceEqDiff, Nat.reduceBEq, Nat.reduceBNe, Nat.reducePow, Int.reduceEq, Int.reduceNe, Int.reduceLT, Int.reduceLE, Int.reduceGT, Int.reduceGE, Int.reduceAdd, Int.reduceSub, Int.reduceNeg, Int.reduceMul, not_true_eq_false, not_false_eq_true, true_and, and_true, Int.reduceToNat]
    | (intro _)
    | refine brK_dec (fun _ => ?_) (fun _ => ?_)
    | refine brK_any ?_ ?_
    | refine gK_dec (fun _ => ?_) (fun _ => ?_)
    | refine gK_any ?_ ?_
    | refine gqK_dec (fun _ => ?_) (fun _ => ?_)
    | refine ⟨by omega, ?_⟩
    | refine elemHave (by omega) (by assumption) ?_
    | refine elemMap (by omega) (by omega) (fun x hx => ?_)
    | refine drawK mo (by kernel_rfl) ?_
    | (rw [eqB_ne (by rintro rfl; contradiction)]; exact ⟨_, rfl, false, .refl _⟩)
    | (rw [eqB_ne (at_ne' (l := l) (m := m) (i := i) (by assumption) (by assumption) (by rintro rfl; contradiction))]; exact ⟨_, rfl, false, .refl _⟩)
    | (rw [eqB_eq (take_eq_full (i := i) (by omega) hpi (by omega))]; exact ⟨_, rfl, false, .refl _⟩)
    | (refine pcK_of (namesStr _ _) ?_; generalize he : eqB (α := List ByteArray) _ _ = b; cases b <;> first | replace he := eqB_t he | replace he := eqB_f he)
    | exact loopFrH _ (by omega) ⟨i + 1, by omega, rfl, take_eq_step' hpi (by assumption) (by assumption) (ext_DEnum (by first | assumption | exact Classical.not_not.1 (by assumption)) (by first | assumption | exact Classical.not_not.1 (by assumption))), rfl⟩ (.next rfl (by omega) .nil) rfl
    | (refine loop_frH [4, 5, 11, 12, 13, 14, 15, 16, 17, 18, 19, 20, 21, 22, 23, 24, 25, 26, 27, 28, 29, 30, 31, 32, 33, 34, 35, 36, 37, 38, 39, 40, 41] (fun mm_ CC_ => ∃ (i : Nat), i ≤ l.length ∧ mm_ = l.length - i ∧ (l.take i = m.take i) ∧ CC_ = [(5, .raw (.int .i64 ((i : Nat) : Int)))]) (l.length) _ ⟨0, by omega, by omega, rfl, rfl⟩ (.cons rfl .nil) ?_; rintro mm_ CC_ ji ⟨i, hi, rfl, hpi, rfl⟩)

theorem n79 : (Try.f79.name == "runtime.NumGoroutine") = false := by kernel_rfl
theorem sameNode79 (a b : DNode) : PCall Try.prog 79 [a.enc, b.enc] (.b (eqB a b)) := by
  refine pcall_of_vc tabOK Try.func79 n79 rfl (by repeat' first | exact pure_nil | refine pure_cons ?_ ?_ | exact .raw _ | exact pure_enc _ | exact pure_lst _ | exact pure_strs _ | exact pure_ints _ | exact DTy.pure _ | exact DTy.pures _ | exact DEnum.pure _ | exact DEnum.pures _ | exact DDecl.pure _ | exact DDecl.pures _ | exact DEq.pure _ | exact DEq.pures _ | exact DNode.pure _ | exact DNode.pures _ | exact DProg.pure _ | exact DProg.pures _ | exact DCond.pure _ | exact DCond.pures _ | exact DAtom.pure _ | exact DAtom.pures _ | exact DPlain.pure _ | exact DPlain.pures _ | exact DVar.pure _ | exact DVar.pures _ | exact DFlow.pure _ | exact DFlow.pures _ | exact DFlows.pure _ | exact DFlows.pures _ | exact DAsked.pure _ | exact DAsked.pures _ | exact DFault.pure _ | exact DFault.pures _ | exact DCell.pure _ | exact DCell.pures _ | exact DReply.pure _ | exact DReply.pures _ | exact DAsk.pure _ | exact DAsk.pures _ | exact DOp.pure _ | exact DOp.pures _ | exact pure_list (fun x => DDecl.pures x) _ | exact .fn _ _ _ pure_nil pure_nil | refine .agg _ ?_ | refine .tup _ ?_ | assumption) (by repeat' first | exact pure_nil | refine pure_cons ?_ ?_ | exact .raw _ | exact pure_enc _ | exact pure_lst _ | exact pure_strs _ | exact pure_ints _ | exact DTy.pure _ | exact DTy.pures _ | exact DEnum.pure _ | exact DEnum.pures _ | exact DDecl.pure _ | exact DDecl.pures _ | exact DEq.pure _ | exact DEq.pures _ | exact DNode.pure _ | exact DNode.pures _ | exact DProg.pure _ | exact DProg.pures _ | exact DCond.pure _ | exact DCond.pures _ | exact DAtom.pure _ | exact DAtom.pures _ | exact DPlain.pure _ | exact DPlain.pures _ | exact DVar.pure _ | exact DVar.pures _ | exact DFlow.pure _ | exact DFlow.pures _ | exact DFlows.pure _ | exact DFlows.pures _ | exact DAsked.pure _ | exact DAsked.pures _ | exact DFault.pure _ | exact DFault.pures _ | exact DCell.pure _ | exact DCell.pures _ | exact DReply.pure _ | exact DReply.pures _ | exact DAsk.pure _ | exact DAsk.pures _ | exact DOp.pure _ | exact DOp.pures _ | exact pure_list (fun x => DDecl.pures x) _ | exact .fn _ _ _ pure_nil pure_nil | refine .agg _ ?_ | refine .tup _ ?_ | assumption) (n := 81) rfl (rs := [.tmp 4]) rfl ?_
  repeat' first
    | exact finB rfl
    | exact finI rfl
    | exact finP rfl
    | exact absurd rfl (by assumption)
    | simp only [go_sem, Nat.reduceAdd, Nat.reduceSub, Nat.reduceMul, Nat.reduceLT, Nat.reduceLeDiff, Nat.reduceEqDiff, Nat.reduceBEq, Nat.reduceBNe, Nat.reducePow, Int.reduceEq, Int.reduceNe, Int.reduceLT, Int.reduceLE, Int.reduceGT, Int.reduceGE, Int.reduceAdd, Int.reduceSub, Int.reduceNeg, Int.reduceMul, not_true_eq_false, not_false_eq_true, true_and, and_true, Int.reduceToNat]
    | (intro _)
    | refine brK_dec (fun _ => ?_) (fun _ => ?_)
    | refine brK_any ?_ ?_
    | refine gK_dec (fun _ => ?_) (fun _ => ?_)
    | refine gK_any ?_ ?_
    | refine gqK_dec (fun _ => ?_) (fun _ => ?_)
    | refine ⟨by omega, ?_⟩
    | refine elemHave (by omega) (by assumption) ?_
    | refine elemMap (by omega) (by omega) (fun x hx => ?_)
    | refine drawK mo (by kernel_rfl) ?_
    | (rw [eqB_ne (by rintro rfl; contradiction)]; exact ⟨_, rfl, false, .refl _⟩)
    | (rw [eqB_ne (fun h => at_ne' (l := a.Eqs) (m := b.Eqs) (i := i) (by assumption) (by assumption) (by rintro rfl; contradiction) (congrArg DNode.Eqs h))]; exact ⟨_, rfl, false, .refl _⟩)
    | (rw [eqB_eq (ext_DNode (by first | assumption | exact Classical.not_not.1 (by assumption)) (by first | assumption | exact Classical.not_not.1 (by assumption)) (by first | assumption | exact Classical.not_not.1 (by assumption)) (by first | assumption | exact Classical.not_not.1 (by assumption)) (take_eq_full (i := i) (by omega) hpi (by omega)))]; exact ⟨_, rfl, false, .refl _⟩)
    | (refine PCall.call (sameDecls _ _) ?_; generalize he : eqB (α := List DDecl) _ _ = b; cases b <;> first | replace he := eqB_t he | replace he := eqB_f he)
    | (refine pcK_of (namesStr _ _) ?_; generalize he : eqB (α := List ByteArray) _ _ = b; cases b <;> first | replace he := eqB_t he | replace he := eqB_f he)
    | (refine pcK_of (exSame118 _ _) ?_; generalize he : eqB (α := Ex) _ _ = b; cases b <;> first | replace he := eqB_t he | replace he := eqB_f he)
    | exact loopFrH _ (by omega) ⟨i + 1, by omega, rfl, take_eq_step' hpi (by assumption) (by assumption) (ext_DEq (by first | assumption | exact Classical.not_not.1 (by assumption)) (by first | assumption | exact Classical.not_not.1 (by assumption))), rfl⟩ (.next rfl (by omega) .nil) rfl
    | (refine loop_frH [4, 5, 44, 45, 46, 47, 48, 49, 50, 51, 52, 53, 54, 55, 56, 57, 58, 59, 60, 61, 62, 63, 64, 65, 66, 67, 68, 69, 70, 71, 72, 73, 74, 75, 76, 77, 78, 79, 80] (fun mm_ CC_ => ∃ (i : Nat), i ≤ a.Eqs.length ∧ mm_ = a.Eqs.length - i ∧ (a.Eqs.take i = b.Eqs.take i) ∧ CC_ = [(5, .raw (.int .i64 ((i : Nat) : Int)))]) (a.Eqs.length) _ ⟨0, by omega, by omega, rfl, rfl⟩ (.cons rfl .nil) ?_; rintro mm_ CC_ ji ⟨i, hi, rfl, hpi, rfl⟩)

theorem n36 : (Try.f36.name == "runtime.NumGoroutine") = false := by kernel_rfl
theorem same36 (a b : DProg) : PCall Try.prog 36 [a.enc, b.enc] (.b (eqB a b)) := by
  refine pcall_of_vc tabOK Try.func36 n36 rfl (by repeat' first | exact pure_nil | refine pure_cons ?_ ?_ | exact .raw _ | exact pure_enc _ | exact pure_lst _ | exact pure_strs _ | exact pure_ints _ | exact DTy.pure _ | exact DTy.pures _ | exact DEnum.pure _ | exact DEnum.pures _ | exact DDecl.pure _ | exact DDecl.pures _ | exact DEq.pure _ | exact DEq.pures _ | exact DNode.pure _ | exact DNode.pures _ | exact DProg.pure _ | exact DProg.pures _ | exact DCond.pure _ | exact DCond.pures _ | exact DAtom.pure _ | exact DAtom.pures _ | exact DPlain.pure _ | exact DPlain.pures _ | exact DVar.pure _ | exact DVar.pures _ | exact DFlow.pure _ | exact DFlow.pures _ | exact DFlows.pure _ | exact DFlows.pures _ | exact DAsked.pure _ | exact DAsked.pures _ | exact DFault.pure _ | exact DFault.pures _ | exact DCell.pure _ | exact DCell.pures _ | exact DReply.pure _ | exact DReply.pures _ | exact DAsk.pure _ | exact DAsk.pures _ | exact DOp.pure _ | exact DOp.pures _ | exact pure_list (fun x => DDecl.pures x) _ | exact .fn _ _ _ pure_nil pure_nil | refine .agg _ ?_ | refine .tup _ ?_ | assumption) (by repeat' first | exact pure_nil | refine pure_cons ?_ ?_ | exact .raw _ | exact pure_enc _ | exact pure_lst _ | exact pure_strs _ | exact pure_ints _ | exact DTy.pure _ | exact DTy.pures _ | exact DEnum.pure _ | exact DEnum.pures _ | exact DDecl.pure _ | exact DDecl.pures _ | exact DEq.pure _ | exact DEq.pures _ | exact DNode.pure _ | exact DNode.pures _ | exact DProg.pure _ | exact DProg.pures _ | exact DCond.pure _ | exact DCond.pures _ | exact DAtom.pure _ | exact DAtom.pures _ | exact DPlain.pure _ | exact DPlain.pures _ | exact DVar.pure _ | exact DVar.pures _ | exact DFlow.pure _ | exact DFlow.pures _ | exact DFlows.pure _ | exact DFlows.pures _ | exact DAsked.pure _ | exact DAsked.pures _ | exact DFault.pure _ | exact DFault.pures _ | exact DCell.pure _ | exact DCell.pures _ | exact DReply.pure _ | exact DReply.pures _ | exact DAsk.pure _ | exact DAsk.pures _ | exact DOp.pure _ | exact DOp.pures _ | exact pure_list (fun x => DDecl.pures x) _ | exact .fn _ _ _ pure_nil pure_nil | refine .agg _ ?_ | refine .tup _ ?_ | assumption) (n := 40) rfl (rs := [.tmp 4]) rfl ?_
  repeat' first
    | exact finB rfl
    | exact finI rfl
    | exact finP rfl
    | exact absurd rfl (by assumption)
    | simp only [go_sem, Nat.reduceAdd, Nat.reduceSub, Nat.reduceMul, Nat.reduceLT, Nat.reduceLeDiff, Nat.reduceEqDiff, Nat.reduceBEq, Nat.reduceBNe, Nat.reducePow, Int.reduceEq, Int.reduceNe, Int.reduceLT, Int.reduceLE, Int.reduceGT, Int.reduceGE, Int.reduceAdd, Int.reduceSub, Int.reduceNeg, Int.reduceMul, not_true_eq_false, not_false_eq_true, true_and, and_true, Int.reduceToNat]
    | (intro _)
    | refine brK_dec (fun _ => ?_) (fun _ => ?_)
    | refine brK_any ?_ ?_
    | refine gK_dec (fun _ => ?_) (fun _ => ?_)
    | refine gK_any ?_ ?_
    | refine gqK_dec (fun _ => ?_) (fun _ => ?_)
    | refine ⟨by omega, ?_⟩
    | refine elemHave (by omega) (by assumption) ?_
    | refine elemMap (by omega) (by omega) (fun x hx => ?_)
    | refine drawK mo (by kernel_rfl) ?_
    | (rw [eqB_ne (by rintro rfl; contradiction)]; exact ⟨_, rfl, false, .refl _⟩)
    | (rw [eqB_ne (fun h => at_ne' (l := a.Nodes) (m := b.Nodes) (i := i) (by assumption) (by assumption) (by assumption) (congrArg DProg.Nodes h))]; exact ⟨_, rfl, false, .refl _⟩)
    | (rw [eqB_eq (ext_DProg (by first | assumption | exact Classical.not_not.1 (by assumption)) (take_eq_full (i := i) (by omega) hpi (by omega)))]; exact ⟨_, rfl, false, .refl _⟩)
    | (refine PCall.call (enums78 _ _) ?_; generalize he : eqB (α := List DEnum) _ _ = b; cases b <;> first | replace he := eqB_t he | replace he := eqB_f he)
    | (refine pcK_of (sameNode79 _ _) ?_; generalize he : eqB (α := DNode) _ _ = b; cases b <;> first | replace he := eqB_t he | replace he := eqB_f he)
    | exact loopFrH _ (by omega) ⟨i + 1, by omega, rfl, take_eq_step' hpi (by assumption) (by assumption) (by assumption), rfl⟩ (.next rfl (by omega) .nil) rfl
    | (refine loop_frH [4, 5, 21, 22, 23, 24, 25, 26, 27, 28, 29, 30, 31, 32, 33, 34, 35, 36, 37, 38, 39] (fun mm_ CC_ => ∃ (i : Nat), i ≤ a.Nodes.length ∧ mm_ = a.Nodes.length - i ∧ (a.Nodes.take i = b.Nodes.take i) ∧ CC_ = [(5, .raw (.int .i64 ((i : Nat) : Int)))]) (a.Nodes.length) _ ⟨0, by omega, by omega, rfl, rfl⟩ (.cons rfl .nil) ?_; rintro mm_ CC_ ji ⟨i, hi, rfl, hpi, rfl⟩)
end Go.Proofs.Ytfjjckaiopbbkaa
