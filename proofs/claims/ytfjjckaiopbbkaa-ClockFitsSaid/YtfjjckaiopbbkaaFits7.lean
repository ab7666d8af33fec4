import Derived.Test.YtfjjckaiopbbkaaFits6
namespace Go.Proofs.Ytfjjckaiopbbkaa
open Go.Abs
set_option maxRecDepth 20000
set_option linter.unusedSimpArgs false
set_option linter.unusedVariables false
set_option maxHeartbeats 1000000
attribute [local irreducible] vc vcOps vcStep vcGuard prK hrK gK gsK brK callK ElemK SeqK BlockK ScopeK OpsK CallK LoopK LoopGo finPost ACall PCall PCallE BCall vqOps vqStep vqGuard qrK heK pcK gqK gqsK QOpsK qcallK DrawK
abbrev pB (p : DProg) : Blk := progB p
theorem n93 : (Try.f93.name == "runtime.NumGoroutine") = false := by kernel_rfl
theorem when93 (p : DProg) (k : Nat) (n : DNode) (hn : p.Nodes[k]? = some n) (hl : (allV n).length ≤ 4294967296) (e : Ex) (on : List DCond) (h11 : e.kind = 11)
    (ih : ∀ x ∈ e.subs, ∀ on' : List DCond, on'.length ≤ on.length + 14 → PCall Try.prog 49 [p.enc, .i k, x.enc, .lst 2 (on'.map DCond.enc) none] (.b (fitsF (rowN p.Enums n) p.Enums x on'))) (hrow : (rowN p.Enums n e.name).1.length ≤ 13) :
    PCall Try.prog 93 [p.enc, .i k, e.enc, .lst 2 (on.map DCond.enc) none] (.b (fitsF (rowN p.Enums n) p.Enums e on)) := by
  refine pcall_of_vc tabOK Try.func93 n93 rfl (by repeat' first | exact pure_nil | refine pure_cons ?_ ?_ | exact .raw _ | exact pure_enc _ | exact pure_lst _ | exact pure_strs _ | exact pure_ints _ | exact DTy.pure _ | exact DTy.pures _ | exact DEnum.pure _ | exact DEnum.pures _ | exact DDecl.pure _ | exact DDecl.pures _ | exact DEq.pure _ | exact DEq.pures _ | exact DNode.pure _ | exact DNode.pures _ | exact DProg.pure _ | exact DProg.pures _ | exact DCond.pure _ | exact DCond.pures _ | exact DAtom.pure _ | exact DAtom.pures _ | exact DPlain.pure _ | exact DPlain.pures _ | exact DVar.pure _ | exact DVar.pures _ | exact DFlow.pure _ | exact DFlow.pures _ | exact DFlows.pure _ | exact DFlows.pures _ | exact DAsked.pure _ | exact DAsked.pures _ | exact DFault.pure _ | exact DFault.pures _ | exact DCell.pure _ | exact DCell.pures _ | exact DReply.pure _ | exact DReply.pures _ | exact DAsk.pure _ | exact DAsk.pures _ | exact DOp.pure _ | exact DOp.pures _ | exact pure_list (fun x => DDecl.pures x) _ | exact .fn _ _ _ pure_nil pure_nil | refine .agg _ ?_ | refine .tup _ ?_ | assumption) (by repeat' first | exact pure_nil | refine pure_cons ?_ ?_ | exact .raw _ | exact pure_enc _ | exact pure_lst _ | exact pure_strs _ | exact pure_ints _ | exact DTy.pure _ | exact DTy.pures _ | exact DEnum.pure _ | exact DEnum.pures _ | exact DDecl.pure _ | exact DDecl.pures _ | exact DEq.pure _ | exact DEq.pures _ | exact DNode.pure _ | exact DNode.pures _ | exact DProg.pure _ | exact DProg.pures _ | exact DCond.pure _ | exact DCond.pures _ | exact DAtom.pure _ | exact DAtom.pures _ | exact DPlain.pure _ | exact DPlain.pures _ | exact DVar.pure _ | exact DVar.pures _ | exact DFlow.pure _ | exact DFlow.pures _ | exact DFlows.pure _ | exact DFlows.pures _ | exact DAsked.pure _ | exact DAsked.pures _ | exact DFault.pure _ | exact DFault.pures _ | exact DCell.pure _ | exact DCell.pures _ | exact DReply.pure _ | exact DReply.pures _ | exact DAsk.pure _ | exact DAsk.pures _ | exact DOp.pure _ | exact DOp.pures _ | exact pure_list (fun x => DDecl.pures x) _ | exact .fn _ _ _ pure_nil pure_nil | refine .agg _ ?_ | refine .tup _ ?_ | assumption) (n := 67) rfl (rs := [.tmp 8]) rfl ?_
  have hB : fitsF (rowN p.Enums n) p.Enums e on = (decide (e.arms.length = 1) && decide (e.subs.length = 1) && (rowN p.Enums n e.name).2 && armOk p.Enums (e.arms.headD ⟨#[]⟩) && eqB on ((rowN p.Enums n e.name).1 ++ [condOf p.Enums e.name (e.arms.headD ⟨#[]⟩)]) && fitsL (rowN p.Enums n) p.Enums e.subs (rowN p.Enums n e.name).1) := by
    rw [fitsF_eq]; simp [h11]
  rw [hB]
  clear hB
  simp only [go_sem, Nat.reduceAdd, Nat.reduceSub, Nat.reduceMul, Nat.reduceLT, Nat.reduceLeDiff, Nat.reduceEqDiff, Nat.reduceBEq, Nat.reduceBNe, Nat.reducePow, Int.reduceEq, Int.reduceNe, Int.reduceLT, Int.reduceLE, Int.reduceGT, Int.reduceGE, Int.reduceAdd, Int.reduceSub, Int.reduceNeg, Int.reduceMul, not_true_eq_false, not_false_eq_true, true_and, and_true, Int.reduceToNat]
  refine PCall.call (row46v p k n hn e.name hl) ?_
  generalize hR : rowN p.Enums n e.name = r at hrow ⊢
  obtain ⟨r, okr⟩ := r
  dsimp only at hrow
  by_cases hst : e.arms.length = 1 ∧ e.subs.length = 1
  · obtain ⟨ha1, hs1⟩ := hst
    obtain ⟨a, ha⟩ : ∃ a, e.arms[0]? = some a := ⟨_, List.getElem?_eq_getElem (by omega)⟩
    obtain ⟨x, hx⟩ : ∃ x, e.subs[0]? = some x := ⟨_, List.getElem?_eq_getElem (by omega)⟩
    have hxm := List.mem_of_getElem? hx
    rw [show e.arms.headD ⟨#[]⟩ = a by rw [eq_one ha1 ha]; rfl]
    rw [show fitsL (rowN p.Enums n) p.Enums e.subs r = fitsF (rowN p.Enums n) p.Enums x r by rw [eq_one hs1 hx]; simp [fitsL]]
    rw [decide_eq_true ha1, decide_eq_true hs1, Bool.true_and, Bool.true_and]
    cases okr with
    | false =>
      repeat' first
        | (exfalso; omega)
        | exact finBq rfl (by simp)
        | simp only [go_sem, Nat.reduceAdd, Nat.reduceSub, Nat.reduceMul, Nat.reduceLT, Nat.reduceLeDiff, Nat.reduceEqDiff, Nat.reduceBEq, Nat.reduceBNe, Nat.reducePow, Int.reduceEq, Int.reduceNe, Int.reduceLT, Int.reduceLE, Int.reduceGT, Int.reduceGE, Int.reduceAdd, Int.reduceSub, Int.reduceNeg, Int.reduceMul, not_true_eq_false, not_false_eq_true, true_and, and_true, Int.reduceToNat]
        | (intro _)
        | refine brK_dec (fun _ => ?_) (fun _ => ?_)
        | refine gK_dec (fun _ => ?_) (fun _ => ?_)
    | true =>
      repeat' first
        | (exfalso; omega)
        | simp only [go_sem, Nat.reduceAdd, Nat.reduceSub, Nat.reduceMul, Nat.reduceLT, Nat.reduceLeDiff, Nat.reduceEqDiff, Nat.reduceBEq, Nat.reduceBNe, Nat.reducePow, Int.reduceEq, Int.reduceNe, Int.reduceLT, Int.reduceLE, Int.reduceGT, Int.reduceGE, Int.reduceAdd, Int.reduceSub, Int.reduceNeg, Int.reduceMul, not_true_eq_false, not_false_eq_true, true_and, and_true, Int.reduceToNat, monoApp, monoApp2]
        | (intro _)
        | refine brK_dec (fun _ => ?_) (fun _ => ?_)
        | refine gK_dec (fun _ => ?_) (fun _ => ?_)
        | refine gqK_dec (fun _ => ?_) (fun _ => ?_)
        | refine drawK mo (by kernel_rfl) ?_
        | refine elemHave (by omega) ha ?_
        | refine elemHave (by omega) hx ?_
        | (refine pcK_of (arm91 p.Enums a) ?_; rw [armA_fst]; generalize hok : armOk p.Enums a = ok; cases ok)
        | refine pcK_of (when134 r e.name (armF p.Enums a).2.1 (by omega)) ?_
        | (refine pcK_of (sameCs on (r ++ [(⟨e.name, (armF p.Enums a).2.1⟩ : DCond)])) ?_; rw [show condOf p.Enums e.name a = ⟨e.name, (armF p.Enums a).2.1⟩ from rfl]; generalize eqB on (r ++ [(⟨e.name, (armF p.Enums a).2.1⟩ : DCond)]) = q; cases q)
        | refine pcK_of (ih x hxm r (by omega)) ?_
        | (refine finBq rfl ?_; first | rfl | (simp; done))
  · have hB : ∀ z, (decide (e.arms.length = 1) && decide (e.subs.length = 1) && okr && armOk p.Enums (e.arms.headD ⟨#[]⟩) && eqB on (r ++ [condOf p.Enums e.name (e.arms.headD ⟨#[]⟩)]) && z) = false := by
      intro z
      have : ¬ (e.arms.length = 1) ∨ ¬ (e.subs.length = 1) := by
        rcases Classical.em (e.arms.length = 1) with q | q
        · exact .inr fun q' => hst ⟨q, q'⟩
        · exact .inl q
      rcases this with q | q <;> simp [q]
    rw [hB]
    cases okr <;>
    repeat' first
      | (exfalso; omega)
      | exact finP rfl
      | simp only [go_sem, Nat.reduceAdd, Nat.reduceSub, Nat.reduceMul, Nat.reduceLT, Nat.reduceLeDiff, Nat.reduceEqDiff, Nat.reduceBEq, Nat.reduceBNe, Nat.reducePow, Int.reduceEq, Int.reduceNe, Int.reduceLT, Int.reduceLE, Int.reduceGT, Int.reduceGE, Int.reduceAdd, Int.reduceSub, Int.reduceNeg, Int.reduceMul, not_true_eq_false, not_false_eq_true, true_and, and_true, Int.reduceToNat]
      | (intro _)
      | refine brK_dec (fun _ => ?_) (fun _ => ?_)
      | refine gK_dec (fun _ => ?_) (fun _ => ?_)
      | refine drawK mo (by kernel_rfl) ?_
end Go.Proofs.Ytfjjckaiopbbkaa
