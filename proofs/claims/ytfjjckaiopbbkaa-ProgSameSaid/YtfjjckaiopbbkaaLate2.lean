import Derived.Test.YtfjjckaiopbbkaaLate
namespace Go.Proofs.Ytfjjckaiopbbkaa
open Go.Abs
set_option maxRecDepth 20000
set_option linter.unusedSimpArgs false
set_option linter.unusedVariables false
set_option maxHeartbeats 4000000
attribute [local irreducible] vc vcOps vcStep vcGuard prK hrK gK gsK brK callK ElemK SeqK BlockK ScopeK OpsK CallK LoopK LoopGo finPost ACall PCall PCallE BCall vqOps vqStep vqGuard qrK heK pcK gqK gqsK QOpsK qcallK DrawK

theorem n56 : (Try.f56.name == "runtime.NumGoroutine") = false := by kernel_rfl
theorem of56 (e : Ex) : PCall Try.prog 56 [e.enc] (gbA (lt e)) := by
  induction e using Ex.ind with
  | _ e ih =>
  refine pcall_of_vc tabOK Try.func56 n56 rfl (pure_cons (pure_enc e) pure_nil) (pure_gb _ _) (n := 42) rfl (rs := [.cell 2 81]) rfl ?_
  rw [lt_eq]
  simp only [go_sem, Nat.reduceAdd, Nat.reduceSub, Nat.reduceMul, Nat.reduceLT, Nat.reduceLeDiff, Nat.reduceEqDiff, Nat.reduceBEq, Nat.reduceBNe, Nat.reducePow, Int.reduceEq, Int.reduceNe, Int.reduceLT, Int.reduceLE, Int.reduceGT, Int.reduceGE, Int.reduceAdd, Int.reduceSub, Int.reduceNeg, Int.reduceMul, not_true_eq_false, not_false_eq_true, true_and, and_true, Int.reduceToNat]
  refine PCall.call (fold101 e.subs false true ih) ?_
  have hf : ∀ n : Nat, n = min 1 e.subs.length → (ltL (e.subs.take n)).1 = ltH e.subs := by
    intro n hn
    cases hs : e.subs with
    | nil => simp [ltH, ltL]
    | cons y l => rw [hs] at hn; simp at hn; subst hn; simp [ltH, ltL]
  generalize ltL e.subs = p at *
  obtain ⟨a, b⟩ := p
  simp only [Bool.false_or, Bool.true_and]
  cases a <;> cases b
  all_goals repeat' first
    | exact finB rfl
    | exact finI rfl
    | exact finP rfl
    | exact absurd rfl (by assumption)
    | simp only [go_sem, Nat.reduceAdd, Nat.reduceSub, Nat.reduceMul, Nat.reduceLT, Nat.reduceLeDiff, Nat.reduceEqDiff, Nat.reduceBEq, Nat.reduceBNe, Nat.reducePow, Int.reduceEq, Int.reduceNe, Int.reduceLT, Int.reduceLE, Int.reduceGT, Int.reduceGE, Int.reduceAdd, Int.reduceSub, Int.reduceNeg, Int.reduceMul, not_true_eq_false, not_false_eq_true, true_and, and_true, Int.reduceToNat]
    | (intro _)
    | refine brK_dec (fun _ => ?_) (fun _ => ?_)
    | refine brK_any ?_ ?_
    | refine gK_dec (fun _ => ?_) (fun _ => ?_)
    | refine gK_any ?_ ?_
    | refine gqK_dec (fun _ => ?_) (fun _ => ?_)
    | refine ⟨by omega, ?_⟩
    | refine elemHave (by omega) (by assumption) ?_
    | refine elemMap (by omega) (by omega) (fun x hx => ?_)
    | refine drawK mo (by kernel_rfl) ?_
    | (refine finGk rfl ?_; simp [ltK, keptF, *]; done)
    | (refine PCall.call (kept103 _ _ _) ?_)
    | (refine PCall.call (fold101 (e.subs.take _) false true (fun x hx => ih x (List.mem_of_mem_take hx))) ?_; rw [hf]; cases ltH e.subs)
    | (omega)
    | (split <;> omega)
end Go.Proofs.Ytfjjckaiopbbkaa
