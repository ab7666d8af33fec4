import Derived.Test.YtipcmpkihhfhcaaDoorRight
import Derived.Test.YtipcmpkihhfhcaaDoorCount
namespace Go.Proofs.YtipcmpkihhfhcaaDoor
open Go.Abs
set_option maxRecDepth 20000
set_option linter.unusedSimpArgs false
set_option linter.unusedVariables false
set_option maxHeartbeats 1000000
attribute [local irreducible] vc vcOps vcStep vcGuard prK hrK gK gsK brK callK ElemK SeqK BlockK ScopeK OpsK CallK LoopK LoopGo finPost ACall PCall PCallE BCall vqOps vqStep vqGuard qrK heK pcK gqK gqsK QOpsK qcallK DrawK

theorem n17 : (Tryd.f17.name == "runtime.NumGoroutine") = false := by kernel_rfl
theorem few_e (e : Ex) (he : (parts e).length ≤ 100000) : PCallE Tryd.prog 17 [e.enc] (fun r => ∃ b : Bool, r = .b b ∧ (b = true → ∀ x ∈ parts e, x.name.size ≤ 200 ∧ ∀ a ∈ x.arms, a.size ≤ 100)) := by
  refine pcallE_of_vc tabOK Tryd.func17 n17 rfl (pure_cons (pure_enc e) pure_nil) (n := 50) rfl (rs := [.tmp 2]) rfl ?_
  repeat' first
    | exact finB rfl
    | exact finI rfl
    | exact finP rfl
    | exact absurd rfl (by assumption)
    | simp only [go_sem, Nat.reduceAdd, Nat.reduceSub, Nat.reduceMul, Nat.reduceLT, Nat.reduceLeDiff, Nat.reduceEqDiff, Nat.reduceBEq, Nat.reduceBNe, Nat.reducePow, Int.reduceEq, Int.reduceNe, Int.reduceLT, Int.reduceLE, Int.reduceGT, Int.reduceGE, Int.reduceAdd, Int.reduceSub, Int.reduceNeg, Int.reduceMul, not_true_eq_false, not_false_eq_true, true_and, and_true, Int.reduceToNat]
    | (intro _)
    | refine brK_dec (fun _ => ?_) (fun _ => ?_)
    | refine brK_any ?_ ?_
    | refine gK_dec (fun _ => ?_) (fun _ => ?_)
    | refine gK_any ?_ ?_
    | refine gqK_dec (fun _ => ?_) (fun _ => ?_)
    | refine ⟨by omega, ?_⟩
    | refine elemHave (by omega) (by assumption) ?_
    | refine elemMap (by omega) (by omega) (fun x hx => ?_)
    | refine drawK mo (by kernel_rfl) ?_
    | (exact finBk (K := fun b => b = true → ∀ x ∈ parts e, x.name.size ≤ 200 ∧ ∀ a ∈ x.arms, a.size ≤ 100) rfl (fun _ => take_full hpi (by omega)))
    | (exact finBk (K := fun b => b = true → ∀ x ∈ parts e, x.name.size ≤ 200 ∧ ∀ a ∈ x.arms, a.size ≤ 100) rfl (by intro h; cases h))
    | (refine PCall.call (parts_spec _ he) ?_)
    | exact loopGo _ (by omega) ⟨i + 1, by omega, rfl, (take_all hpi (by assumption) ⟨by omega, take_full hpk (by omega)⟩), (.next rfl (by omega) (.cons rfl (.cons rfl (.nil rfl)))), rfl⟩
    | (refine loop_rule (fun n s h => ∃ (i : Nat), i ≤ (parts e).length ∧ n = (parts e).length - i ∧ (∀ x ∈ (parts e).take i, x.name.size ≤ 200 ∧ ∀ a ∈ x.arms, a.size ≤ 100) ∧ Vis 50 [(4, .i i), (1, .ptr 0 0), (3, .lst 6 ((parts e).map Ex.enc) none)] s ∧ h = eH e) ((parts e).length) ⟨0, by omega, by omega, (by simp), (.cons rfl (.cons rfl (.cons rfl (.nil rfl)))), rfl⟩ ?_; rintro n s h ⟨i, hi, rfl, hpi, hvi, rfl⟩; obtain ⟨ji, rfl⟩ := hvi.out)
    | exact loopGo _ (by omega) ⟨k + 1, by omega, rfl, (take_all hpk (by assumption) (by omega)), (.next rfl (by omega) (.cons rfl (.cons rfl (.cons rfl (.nil rfl))))), rfl⟩
    | (refine loop_rule (fun n s h => ∃ (k : Nat), k ≤ x.arms.length ∧ n = x.arms.length - k ∧ (∀ a ∈ x.arms.take k, a.size ≤ 100) ∧ Vis 50 [(5, .i k), (1, .ptr 0 0), (3, .lst 6 ((parts e).map Ex.enc) none), (4, .i i)] s ∧ h = eH e) (x.arms.length) ⟨0, by omega, by omega, (by simp), (.cons rfl (.cons rfl (.cons rfl (.cons rfl (.nil rfl))))), rfl⟩ ?_; rintro n s h ⟨k, hk, rfl, hpk, hvk, rfl⟩; obtain ⟨jk, rfl⟩ := hvk.out)
end Go.Proofs.YtipcmpkihhfhcaaDoor
