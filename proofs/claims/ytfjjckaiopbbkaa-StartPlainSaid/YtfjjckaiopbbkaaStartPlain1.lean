import Derived.Test.YtfjjckaiopbbkaaLive19
import Derived.Test.YtfjjckaiopbbkaaData
import Derived.Test.YtfjjckaiopbbkaaAbsR
namespace Go.Proofs.Ytfjjckaiopbbkaa
open Go.Abs
set_option maxRecDepth 20000
set_option linter.unusedSimpArgs false
set_option linter.unusedVariables false
set_option maxHeartbeats 4000000
attribute [local irreducible] vc vcOps vcStep vcGuard prK hrK gK gsK brK callK ElemK SeqK BlockK ScopeK OpsK CallK LoopK LoopGo finPost ACall PCall PCallE BCall vqOps vqStep vqGuard qrK heK pcK gqK gqsK QOpsK qcallK DrawK
mutual
theorem noPre : ∀ e : Ex, (∀ x ∈ parts e, x.kind ≠ 10) → lt e = (false, true)
  | .mk k n m o a s, h => by
    have h0 : k ≠ 10 := h (.mk k n m o a s) (by simp [parts])
    have hl := noPreL s (fun x hx => h x (by simp [parts, hx]))
    rw [lt, hl.1, hl.2]
    simp only [ltK, h0]
    simp
theorem noPreL : ∀ l : List Ex, (∀ x ∈ partsL l, x.kind ≠ 10) → ltL l = (false, true) ∧ ltH l = false
  | [], _ => ⟨rfl, rfl⟩
  | x :: xs, h => by
    have h1 := noPre x (fun y hy => h y (by simp [partsL, hy]))
    have h2 := noPreL xs (fun y hy => h y (by simp [partsL, hy]))
    simp [ltL, ltH, h1, h2.1]
end
theorem lt9 (a b : Ex) (h : lt a = (false, true)) : lt (.mk 9 0 ⟨#[]⟩ 0 [] [a, b]) = (false, (lt b).2) := by
  simp [lt, ltL, ltH, ltK, h]

theorem n4 : (Try.f4.name == "runtime.NumGoroutine") = false := by kernel_rfl
theorem law4 (a b : Ex) : PCall Try.prog 4 [a.enc, b.enc] (.b true) := by
  refine pcall_of_vc tabOK Try.func4 n4 rfl (by repeat' first | exact pure_nil | refine pure_cons ?_ ?_ | exact pure_enc _ | exact pure_lst _ | exact pure_strs _ | exact .raw _ | exact .fn _ _ _ pure_nil pure_nil | refine .agg _ ?_ | refine .tup _ ?_ | assumption) (by repeat' first | exact pure_nil | refine pure_cons ?_ ?_ | exact pure_enc _ | exact pure_lst _ | exact pure_strs _ | exact .raw _ | exact .fn _ _ _ pure_nil pure_nil | refine .agg _ ?_ | refine .tup _ ?_ | assumption) (n := 82) rfl (rs := [.tmp 4]) rfl ?_
  repeat' first
    | exact finB rfl
    | exact finI rfl
    | exact finP rfl
    | exact absurd rfl (by assumption)
    | simp only [go_sem, Nat.reduceAdd, Nat.reduceSub, Nat.reduceMul, Nat.reduceLT, Nat.reduceLeDiff, Nat.reduceEqDiff, Nat.reduceBEq, Nat.reduceBNe, Nat.reducePow, Int.reduceEq, Int.reduceNe, Int.reduceLT, Int.reduceLE, Int.reduceGT, Int.reduceGE, Int.reduceAdd, Int.reduceSub, Int.reduceNeg, Int.reduceMul, not_true_eq_false, not_false_eq_true, true_and, and_true, Int.reduceToNat]
    | (intro _)
    | refine brK_dec (fun _ => ?_) (fun _ => ?_)
    | refine brK_any ?_ ?_
    | refine gK_dec (fun _ => ?_) (fun _ => ?_)
    | refine gK_any ?_ ?_
    | refine gqK_dec (fun _ => ?_) (fun _ => ?_)
    | refine ⟨by omega, ?_⟩
    | refine elemHave (by omega) (by assumption) ?_
    | refine elemMap (by omega) (by omega) (fun x hx => ?_)
    | refine drawK mo (by kernel_rfl) ?_
    | (refine PCall.call live15 ?_)
    | (refine PCallE.call (small_e _) (fun r hr => ?_); obtain ⟨b, rfl, hb⟩ := hr; cases b <;> (try replace hb := hb rfl))
    | (refine BCall.call (right_b _ (by assumption)) (fun b => ?_); cases b)
    | (refine PCall.call (late16 _) ?_)
    | (refine PCall.call (parts_spec a (by have h0 : okE a := (by assumption); have := h0.1; omega)) ?_)
    | exact loopFrH ((parts a).length - (i + 1)) (by omega) ⟨i + 1, by omega, rfl, take_all hpi (by assumption) (by assumption), rfl⟩ (.next rfl (by omega) .nil) rfl
    | (refine loop_frH [4, 6, 34, 35, 36, 37, 38, 39, 40, 41, 42, 43, 44, 45, 46] (fun n C => ∃ (i : Nat), i ≤ (parts a).length ∧ n = (parts a).length - i ∧ (∀ x ∈ (parts a).take i, x.kind ≠ 10) ∧ C = [(6, .raw (.int .i64 ((i : Nat) : Int)))]) ((parts a).length) _ ⟨0, by omega, by omega, by simp, rfl⟩ (.cons rfl .nil) ?_; rintro n C ji ⟨i, hi, rfl, hpi, rfl⟩)
  have hl := noPre a (take_full hpi (by omega))
  refine PCall.callW (late16 (.mk 9 0 ⟨#[]⟩ 0 [] [a, b])) (by repeat' first | exact trivial | exact .nil _ | exact .refl _ | exact .tok _ _ _ | refine ⟨?_, ?_⟩ | refine weak_ex ?_ ?_ | refine weak_subs rfl ?_ | simp only [flat_nil, flat_agg, flat_ex, flat_ex0, enc_cells, List.cons_append, List.nil_append, Ex.kind, Ex.n, Ex.name, Ex.op, Ex.arms, Ex.subs]) ?_
  rw [lt9 a b hl, hl]
  repeat' first
    | exact finB rfl
    | exact finI rfl
    | exact finP rfl
    | exact absurd rfl (by assumption)
    | simp only [go_sem, Nat.reduceAdd, Nat.reduceSub, Nat.reduceMul, Nat.reduceLT, Nat.reduceLeDiff, Nat.reduceEqDiff, Nat.reduceBEq, Nat.reduceBNe, Nat.reducePow, Int.reduceEq, Int.reduceNe, Int.reduceLT, Int.reduceLE, Int.reduceGT, Int.reduceGE, Int.reduceAdd, Int.reduceSub, Int.reduceNeg, Int.reduceMul, not_true_eq_false, not_false_eq_true, true_and, and_true, Int.reduceToNat]
    | (intro _)
    | refine brK_dec (fun _ => ?_) (fun _ => ?_)
    | refine brK_any ?_ ?_
    | refine gK_dec (fun _ => ?_) (fun _ => ?_)
    | refine gK_any ?_ ?_
    | refine gqK_dec (fun _ => ?_) (fun _ => ?_)
    | refine ⟨by omega, ?_⟩
    | refine elemHave (by omega) (by assumption) ?_
    | refine elemMap (by omega) (by omega) (fun x hx => ?_)
    | refine drawK mo (by kernel_rfl) ?_
    | (refine PCall.call live15 ?_)
end Go.Proofs.Ytfjjckaiopbbkaa
