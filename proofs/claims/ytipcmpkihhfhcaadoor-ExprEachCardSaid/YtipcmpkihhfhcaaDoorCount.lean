import Derived.Test.YtipcmpkihhfhcaaDoorTab
import Derived.Test.YtipcmpkihhfhcaaDoorAbsX
namespace Go.Proofs.YtipcmpkihhfhcaaDoor
open Go.Abs
set_option maxRecDepth 20000
set_option linter.unusedSimpArgs false
set_option linter.unusedVariables false
set_option maxHeartbeats 1000000
attribute [local irreducible] vc vcOps vcStep vcGuard prK hrK gK gsK brK callK ElemK SeqK BlockK ScopeK OpsK CallK LoopK LoopGo finPost ACall PCall PCallE BCall vqOps vqStep vqGuard qrK heK pcK gqK gqsK QOpsK qcallK DrawK

theorem n16 : (Tryd.f16.name == "runtime.NumGoroutine") = false := by kernel_rfl

mutual
def countF : Ex → Int → Int
  | .mk _ _ _ _ _ s, left => if left ≤ 0 then 0 else countL s (left - 1)
def countL : List Ex → Int → Int
  | [], left => left
  | x :: xs, left => if left > 0 then countL xs (countF x left) else left
end
theorem countF_eq (e : Ex) (left : Int) : countF e left = if left ≤ 0 then 0 else countL e.subs (left - 1) := by cases e; simp [countF, Ex.subs]

mutual
theorem countF_le : ∀ (e : Ex) (l : Int), countF e l = 0 ∨ (0 ≤ countF e l ∧ countF e l < l)
  | .mk _ _ _ _ _ s, l => by
    rw [countF]
    split
    · left; omega
    · have := countL_le s (l - 1)
      omega
theorem countL_le : ∀ (es : List Ex) (l : Int), (l ≤ 0 ∧ countL es l = l) ∨ (0 ≤ countL es l ∧ countL es l ≤ l)
  | [], l => by rw [countL]; omega
  | x :: xs, l => by
    rw [countL]
    split
    · have h1 := countF_le x l
      have h2 := countL_le xs (countF x l)
      omega
    · omega
end

theorem count_spec : ∀ (e : Ex) (left : Int), left ≤ 200 → PCall Tryd.prog 16 [e.enc, .i left] (.i (countF e left)) := by
  intro e
  induction e using Ex.ind with
  | _ e ih =>
  intro left hl
  refine pcall_of_vc tabOK Tryd.func16 n16 rfl (pure_cons (pure_enc e) (pure_cons (.raw _) pure_nil)) (.raw _) (n := 29) rfl (rs := [.tmp 4]) rfl ?_
  simp only [go_sem, Nat.reduceAdd, Nat.reduceSub, Nat.reduceMul, Nat.reduceLT, Nat.reduceLeDiff, Nat.reduceEqDiff, Nat.reduceBEq, Nat.reduceBNe, Nat.reducePow, Int.reduceEq, Int.reduceNe, Int.reduceLT, Int.reduceLE, Int.reduceGT, Int.reduceGE, Int.reduceAdd, Int.reduceSub, Int.reduceNeg, Int.reduceMul, not_true_eq_false, not_false_eq_true, true_and, and_true, Int.reduceToNat]
  rw [countF_eq]
  refine brK_dec (fun hb => ?_) (fun hb => ?_)
  · simp only [go_sem, Nat.reduceAdd, Nat.reduceSub, Nat.reduceMul, Nat.reduceLT, Nat.reduceLeDiff, Nat.reduceEqDiff, Nat.reduceBEq, Nat.reduceBNe, Nat.reducePow, Int.reduceEq, Int.reduceNe, Int.reduceLT, Int.reduceLE, Int.reduceGT, Int.reduceGE, Int.reduceAdd, Int.reduceSub, Int.reduceNeg, Int.reduceMul, not_true_eq_false, not_false_eq_true, true_and, and_true, Int.reduceToNat]
    rw [if_pos hb]
    exact ⟨_, rfl, false, .refl _⟩
  · simp only [go_sem, Nat.reduceAdd, Nat.reduceSub, Nat.reduceMul, Nat.reduceLT, Nat.reduceLeDiff, Nat.reduceEqDiff, Nat.reduceBEq, Nat.reduceBNe, Nat.reducePow, Int.reduceEq, Int.reduceNe, Int.reduceLT, Int.reduceLE, Int.reduceGT, Int.reduceGE, Int.reduceAdd, Int.reduceSub, Int.reduceNeg, Int.reduceMul, not_true_eq_false, not_false_eq_true, true_and, and_true, Int.reduceToNat]
    rw [if_neg hb, wrap_in _ (by omega) (by omega)]
    refine loop_rule (fun n s h => ∃ (k : Nat) (l : Int), k ≤ e.subs.length ∧ 0 ≤ l ∧ l ≤ 200 ∧ n = e.subs.length - k ∧ countL (e.subs.drop k) l = countL e.subs (left - 1) ∧ 
      Vis 29 [(1, .i l), (2, .ptr 0 0), (5, .i k)] s ∧ h = [.cells 25 [.i e.kind, .i e.n, .s e.name, .i e.op, .lst 1 (e.arms.map AV.s) none, .lst 6 (e.subs.map Ex.enc) none]]) _ ⟨0, left - 1, by omega, by omega, by omega, rfl, rfl, .cons rfl (.cons rfl (.cons rfl (.nil rfl))), rfl⟩ ?_
    rintro n s h ⟨k, l, hk, hl0, hl, rfl, hc, hv, rfl⟩
    obtain ⟨j, rfl⟩ := hv.out
    simp only [go_sem, Nat.reduceAdd, Nat.reduceSub, Nat.reduceMul, Nat.reduceLT, Nat.reduceLeDiff, Nat.reduceEqDiff, Nat.reduceBEq, Nat.reduceBNe, Nat.reducePow, Int.reduceEq, Int.reduceNe, Int.reduceLT, Int.reduceLE, Int.reduceGT, Int.reduceGE, Int.reduceAdd, Int.reduceSub, Int.reduceNeg, Int.reduceMul, not_true_eq_false, not_false_eq_true, true_and, and_true, Int.reduceToNat]
    intro hm
    have fin : (¬ ((k : Int) < e.subs.length) ∨ ¬ 0 < l) → countL e.subs (left - 1) = l := by
      intro hor
      rw [← hc]
      rcases hor with hor | hor
      · rw [List.drop_of_length_le (by omega), countL]
      · cases hd : e.subs.drop k with
        | nil => rw [countL]
        | cons x xs => rw [countL, if_neg hor]
    refine gK_dec (fun hlt => ?_) (fun hge => ?_)
    · simp only [go_sem, Nat.reduceAdd, Nat.reduceSub, Nat.reduceMul, Nat.reduceLT, Nat.reduceLeDiff, Nat.reduceEqDiff, Nat.reduceBEq, Nat.reduceBNe, Nat.reducePow, Int.reduceEq, Int.reduceNe, Int.reduceLT, Int.reduceLE, Int.reduceGT, Int.reduceGE, Int.reduceAdd, Int.reduceSub, Int.reduceNeg, Int.reduceMul, not_true_eq_false, not_false_eq_true, true_and, and_true, Int.reduceToNat]
      refine brK_dec (fun hpos => ?_) (fun hneg => ?_)
      · simp only [go_sem, Nat.reduceAdd, Nat.reduceSub, Nat.reduceMul, Nat.reduceLT, Nat.reduceLeDiff, Nat.reduceEqDiff, Nat.reduceBEq, Nat.reduceBNe, Nat.reducePow, Int.reduceEq, Int.reduceNe, Int.reduceLT, Int.reduceLE, Int.reduceGT, Int.reduceGE, Int.reduceAdd, Int.reduceSub, Int.reduceNeg, Int.reduceMul, not_true_eq_false, not_false_eq_true, true_and, and_true, Int.reduceToNat]
        have hlt' : k < e.subs.length := by omega
        refine elemK (e.subs[k]).enc (by omega) (map_at _ (List.getElem?_eq_getElem hlt')) ?_
        simp only [go_sem, Nat.reduceAdd, Nat.reduceSub, Nat.reduceMul, Nat.reduceLT, Nat.reduceLeDiff, Nat.reduceEqDiff, Nat.reduceBEq, Nat.reduceBNe, Nat.reducePow, Int.reduceEq, Int.reduceNe, Int.reduceLT, Int.reduceLE, Int.reduceGT, Int.reduceGE, Int.reduceAdd, Int.reduceSub, Int.reduceNeg, Int.reduceMul, not_true_eq_false, not_false_eq_true, true_and, and_true, Int.reduceToNat]
        have hm1 := ih e.subs[k] (List.getElem_mem _) l hl
        refine PCall.call hm1 ?_
        simp only [go_sem, Nat.reduceAdd, Nat.reduceSub, Nat.reduceMul, Nat.reduceLT, Nat.reduceLeDiff, Nat.reduceEqDiff, Nat.reduceBEq, Nat.reduceBNe, Nat.reducePow, Int.reduceEq, Int.reduceNe, Int.reduceLT, Int.reduceLE, Int.reduceGT, Int.reduceGE, Int.reduceAdd, Int.reduceSub, Int.reduceNeg, Int.reduceMul, not_true_eq_false, not_false_eq_true, true_and, and_true, Int.reduceToNat]
        have hle := countF_le e.subs[k] l
        rw [wrap_in _ (by omega) (by omega)]
        refine loopGo _ ?_ ⟨k + 1, countF e.subs[k] l, by omega, by omega, by omega, rfl, ?_, .cons rfl (.cons rfl (.cons rfl (.nil rfl))), rfl⟩
        · omega
        · rw [← hc, List.drop_eq_getElem_cons hlt', countL, if_pos (by omega)]
      · simp only [go_sem, Nat.reduceAdd, Nat.reduceSub, Nat.reduceMul, Nat.reduceLT, Nat.reduceLeDiff, Nat.reduceEqDiff, Nat.reduceBEq, Nat.reduceBNe, Nat.reducePow, Int.reduceEq, Int.reduceNe, Int.reduceLT, Int.reduceLE, Int.reduceGT, Int.reduceGE, Int.reduceAdd, Int.reduceSub, Int.reduceNeg, Int.reduceMul, not_true_eq_false, not_false_eq_true, true_and, and_true, Int.reduceToNat]
        rw [fin (.inr hneg)]
        exact ⟨_, rfl, false, .refl _⟩
    · simp only [go_sem, Nat.reduceAdd, Nat.reduceSub, Nat.reduceMul, Nat.reduceLT, Nat.reduceLeDiff, Nat.reduceEqDiff, Nat.reduceBEq, Nat.reduceBNe, Nat.reducePow, Int.reduceEq, Int.reduceNe, Int.reduceLT, Int.reduceLE, Int.reduceGT, Int.reduceGE, Int.reduceAdd, Int.reduceSub, Int.reduceNeg, Int.reduceMul, not_true_eq_false, not_false_eq_true, true_and, and_true, Int.reduceToNat]
      rw [fin (.inl hge)]
      exact ⟨_, rfl, false, .refl _⟩
end Go.Proofs.YtipcmpkihhfhcaaDoor
