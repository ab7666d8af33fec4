import Derived.Test.YtipcmpkihhfhcaaDoorTab
import Derived.Test.YtipcmpkihhfhcaaDoorAbsX
namespace Go.Proofs.YtipcmpkihhfhcaaDoor
open Go.Abs
set_option maxRecDepth 20000
set_option linter.unusedSimpArgs false
set_option linter.unusedVariables false
set_option maxHeartbeats 1000000
attribute [local irreducible] vc vcOps vcStep vcGuard prK hrK gK gsK brK callK ElemK SeqK BlockK ScopeK OpsK CallK LoopK LoopGo finPost ACall PCall PCallE BCall vqOps vqStep vqGuard qrK heK pcK gqK gqsK QOpsK qcallK DrawK

theorem n7 : (Tryd.f7.name == "runtime.NumGoroutine") = false := by kernel_rfl

mutual
def parts : Ex → List Ex
  | .mk k n m o a s => .mk k n m o a s :: partsL s
def partsL : List Ex → List Ex
  | [] => []
  | x :: xs => parts x ++ partsL xs
end
theorem parts_eq (e : Ex) : parts e = e :: partsL e.subs := by cases e; simp [parts, Ex.subs]
theorem partsL_append (l m : List Ex) : partsL (l ++ m) = partsL l ++ partsL m := by
  induction l with
  | nil => simp [partsL]
  | cons x l ih => simp [partsL, ih]
theorem partsL_take {l : List Ex} {k : Nat} (h : k < l.length) : partsL (l.take (k + 1)) = partsL (l.take k) ++ parts l[k] := by
  rw [List.take_succ_eq_append_getElem h, partsL_append]
  simp [partsL]
theorem partsL_le {l : List Ex} {k : Nat} : (partsL (l.take k)).length ≤ (partsL l).length := by
  have : partsL l = partsL (l.take k) ++ partsL (l.drop k) := by rw [← partsL_append, List.take_append_drop]
  rw [this]; simp
theorem parts_le {l : List Ex} {k : Nat} (h : k < l.length) : (parts l[k]).length ≤ (partsL l).length := by
  have h1 := partsL_take h
  have h2 := partsL_le (l := l) (k := k + 1)
  rw [h1] at h2
  simp at h2
  omega

theorem parts_spec : ∀ (e : Ex), (parts e).length ≤ 100000 → PCall Tryd.prog 7 [e.enc] (.lst 6 ((parts e).map Ex.enc) none) := by
  intro e
  induction e using Ex.ind with
  | _ e ih =>
  intro hl
  refine pcall_of_vc tabOK Tryd.func7 n7 rfl (pure_cons (pure_enc e) pure_nil) (pure_lst _) (n := 23) rfl (rs := [.tmp 2]) rfl ?_
  simp only [go_sem, Nat.reduceAdd, Nat.reduceSub, Nat.reduceMul, Nat.reduceLT, Nat.reduceLeDiff, Nat.reduceEqDiff, Nat.reduceBEq, Nat.reduceBNe, Nat.reducePow, Int.reduceEq, Int.reduceNe, Int.reduceLT, Int.reduceLE, Int.reduceGT, Int.reduceGE, Int.reduceAdd, Int.reduceSub, Int.reduceNeg, Int.reduceMul, not_true_eq_false, not_false_eq_true, true_and, and_true, Int.reduceToNat]
  rw [parts_eq] at hl ⊢
  refine loop_rule (fun n s h => ∃ (k : Nat), k ≤ e.subs.length ∧ n = e.subs.length - k ∧
      Vis 23 [(1, .ptr 0 0), (3, .lst 6 ((e :: partsL (e.subs.take k)).map Ex.enc) (some 1)), (4, .i k)] s ∧
      h = [.cells 25 [.i e.kind, .i e.n, .s e.name, .i e.op, .lst 1 (e.arms.map AV.s) none, .lst 6 (e.subs.map Ex.enc) none], .tok 25 6 (partsL (e.subs.take k)).length.succ]) e.subs.length ?_ ?_
  · exact ⟨0, by omega, rfl, .cons rfl (.cons (by simp [partsL]) (.cons rfl (.nil rfl))), by simp [partsL]⟩
  rintro n s h ⟨k, hk, rfl, hv, rfl⟩
  obtain ⟨j, rfl⟩ := hv.out
  simp only [go_sem, Nat.reduceAdd, Nat.reduceSub, Nat.reduceMul, Nat.reduceLT, Nat.reduceLeDiff, Nat.reduceEqDiff, Nat.reduceBEq, Nat.reduceBNe, Nat.reducePow, Int.reduceEq, Int.reduceNe, Int.reduceLT, Int.reduceLE, Int.reduceGT, Int.reduceGE, Int.reduceAdd, Int.reduceSub, Int.reduceNeg, Int.reduceMul, not_true_eq_false, not_false_eq_true, true_and, and_true, Int.reduceToNat]
  intro hm
  refine brK_dec (fun hlt => ?_) (fun hge => ?_)
  · have hlt' : k < e.subs.length := by omega
    have h1 := parts_le hlt'
    have h2 := partsL_le (l := e.subs) (k := k + 1)
    have h3 := partsL_take hlt'
    rw [h3] at h2
    simp only [List.length_cons, List.length_append] at hl h2
    simp only [go_sem, Nat.reduceAdd, Nat.reduceSub, Nat.reduceMul, Nat.reduceLT, Nat.reduceLeDiff, Nat.reduceEqDiff, Nat.reduceBEq, Nat.reduceBNe, Nat.reducePow, Int.reduceEq, Int.reduceNe, Int.reduceLT, Int.reduceLE, Int.reduceGT, Int.reduceGE, Int.reduceAdd, Int.reduceSub, Int.reduceNeg, Int.reduceMul, not_true_eq_false, not_false_eq_true, true_and, and_true, Int.reduceToNat]
    refine elemK (e.subs[k]).enc (by omega) (map_at _ (List.getElem?_eq_getElem hlt')) ?_
    simp only [go_sem, Nat.reduceAdd, Nat.reduceSub, Nat.reduceMul, Nat.reduceLT, Nat.reduceLeDiff, Nat.reduceEqDiff, Nat.reduceBEq, Nat.reduceBNe, Nat.reducePow, Int.reduceEq, Int.reduceNe, Int.reduceLT, Int.reduceLE, Int.reduceGT, Int.reduceGE, Int.reduceAdd, Int.reduceSub, Int.reduceNeg, Int.reduceMul, not_true_eq_false, not_false_eq_true, true_and, and_true, Int.reduceToNat]
    refine PCall.call (ih e.subs[k] (List.getElem_mem _) (by omega)) ?_
    simp only [go_sem, Nat.reduceAdd, Nat.reduceSub, Nat.reduceMul, Nat.reduceLT, Nat.reduceLeDiff, Nat.reduceEqDiff, Nat.reduceBEq, Nat.reduceBNe, Nat.reducePow, Int.reduceEq, Int.reduceNe, Int.reduceLT, Int.reduceLE, Int.reduceGT, Int.reduceGE, Int.reduceAdd, Int.reduceSub, Int.reduceNeg, Int.reduceMul, not_true_eq_false, not_false_eq_true, true_and, and_true, Int.reduceToNat]
    refine ⟨by omega, ?_⟩
    rw [wrap_in _ (by omega) (by omega)]
    refine loopGo _ ?_ ⟨k + 1, by omega, rfl, .cons rfl (.cons (by rw [h3]; simp [slot]) (.cons rfl (.nil rfl))), by rw [h3]; simp⟩
    omega
  · have : k = e.subs.length := by omega
    subst this
    simp only [go_sem, Nat.reduceAdd, Nat.reduceSub, Nat.reduceMul, Nat.reduceLT, Nat.reduceLeDiff, Nat.reduceEqDiff, Nat.reduceBEq, Nat.reduceBNe, Nat.reducePow, Int.reduceEq, Int.reduceNe, Int.reduceLT, Int.reduceLE, Int.reduceGT, Int.reduceGE, Int.reduceAdd, Int.reduceSub, Int.reduceNeg, Int.reduceMul, not_true_eq_false, not_false_eq_true, true_and, and_true, Int.reduceToNat]
    rw [List.take_length]
    exact ⟨_, rfl, false, .tok _ _ _⟩
end Go.Proofs.YtipcmpkihhfhcaaDoor
