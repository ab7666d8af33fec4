import Derived.Test.YtipcmpkihhfhcaaData
import Derived.Test.YtipcmpkihhfhcaaAbsRF
import Derived.Test.YtipcmpkihhfhcaaAbsTA
namespace Go.Proofs.Ytipcmpkihhfhcaa
open Go.Abs
set_option maxRecDepth 20000
set_option linter.unusedSimpArgs false
set_option linter.unusedVariables false
set_option maxHeartbeats 1000000
attribute [local irreducible] vc vcOps vcStep vcGuard prK hrK gK gsK brK callK ElemK SeqK BlockK ScopeK OpsK CallK LoopK LoopGo finPost ACall PCall PCallE BCall vqOps vqStep vqGuard qrK heK pcK gqK gqsK QOpsK qcallK DrawK
theorem n67 : (Try.f67.name == "runtime.NumGoroutine") = false := by kernel_rfl
theorem ctors154 (L : List DEnum) {h : List Blk} {K : AV → List Blk → Prop} (hK : K (.fn (.func 69) [] [.ptr h.length 0]) (h ++ [.cells 22 [.lst 2 (L.map DEnum.enc) none]])) :
    ACall Try.prog 67 [.lst 2 (L.map DEnum.enc) none] h K := by
  refine acallK_of_vc tabOK Try.func67 n67 rfl (n := 4) rfl (rs := [.tmp 2]) rfl ?_
  simp only [go_sem, Nat.reduceAdd, Nat.reduceSub, Nat.reduceMul, Nat.reduceLT, Nat.reduceLeDiff, Nat.reduceEqDiff, Nat.reduceBEq, Nat.reduceBNe, Nat.reducePow, Int.reduceEq, Int.reduceNe, Int.reduceLT, Int.reduceLE, Int.reduceGT, Int.reduceGE, Int.reduceAdd, Int.reduceSub, Int.reduceNeg, Int.reduceMul, not_true_eq_false, not_false_eq_true, true_and, and_true, Int.reduceToNat]
  exact finK rfl hK

theorem n69 : (Try.f69.name == "runtime.NumGoroutine") = false := by kernel_rfl
theorem ctors155 (L : List DEnum) (yl k0 : Nat) (I : Nat → Nat → List Blk → Prop) (St : List Blk → Prop) {h : List Blk} {K : AV → List Blk → Prop}
    (hk : ∀ i k h, I i k h → h[k0]? = some (.cells 22 [.lst 2 (L.map DEnum.enc) none]))
    (hg : ∀ i k h r, I i k h → I i k (h ++ r)) (hr : ∀ i e h, L[i]? = some e → I i e.Ctors.length h → I (i + 1) 0 h)
    (hy : ∀ i k e c h, L[i]? = some e → e.Ctors[k]? = some c → I i k h → ∀ K : AV → List Blk → Prop, (∀ h', I i (k + 1) h' → K (.b true) h') → (∀ h', St h' → K (.b false) h') → YCall Try.prog yl [.agg [.i (i : Int), .i (k : Int)], .s c] h K)
    (h0 : I 0 0 h) (hK : ∀ h', I L.length 0 h' → K (.tup []) h') (hS : ∀ h', St h' → K (.tup []) h') : ACall Try.prog 69 [.fn (.yield yl) [] [], .ptr k0 0] h K := by
  refine acallK_of_vc tabOK Try.func69 n69 rfl (n := 31) rfl (rs := []) rfl ?_
  simp only [go_sem, Nat.reduceAdd, Nat.reduceSub, Nat.reduceMul, Nat.reduceLT, Nat.reduceLeDiff, Nat.reduceEqDiff, Nat.reduceBEq, Nat.reduceBNe, Nat.reducePow, Int.reduceEq, Int.reduceNe, Int.reduceLT, Int.reduceLE, Int.reduceGT, Int.reduceGE, Int.reduceAdd, Int.reduceSub, Int.reduceNeg, Int.reduceMul, not_true_eq_false, not_false_eq_true, true_and, and_true, Int.reduceToNat, hk 0 0 h h0]
  intro hlen
  refine loop_fr [3, 4, 5, 6, 9, 10, 11, 12, 13, 14, 15, 16, 17, 18, 19, 20, 21, 22, 23, 24, 25, 26, 27, 28, 29, 30] (fun m C hh => ∃ i : Nat, i ≤ L.length ∧ m = L.length - i ∧ I i 0 hh ∧ C = [(9, .raw (.int .i64 (i : Nat)))]) L.length _ ⟨0, by omega, by omega, h0, rfl⟩ (.cons rfl .nil) ?_
  rintro m C jo hh ⟨i, hi, rfl, hI, rfl⟩
  simp only [go_sem, Nat.reduceAdd, Nat.reduceSub, Nat.reduceMul, Nat.reduceLT, Nat.reduceLeDiff, Nat.reduceEqDiff, Nat.reduceBEq, Nat.reduceBNe, Nat.reducePow, Int.reduceEq, Int.reduceNe, Int.reduceLT, Int.reduceLE, Int.reduceGT, Int.reduceGE, Int.reduceAdd, Int.reduceSub, Int.reduceNeg, Int.reduceMul, not_true_eq_false, not_false_eq_true, true_and, and_true, Int.reduceToNat]
  refine brK_dec (fun hlt => ?_) (fun hge => ?_)
  · simp only [go_sem, Nat.reduceAdd, Nat.reduceSub, Nat.reduceMul, Nat.reduceLT, Nat.reduceLeDiff, Nat.reduceEqDiff, Nat.reduceBEq, Nat.reduceBNe, Nat.reducePow, Int.reduceEq, Int.reduceNe, Int.reduceLT, Int.reduceLE, Int.reduceGT, Int.reduceGE, Int.reduceAdd, Int.reduceSub, Int.reduceNeg, Int.reduceMul, not_true_eq_false, not_false_eq_true, true_and, and_true, Int.reduceToNat]
    refine elemMap (by omega) (by omega) (fun e he => ?_)
    have he' : L[i]? = some e := by simpa using he
    simp only [go_sem, Nat.reduceAdd, Nat.reduceSub, Nat.reduceMul, Nat.reduceLT, Nat.reduceLeDiff, Nat.reduceEqDiff, Nat.reduceBEq, Nat.reduceBNe, Nat.reducePow, Int.reduceEq, Int.reduceNe, Int.reduceLT, Int.reduceLE, Int.reduceGT, Int.reduceGE, Int.reduceAdd, Int.reduceSub, Int.reduceNeg, Int.reduceMul, not_true_eq_false, not_false_eq_true, true_and, and_true, Int.reduceToNat, at_app0, set_app0]
    intro hlen2
    refine loop_fr [5, 6, 17, 18, 19, 20, 21, 22, 23, 24, 25, 26, 27, 28, 29] (fun m C hh => ∃ k : Nat, k ≤ e.Ctors.length ∧ m = e.Ctors.length - k ∧ I i k hh ∧ C = [(17, .raw (.int .i64 (k : Nat)))]) e.Ctors.length _ ⟨0, by omega, by omega, hg _ _ _ _ hI, rfl⟩ (.cons rfl .nil) ?_
    rintro m C ji hh2 ⟨k, hk2, rfl, hI2, rfl⟩
    simp only [go_sem, Nat.reduceAdd, Nat.reduceSub, Nat.reduceMul, Nat.reduceLT, Nat.reduceLeDiff, Nat.reduceEqDiff, Nat.reduceBEq, Nat.reduceBNe, Nat.reducePow, Int.reduceEq, Int.reduceNe, Int.reduceLT, Int.reduceLE, Int.reduceGT, Int.reduceGE, Int.reduceAdd, Int.reduceSub, Int.reduceNeg, Int.reduceMul, not_true_eq_false, not_false_eq_true, true_and, and_true, Int.reduceToNat]
    refine brK_dec (fun hlt2 => ?_) (fun hge2 => ?_)
    · simp only [go_sem, Nat.reduceAdd, Nat.reduceSub, Nat.reduceMul, Nat.reduceLT, Nat.reduceLeDiff, Nat.reduceEqDiff, Nat.reduceBEq, Nat.reduceBNe, Nat.reducePow, Int.reduceEq, Int.reduceNe, Int.reduceLT, Int.reduceLE, Int.reduceGT, Int.reduceGE, Int.reduceAdd, Int.reduceSub, Int.reduceNeg, Int.reduceMul, not_true_eq_false, not_false_eq_true, true_and, and_true, Int.reduceToNat]
      refine elemMap (by omega) (by omega) (fun c hc => ?_)
      simp only [go_sem, Nat.reduceAdd, Nat.reduceSub, Nat.reduceMul, Nat.reduceLT, Nat.reduceLeDiff, Nat.reduceEqDiff, Nat.reduceBEq, Nat.reduceBNe, Nat.reducePow, Int.reduceEq, Int.reduceNe, Int.reduceLT, Int.reduceLE, Int.reduceGT, Int.reduceGE, Int.reduceAdd, Int.reduceSub, Int.reduceNeg, Int.reduceMul, not_true_eq_false, not_false_eq_true, true_and, and_true, Int.reduceToNat]
      refine hy i k e c hh2 he' (by simpa using hc) hI2 _ (fun h' hI' => ?_) (fun h' hS' => ?_)
      · simp only [go_sem, Nat.reduceAdd, Nat.reduceSub, Nat.reduceMul, Nat.reduceLT, Nat.reduceLeDiff, Nat.reduceEqDiff, Nat.reduceBEq, Nat.reduceBNe, Nat.reducePow, Int.reduceEq, Int.reduceNe, Int.reduceLT, Int.reduceLE, Int.reduceGT, Int.reduceGE, Int.reduceAdd, Int.reduceSub, Int.reduceNeg, Int.reduceMul, not_true_eq_false, not_false_eq_true, true_and, and_true, Int.reduceToNat]
        exact loopFr _ (by omega) ⟨k + 1, by omega, rfl, hI', rfl⟩ (.next rfl (by omega) .nil) rfl
      · simp only [go_sem, Nat.reduceAdd, Nat.reduceSub, Nat.reduceMul, Nat.reduceLT, Nat.reduceLeDiff, Nat.reduceEqDiff, Nat.reduceBEq, Nat.reduceBNe, Nat.reducePow, Int.reduceEq, Int.reduceNe, Int.reduceLT, Int.reduceLE, Int.reduceGT, Int.reduceGE, Int.reduceAdd, Int.reduceSub, Int.reduceNeg, Int.reduceMul, not_true_eq_false, not_false_eq_true, true_and, and_true, Int.reduceToNat]
        exact ⟨[], rfl, .tup [], .refl _, hS _ hS'⟩
    · simp only [go_sem, Nat.reduceAdd, Nat.reduceSub, Nat.reduceMul, Nat.reduceLT, Nat.reduceLeDiff, Nat.reduceEqDiff, Nat.reduceBEq, Nat.reduceBNe, Nat.reducePow, Int.reduceEq, Int.reduceNe, Int.reduceLT, Int.reduceLE, Int.reduceGT, Int.reduceGE, Int.reduceAdd, Int.reduceSub, Int.reduceNeg, Int.reduceMul, not_true_eq_false, not_false_eq_true, true_and, and_true, Int.reduceToNat]
      have : k = e.Ctors.length := by omega
      subst this
      exact loopFr _ (by omega) ⟨i + 1, by omega, rfl, hr i e _ he' hI2, rfl⟩ (.next rfl (by omega) .nil) rfl
  · simp only [go_sem, Nat.reduceAdd, Nat.reduceSub, Nat.reduceMul, Nat.reduceLT, Nat.reduceLeDiff, Nat.reduceEqDiff, Nat.reduceBEq, Nat.reduceBNe, Nat.reducePow, Int.reduceEq, Int.reduceNe, Int.reduceLT, Int.reduceLE, Int.reduceGT, Int.reduceGE, Int.reduceAdd, Int.reduceSub, Int.reduceNeg, Int.reduceMul, not_true_eq_false, not_false_eq_true, true_and, and_true, Int.reduceToNat]
    have : i = L.length := by omega
    subst this
    exact ⟨[], rfl, .tup [], .refl _, hK _ hI⟩
end Go.Proofs.Ytipcmpkihhfhcaa
