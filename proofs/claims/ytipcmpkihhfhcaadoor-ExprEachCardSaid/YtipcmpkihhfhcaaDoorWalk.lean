import Derived.Test.YtipcmpkihhfhcaaDoorRightD
import Derived.Test.YtipcmpkihhfhcaaDoorAbsRF
namespace Go.Proofs.YtipcmpkihhfhcaaDoor
open Go.Abs
set_option maxRecDepth 20000
set_option linter.unusedSimpArgs false
set_option linter.unusedVariables false
set_option maxHeartbeats 1000000
attribute [local irreducible] vc vcOps vcStep vcGuard prK hrK gK gsK brK callK ElemK SeqK BlockK ScopeK OpsK CallK LoopK LoopGo finPost ACall PCall PCallE BCall vqOps vqStep vqGuard qrK heK pcK gqK gqsK QOpsK qcallK DrawK
theorem parts_sub {L : List Ex} {e : Ex} {n i : Nat} {x : Ex} (hL : ∀ (k : Nat) y, (parts e)[k]? = some y → L[n + k]? = some y) (hx : e.subs[i]? = some x) :
    ∀ (k : Nat) y, (parts x)[k]? = some y → L[n + 1 + (partsL (e.subs.take i)).length + k]? = some y := by
  obtain ⟨hi, rfl⟩ := List.getElem?_eq_some_iff.1 hx
  intro k y hy
  have h1 := partsL_take hi
  have h2 : partsL e.subs = partsL (e.subs.take i) ++ parts e.subs[i] ++ partsL (e.subs.drop (i + 1)) := by
    rw [← h1, ← partsL_append, List.take_append_drop]
  have := hL (1 + (partsL (e.subs.take i)).length + k) y (by
    rw [parts_eq, h2, show 1 + (partsL (e.subs.take i)).length + k = ((partsL (e.subs.take i)).length + k) + 1 by omega, List.getElem?_cons_succ, List.append_assoc, List.getElem?_append_right (by omega), show (partsL (e.subs.take i)).length + k - (partsL (e.subs.take i)).length = k by omega,
      List.getElem?_append_left (List.getElem?_eq_some_iff.1 hy).1]
    exact hy)
  rw [show n + 1 + (partsL (e.subs.take i)).length + k = n + (1 + (partsL (e.subs.take i)).length + k) by omega]
  exact this
theorem n23 : (Tryd.f23.name == "runtime.NumGoroutine") = false := by kernel_rfl
theorem walk53 (yl m0 : Nat) (L : List Ex) (I : Nat → List Blk → Prop) (St : List Blk → Prop) (hlen : ∀ n h, I n h → h.length = m0) (hst : ∀ h, St h → h.length = m0)
    (hy : ∀ n x h r (K : AV → List Blk → Prop), L[n]? = some x → I n h → (∀ h' r', I (n + 1) h' → K (.b true) (h' ++ (r ++ r'))) → (∀ h' r', St h' → K (.b false) (h' ++ (r ++ r'))) → YCall Tryd.prog yl [x.enc] (h ++ r) K) :
    ∀ (e : Ex) (n : Nat) (h r : List Blk) (K : AV → List Blk → Prop), (∀ (k : Nat) y, (parts e)[k]? = some y → L[n + k]? = some y) → I n h →
      (∀ h' r', I (n + (parts e).length) h' → K (.b true) (h' ++ (r ++ r'))) → (∀ h' r', St h' → K (.b false) (h' ++ (r ++ r'))) → ACall Tryd.prog 23 [e.enc, .fn (.yield yl) [] []] (h ++ r) K := by
  intro e
  induction e using Ex.ind with
  | _ e ih =>
  intro n h r K hL hI hT hF
  refine acallK_of_vc tabOK Tryd.func23 n23 rfl (n := 23) rfl (rs := [.tmp 4]) rfl ?_
  simp only [go_sem, Nat.reduceAdd, Nat.reduceSub, Nat.reduceMul, Nat.reduceLT, Nat.reduceLeDiff, Nat.reduceEqDiff, Nat.reduceBEq, Nat.reduceBNe, Nat.reducePow, Int.reduceEq, Int.reduceNe, Int.reduceLT, Int.reduceLE, Int.reduceGT, Int.reduceGE, Int.reduceAdd, Int.reduceSub, Int.reduceNeg, Int.reduceMul, not_true_eq_false, not_false_eq_true, true_and, and_true, Int.reduceToNat]
  have h0 : L[n]? = some e := by have := hL 0 e (by rw [parts_eq]; rfl); simpa using this
  have hm := hlen _ _ hI
  refine hy n e h (r ++ [exBx e]) _ h0 hI (fun h1 r1 hI1 => ?_) (fun h1 r1 hS1 => ?_)
  · have hm1 := hlen _ _ hI1
    have hbox : (h1 ++ (r ++ exBx e :: r1))[h.length + r.length]? = some (.cells 25 [.i e.kind, .i e.n, .s e.name, .i e.op, .lst 1 (e.arms.map AV.s) none, .lst 6 (e.subs.map Ex.enc) none]) := by
      rw [List.getElem?_append_right (by omega), List.getElem?_append_right (by omega)]
      rw [show h.length + r.length - h1.length - r.length = 0 by omega]; rfl
    simp only [go_sem, Nat.reduceAdd, Nat.reduceSub, Nat.reduceMul, Nat.reduceLT, Nat.reduceLeDiff, Nat.reduceEqDiff, Nat.reduceBEq, Nat.reduceBNe, Nat.reducePow, Int.reduceEq, Int.reduceNe, Int.reduceLT, Int.reduceLE, Int.reduceGT, Int.reduceGE, Int.reduceAdd, Int.reduceSub, Int.reduceNeg, Int.reduceMul, not_true_eq_false, not_false_eq_true, true_and, and_true, Int.reduceToNat, hbox]
    intro _
    refine loop_fr [4, 6, 14, 15, 16, 17, 18, 19, 20, 21, 22] (fun m C hh => ∃ (i : Nat) (h' r' : List Blk), i ≤ e.subs.length ∧ m = e.subs.length - i ∧ I (n + 1 + (partsL (e.subs.take i)).length) h' ∧ C = [(14, .raw (.int .i64 (i : Nat)))] ∧ hh = h' ++ (r ++ exBx e :: r')) e.subs.length _ ⟨0, h1, r1, by omega, by omega, by simpa [partsL] using hI1, rfl, rfl⟩ (.cons rfl .nil) ?_
    rintro m C j hh ⟨i, h', r', hi, rfl, hI', rfl, rfl⟩
    simp only [go_sem, Nat.reduceAdd, Nat.reduceSub, Nat.reduceMul, Nat.reduceLT, Nat.reduceLeDiff, Nat.reduceEqDiff, Nat.reduceBEq, Nat.reduceBNe, Nat.reducePow, Int.reduceEq, Int.reduceNe, Int.reduceLT, Int.reduceLE, Int.reduceGT, Int.reduceGE, Int.reduceAdd, Int.reduceSub, Int.reduceNeg, Int.reduceMul, not_true_eq_false, not_false_eq_true, true_and, and_true, Int.reduceToNat]
    refine brK_dec (fun hlt => ?_) (fun hge => ?_)
    · simp only [go_sem, Nat.reduceAdd, Nat.reduceSub, Nat.reduceMul, Nat.reduceLT, Nat.reduceLeDiff, Nat.reduceEqDiff, Nat.reduceBEq, Nat.reduceBNe, Nat.reducePow, Int.reduceEq, Int.reduceNe, Int.reduceLT, Int.reduceLE, Int.reduceGT, Int.reduceGE, Int.reduceAdd, Int.reduceSub, Int.reduceNeg, Int.reduceMul, not_true_eq_false, not_false_eq_true, true_and, and_true, Int.reduceToNat]
      refine elemMap (by omega) (by omega) (fun x hx => ?_)
      have hx' : e.subs[i]? = some x := by simpa using hx
      simp only [go_sem, Nat.reduceAdd, Nat.reduceSub, Nat.reduceMul, Nat.reduceLT, Nat.reduceLeDiff, Nat.reduceEqDiff, Nat.reduceBEq, Nat.reduceBNe, Nat.reducePow, Int.reduceEq, Int.reduceNe, Int.reduceLT, Int.reduceLE, Int.reduceGT, Int.reduceGE, Int.reduceAdd, Int.reduceSub, Int.reduceNeg, Int.reduceMul, not_true_eq_false, not_false_eq_true, true_and, and_true, Int.reduceToNat]
      refine ih x (List.mem_of_getElem? hx') (n + 1 + (partsL (e.subs.take i)).length) h' (r ++ exBx e :: (r' ++ [exBx x])) _ (parts_sub hL hx') hI' (fun h2 r2 hI2 => ?_) (fun h2 r2 hS2 => ?_)
      · simp only [go_sem, Nat.reduceAdd, Nat.reduceSub, Nat.reduceMul, Nat.reduceLT, Nat.reduceLeDiff, Nat.reduceEqDiff, Nat.reduceBEq, Nat.reduceBNe, Nat.reducePow, Int.reduceEq, Int.reduceNe, Int.reduceLT, Int.reduceLE, Int.reduceGT, Int.reduceGE, Int.reduceAdd, Int.reduceSub, Int.reduceNeg, Int.reduceMul, not_true_eq_false, not_false_eq_true, true_and, and_true, Int.reduceToNat]
        exact loopFr _ (by omega) ⟨i + 1, h2, r' ++ (exBx x :: r2), by omega, rfl, by rw [parts_len hx', ← Nat.add_assoc]; exact hI2, rfl, by simp⟩ (.next rfl (by omega) .nil) rfl
      · simp only [go_sem, Nat.reduceAdd, Nat.reduceSub, Nat.reduceMul, Nat.reduceLT, Nat.reduceLeDiff, Nat.reduceEqDiff, Nat.reduceBEq, Nat.reduceBNe, Nat.reducePow, Int.reduceEq, Int.reduceNe, Int.reduceLT, Int.reduceLE, Int.reduceGT, Int.reduceGE, Int.reduceAdd, Int.reduceSub, Int.reduceNeg, Int.reduceMul, not_true_eq_false, not_false_eq_true, true_and, and_true, Int.reduceToNat]
        exact finK (r := .b false) rfl (by have := hF h2 (exBx e :: (r' ++ (exBx x :: r2))) hS2; simpa using this)
    · simp only [go_sem, Nat.reduceAdd, Nat.reduceSub, Nat.reduceMul, Nat.reduceLT, Nat.reduceLeDiff, Nat.reduceEqDiff, Nat.reduceBEq, Nat.reduceBNe, Nat.reducePow, Int.reduceEq, Int.reduceNe, Int.reduceLT, Int.reduceLE, Int.reduceGT, Int.reduceGE, Int.reduceAdd, Int.reduceSub, Int.reduceNeg, Int.reduceMul, not_true_eq_false, not_false_eq_true, true_and, and_true, Int.reduceToNat]
      have hie : i = e.subs.length := by omega
      subst hie
      rw [List.take_length] at hI'
      exact finK rfl (hT h' (exBx e :: r') (by rw [parts_eq, List.length_cons, show n + ((partsL e.subs).length + 1) = n + 1 + (partsL e.subs).length by omega]; exact hI'))
  · simp only [go_sem, Nat.reduceAdd, Nat.reduceSub, Nat.reduceMul, Nat.reduceLT, Nat.reduceLeDiff, Nat.reduceEqDiff, Nat.reduceBEq, Nat.reduceBNe, Nat.reducePow, Int.reduceEq, Int.reduceNe, Int.reduceLT, Int.reduceLE, Int.reduceGT, Int.reduceGE, Int.reduceAdd, Int.reduceSub, Int.reduceNeg, Int.reduceMul, not_true_eq_false, not_false_eq_true, true_and, and_true, Int.reduceToNat]
    exact finK rfl (hF h1 (exBx e :: r1) hS1)
theorem n8 : (Tryd.f8.name == "runtime.NumGoroutine") = false := by kernel_rfl
theorem n22 : (Tryd.f22.name == "runtime.NumGoroutine") = false := by kernel_rfl
theorem each28 (e : Ex) {h : List Blk} {K : AV → List Blk → Prop} (hK : K (.fn (.func 22) [] [.ptr h.length 0]) (h ++ [exBx e])) : ACall Tryd.prog 8 [e.enc] h K := by
  refine acallK_of_vc tabOK Tryd.func8 n8 rfl (n := 4) rfl (rs := [.tmp 2]) rfl ?_
  simp only [go_sem, Nat.reduceAdd, Nat.reduceSub, Nat.reduceMul, Nat.reduceLT, Nat.reduceLeDiff, Nat.reduceEqDiff, Nat.reduceBEq, Nat.reduceBNe, Nat.reducePow, Int.reduceEq, Int.reduceNe, Int.reduceLT, Int.reduceLE, Int.reduceGT, Int.reduceGE, Int.reduceAdd, Int.reduceSub, Int.reduceNeg, Int.reduceMul, not_true_eq_false, not_false_eq_true, true_and, and_true, Int.reduceToNat]
  exact finK rfl hK
theorem each52 (e : Ex) (yl m0 : Nat) (I : Nat → List Blk → Prop) (St : List Blk → Prop) (hlen : ∀ n h, I n h → h.length = m0) (hst : ∀ h, St h → h.length = m0)
    (hy : ∀ n x h r (K : AV → List Blk → Prop), (parts e)[n]? = some x → I n h → (∀ h' r', I (n + 1) h' → K (.b true) (h' ++ (r ++ r'))) → (∀ h' r', St h' → K (.b false) (h' ++ (r ++ r'))) → YCall Tryd.prog yl [x.enc] (h ++ r) K)
    {h : List Blk} {k : Nat} {K : AV → List Blk → Prop} (hk : h[k]? = some (exBx e)) (h0 : I 0 h) (hT : ∀ h' r', I (parts e).length h' → K (.tup []) (h' ++ r')) (hF : ∀ h' r', St h' → K (.tup []) (h' ++ r')) :
    ACall Tryd.prog 22 [.fn (.yield yl) [] [], .ptr k 0] h K := by
  have hk' : h[k]? = some (.cells 25 [.i e.kind, .i e.n, .s e.name, .i e.op, .lst 1 (e.arms.map AV.s) none, .lst 6 (e.subs.map Ex.enc) none]) := hk
  refine acallK_of_vc tabOK Tryd.func22 n22 rfl (n := 6) rfl (rs := []) rfl ?_
  simp only [go_sem, Nat.reduceAdd, Nat.reduceSub, Nat.reduceMul, Nat.reduceLT, Nat.reduceLeDiff, Nat.reduceEqDiff, Nat.reduceBEq, Nat.reduceBNe, Nat.reducePow, Int.reduceEq, Int.reduceNe, Int.reduceLT, Int.reduceLE, Int.reduceGT, Int.reduceGE, Int.reduceAdd, Int.reduceSub, Int.reduceNeg, Int.reduceMul, not_true_eq_false, not_false_eq_true, true_and, and_true, Int.reduceToNat, hk']
  have hw := walk53 yl m0 (parts e) I St hlen hst hy e 0 h []
  rw [List.append_nil] at hw
  refine hw _ (fun k y hy => by simpa using hy) h0 (fun h' r' hI' => ?_) (fun h' r' hS' => ?_)
  · simp only [go_sem, Nat.reduceAdd, Nat.reduceSub, Nat.reduceMul, Nat.reduceLT, Nat.reduceLeDiff, Nat.reduceEqDiff, Nat.reduceBEq, Nat.reduceBNe, Nat.reducePow, Int.reduceEq, Int.reduceNe, Int.reduceLT, Int.reduceLE, Int.reduceGT, Int.reduceGE, Int.reduceAdd, Int.reduceSub, Int.reduceNeg, Int.reduceMul, not_true_eq_false, not_false_eq_true, true_and, and_true, Int.reduceToNat]
    rw [Nat.zero_add] at hI'
    exact ⟨[], rfl, .tup [], .refl _, hT _ _ hI'⟩
  · simp only [go_sem, Nat.reduceAdd, Nat.reduceSub, Nat.reduceMul, Nat.reduceLT, Nat.reduceLeDiff, Nat.reduceEqDiff, Nat.reduceBEq, Nat.reduceBNe, Nat.reducePow, Int.reduceEq, Int.reduceNe, Int.reduceLT, Int.reduceLE, Int.reduceGT, Int.reduceGE, Int.reduceAdd, Int.reduceSub, Int.reduceNeg, Int.reduceMul, not_true_eq_false, not_false_eq_true, true_and, and_true, Int.reduceToNat]
    exact ⟨[], rfl, .tup [], .refl _, hF _ _ hS'⟩
end Go.Proofs.YtipcmpkihhfhcaaDoor
