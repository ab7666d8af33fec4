import Derived.Test.YtipcmpkihhfhcaaDoorLib2
namespace Go.Proofs.YtipcmpkihhfhcaaDoor
open Go.Abs
set_option maxRecDepth 20000
set_option linter.unusedSimpArgs false
set_option linter.unusedVariables false
set_option maxHeartbeats 1000000
attribute [local irreducible] vc vcOps vcStep vcGuard prK hrK gK gsK brK callK ElemK SeqK BlockK ScopeK OpsK CallK LoopK LoopGo finPost ACall PCall PCallE BCall vqOps vqStep vqGuard qrK heK pcK gqK gqsK QOpsK qcallK DrawK
theorem take_set {X : List AV} {i : Nat} {v : AV} (h : i < X.length) : (X.set i v).take (i + 1) = X.take i ++ [v] := by
  rw [List.take_succ_eq_append_getElem (by simpa using h), List.take_set_of_le (Nat.le_refl _)]
  simp
theorem one_set {X : List AV} {i : Nat} {v : AV} (h : X.all AV.one = true) (hv : v.one = true) : (X.set i v).all AV.one = true := by
  rw [List.all_eq_true] at h ⊢
  intro x hx
  rcases List.mem_or_eq_of_mem_set hx with q | q
  · exact h x q
  · rw [q]; exact hv
theorem n90 : (Tryd.f90.name == "runtime.NumGoroutine") = false := by kernel_rfl
theorem split22 (t : ByteArray) (c : UInt8) (ht : t.size ≤ 1000000) : PCall Tryd.prog 90 [.s t, .s ⟨#[c]⟩, .i 0, .i (-1)] (.lst 1 ((pieces c t).map AV.s) none) := by
  refine pcall_of_vc tabOK Tryd.func90 n90 rfl (by repeat' first | exact pure_nil | refine pure_cons ?_ ?_ | exact .raw _ | exact pure_enc _ | exact pure_lst _ | exact pure_strs _ | exact pure_ints _ | exact DTy.pure _ | exact DTy.pures _ | exact DEnum.pure _ | exact DEnum.pures _ | exact DDecl.pure _ | exact DDecl.pures _ | exact DEq.pure _ | exact DEq.pures _ | exact DNode.pure _ | exact DNode.pures _ | exact DProg.pure _ | exact DProg.pures _ | exact DCond.pure _ | exact DCond.pures _ | exact DAtom.pure _ | exact DAtom.pures _ | exact DPlain.pure _ | exact DPlain.pures _ | exact DVar.pure _ | exact DVar.pures _ | exact DFlow.pure _ | exact DFlow.pures _ | exact DFlows.pure _ | exact DFlows.pures _ | exact DAsked.pure _ | exact DAsked.pures _ | exact DFault.pure _ | exact DFault.pures _ | exact DCell.pure _ | exact DCell.pures _ | exact DReply.pure _ | exact DReply.pures _ | exact DAsk.pure _ | exact DAsk.pures _ | exact DOp.pure _ | exact DOp.pures _ | exact pure_list (fun x => DDecl.pures x) _ | exact .fn _ _ _ pure_nil pure_nil | refine .agg _ ?_ | refine .tup _ ?_ | assumption) (pure_strs _) (n := 66) rfl (rs := [.tmp 8]) rfl ?_
  generalize hN : (bts t).count c = N
  have hNs : N ≤ t.size := by rw [← hN, ← bts_len]; exact List.count_le_length
  have hw1 : IntKind.i64.wrap ((N : Int) + 1) = ((N + 1 : Nat) : Int) := by rw [wrap_in _ (by omega) (by omega)]; omega
  have hw2 : IntKind.i64.wrap ((t.size : Int) + 1) = ((t.size + 1 : Nat) : Int) := by rw [wrap_in _ (by omega) (by omega)]; omega
  have hmin : (if ((t.size + 1 : Nat) : Int) < ((N + 1 : Nat) : Int) then ((t.size + 1 : Nat) : Int) else ((N + 1 : Nat) : Int)) = ((N + 1 : Nat) : Int) := if_neg (by omega)
  have hw3 : IntKind.i64.wrap (((N + 1 : Nat) : Int) - 1) = ((N : Nat) : Int) := by rw [wrap_in _ (by omega) (by omega)]; omega
  simp only [go_sem, Nat.reduceAdd, Nat.reduceSub, Nat.reduceMul, Nat.reduceLT, Nat.reduceLeDiff, Nat.reduceEqDiff, Nat.reduceBEq, Nat.reduceBNe, Nat.reducePow, Int.reduceEq, Int.reduceNe, Int.reduceLT, Int.reduceLE, Int.reduceGT, Int.reduceGE, Int.reduceAdd, Int.reduceSub, Int.reduceNeg, Int.reduceMul, not_true_eq_false, not_false_eq_true, true_and, and_true, Int.reduceToNat]
  refine brK_dec (fun h => absurd h (one_ne c)) (fun _ => ?_)
  simp only [go_sem, Nat.reduceAdd, Nat.reduceSub, Nat.reduceMul, Nat.reduceLT, Nat.reduceLeDiff, Nat.reduceEqDiff, Nat.reduceBEq, Nat.reduceBNe, Nat.reducePow, Int.reduceEq, Int.reduceNe, Int.reduceLT, Int.reduceLE, Int.reduceGT, Int.reduceGE, Int.reduceAdd, Int.reduceSub, Int.reduceNeg, Int.reduceMul, not_true_eq_false, not_false_eq_true, true_and, and_true, Int.reduceToNat]
  refine PCall.call (count26 t c) ?_
  rw [hN]
  simp only [go_sem, Nat.reduceAdd, Nat.reduceSub, Nat.reduceMul, Nat.reduceLT, Nat.reduceLeDiff, Nat.reduceEqDiff, Nat.reduceBEq, Nat.reduceBNe, Nat.reducePow, Int.reduceEq, Int.reduceNe, Int.reduceLT, Int.reduceLE, Int.reduceGT, Int.reduceGE, Int.reduceAdd, Int.reduceSub, Int.reduceNeg, Int.reduceMul, not_true_eq_false, not_false_eq_true, true_and, and_true, Int.reduceToNat, hw1, hw2, hmin, hw3, Int.toNat_natCast]
  refine ⟨by omega, ?_⟩
  refine loop_fr [0, 10, 11, 34, 35, 36, 37, 38, 39, 40, 41, 42, 43, 44, 45, 46, 47, 48, 49, 50, 51, 52, 53, 54, 55, 56, 57] (fun m C hh => ∃ (i : Nat) (s : ByteArray) (D : List ByteArray) (X : List AV), D.length = i ∧ D ++ pieces c s = pieces c t ∧ i + (bts s).count c = N ∧ s.size ≤ t.size ∧ X.length = N + 1 ∧ X.take i = D.map AV.s ∧ X.all AV.one = true ∧ m = N - i ∧ C = [(10, .raw (.int .i64 (i : Nat))), (0, .s s)] ∧ hh = [.cells 9 X])
    N _ ⟨0, t, [], _, rfl, rfl, by omega, Nat.le_refl _, by simp, rfl, by simp [AV.one, Value.oneCell'], by omega, rfl, rfl⟩ (.cons rfl (.cons rfl .nil)) ?_
  rintro m C j hh ⟨i, s, D, X, hD, hp, hc, hs, hX, hXt, hXo, rfl, rfl, rfl⟩
  simp only [go_sem, Nat.reduceAdd, Nat.reduceSub, Nat.reduceMul, Nat.reduceLT, Nat.reduceLeDiff, Nat.reduceEqDiff, Nat.reduceBEq, Nat.reduceBNe, Nat.reducePow, Int.reduceEq, Int.reduceNe, Int.reduceLT, Int.reduceLE, Int.reduceGT, Int.reduceGE, Int.reduceAdd, Int.reduceSub, Int.reduceNeg, Int.reduceMul, not_true_eq_false, not_false_eq_true, true_and, and_true, Int.reduceToNat]
  refine brK_dec (fun hlt => ?_) (fun hge => ?_)
  · have hcm : c ∈ bts s := List.count_pos_iff.1 (by omega)
    obtain ⟨m, h1, h2, h3, h4⟩ := idx_at hcm
    have hm : m < s.size := by rw [← bts_len]; exact h2
    have hw4 : IntKind.i64.wrap ((m : Int) + 0) = (m : Int) := by rw [wrap_in _ (by omega) (by omega)]; omega
    have hw5 : IntKind.i64.wrap ((m : Int) + ((1 : Nat) : Int)) = ((m + 1 : Nat) : Int) := by rw [wrap_in _ (by omega) (by omega)]; omega
    simp only [go_sem, Nat.reduceAdd, Nat.reduceSub, Nat.reduceMul, Nat.reduceLT, Nat.reduceLeDiff, Nat.reduceEqDiff, Nat.reduceBEq, Nat.reduceBNe, Nat.reducePow, Int.reduceEq, Int.reduceNe, Int.reduceLT, Int.reduceLE, Int.reduceGT, Int.reduceGE, Int.reduceAdd, Int.reduceSub, Int.reduceNeg, Int.reduceMul, not_true_eq_false, not_false_eq_true, true_and, and_true, Int.reduceToNat]
    refine PCall.call (index27 s c) ?_
    rw [h1]
    simp only [go_sem, Nat.reduceAdd, Nat.reduceSub, Nat.reduceMul, Nat.reduceLT, Nat.reduceLeDiff, Nat.reduceEqDiff, Nat.reduceBEq, Nat.reduceBNe, Nat.reducePow, Int.reduceEq, Int.reduceNe, Int.reduceLT, Int.reduceLE, Int.reduceGT, Int.reduceGE, Int.reduceAdd, Int.reduceSub, Int.reduceNeg, Int.reduceMul, not_true_eq_false, not_false_eq_true, true_and, and_true, Int.reduceToNat]
    refine brK_dec (fun _ => by exfalso; omega) (fun _ => ?_)
    have hd : decide (i + 1 ≤ X.length) = true := decide_eq_true (by omega)
    simp only [go_sem, Nat.reduceAdd, Nat.reduceSub, Nat.reduceMul, Nat.reduceLT, Nat.reduceLeDiff, Nat.reduceEqDiff, Nat.reduceBEq, Nat.reduceBNe, Nat.reducePow, Int.reduceEq, Int.reduceNe, Int.reduceLT, Int.reduceLE, Int.reduceGT, Int.reduceGE, Int.reduceAdd, Int.reduceSub, Int.reduceNeg, Int.reduceMul, not_true_eq_false, not_false_eq_true, true_and, and_true, Int.reduceToNat, hw4, hw5, one_size, Int.toNat_natCast, hd, Nat.mul_one]
    refine ⟨by omega, by omega, by omega, ?_⟩
    have hpc := pieces_at h2 h3 h4
    refine loopFr _ (by omega) ⟨i + 1, s.extract (m + 1) s.size, D ++ [s.extract 0 m], X.set i (.s (s.extract 0 m)), by simp [hD], by rw [List.append_assoc, ← hp, hpc]; rfl, ?_, by rw [ByteArray.size_extract]; omega, by simpa using hX, ?_, one_set hXo rfl, rfl, rfl, rfl⟩ (.next rfl (by omega) (.cons rfl .nil)) rfl
    · have e2 : bts (s.extract (m + 1) s.size) = (bts s).drop (m + 1) := by rw [bts_extract, List.take_of_length_le (by rw [bts_len]; exact Nat.le_refl _)]
      have e3 : (bts s).count c = ((bts s).drop (m + 1)).count c + 1 := by
        conv => lhs; rw [h3]
        rw [List.count_append, List.count_eq_zero.2 h4, List.count_cons]
        simp
      rw [e2]; omega
    · rw [take_set (by omega), hXt, List.map_append]; rfl
  · have hi : i = N := by omega
    have hz : c ∉ bts s := fun hm => by have := List.count_pos_iff.2 hm; omega
    rw [pieces_no hz] at hp
    have hw6 : IntKind.i64.wrap ((i : Int) + 1) = ((i + 1 : Nat) : Int) := by rw [wrap_in _ (by omega) (by omega)]; omega
    have hd : decide (i + 1 ≤ X.length) = true := decide_eq_true (by omega)
    simp only [go_sem, Nat.reduceAdd, Nat.reduceSub, Nat.reduceMul, Nat.reduceLT, Nat.reduceLeDiff, Nat.reduceEqDiff, Nat.reduceBEq, Nat.reduceBNe, Nat.reducePow, Int.reduceEq, Int.reduceNe, Int.reduceLT, Int.reduceLE, Int.reduceGT, Int.reduceGE, Int.reduceAdd, Int.reduceSub, Int.reduceNeg, Int.reduceMul, not_true_eq_false, not_false_eq_true, true_and, and_true, Int.reduceToNat, hd, Nat.mul_one, Int.toNat_natCast, hw6]
    refine ⟨by omega, by omega, ?_⟩
    refine ⟨_, rfl, true, ?_⟩
    have hlen : (X.set i (.s s)).length = i + 1 := by simp; omega
    have hall : X.set i (.s s) = (pieces c t).map AV.s := by
      rw [← hp, List.map_append, ← hXt]
      have := take_set (X := X) (i := i) (v := .s s) (by omega)
      rw [List.take_of_length_le (by rw [hlen]; exact Nat.le_refl _)] at this
      exact this
    have hone := one_set (i := i) (v := .s s) hXo rfl
    show Weak (frz [.cells 9 (X.set i (.s s))] (.sl 1 0 0 (i + 1))) _
    rw [hall] at hlen hone ⊢
    simp only [frz, List.getElem?_cons_zero, decide_true, Nat.zero_add, hlen, Nat.le_refl, hone, List.drop_zero]
    rw [List.take_of_length_le (by rw [hlen]; exact Nat.le_refl _)]
    exact .refl _
theorem n77 : (Tryd.f77.name == "runtime.NumGoroutine") = false := by kernel_rfl
theorem split18 (t : ByteArray) (c : UInt8) (ht : t.size ≤ 1000000) : PCall Tryd.prog 77 [.s t, .s ⟨#[c]⟩] (.lst 1 ((pieces c t).map AV.s) none) := by
  refine pcall_of_vc tabOK Tryd.func77 n77 rfl (by repeat' first | exact pure_nil | refine pure_cons ?_ ?_ | exact .raw _ | exact pure_enc _ | exact pure_lst _ | exact pure_strs _ | exact pure_ints _ | exact DTy.pure _ | exact DTy.pures _ | exact DEnum.pure _ | exact DEnum.pures _ | exact DDecl.pure _ | exact DDecl.pures _ | exact DEq.pure _ | exact DEq.pures _ | exact DNode.pure _ | exact DNode.pures _ | exact DProg.pure _ | exact DProg.pures _ | exact DCond.pure _ | exact DCond.pures _ | exact DAtom.pure _ | exact DAtom.pures _ | exact DPlain.pure _ | exact DPlain.pures _ | exact DVar.pure _ | exact DVar.pures _ | exact DFlow.pure _ | exact DFlow.pures _ | exact DFlows.pure _ | exact DFlows.pures _ | exact DAsked.pure _ | exact DAsked.pures _ | exact DFault.pure _ | exact DFault.pures _ | exact DCell.pure _ | exact DCell.pures _ | exact DReply.pure _ | exact DReply.pures _ | exact DAsk.pure _ | exact DAsk.pures _ | exact DOp.pure _ | exact DOp.pures _ | exact pure_list (fun x => DDecl.pures x) _ | exact .fn _ _ _ pure_nil pure_nil | refine .agg _ ?_ | refine .tup _ ?_ | assumption) (pure_strs _) (n := 8) rfl (rs := [.tmp 4]) rfl ?_
  simp only [go_sem, Nat.reduceAdd, Nat.reduceSub, Nat.reduceMul, Nat.reduceLT, Nat.reduceLeDiff, Nat.reduceEqDiff, Nat.reduceBEq, Nat.reduceBNe, Nat.reducePow, Int.reduceEq, Int.reduceNe, Int.reduceLT, Int.reduceLE, Int.reduceGT, Int.reduceGE, Int.reduceAdd, Int.reduceSub, Int.reduceNeg, Int.reduceMul, not_true_eq_false, not_false_eq_true, true_and, and_true, Int.reduceToNat]
  refine PCall.call (split22 t c ht) ?_
  simp only [go_sem, Nat.reduceAdd, Nat.reduceSub, Nat.reduceMul, Nat.reduceLT, Nat.reduceLeDiff, Nat.reduceEqDiff, Nat.reduceBEq, Nat.reduceBNe, Nat.reducePow, Int.reduceEq, Int.reduceNe, Int.reduceLT, Int.reduceLE, Int.reduceGT, Int.reduceGE, Int.reduceAdd, Int.reduceSub, Int.reduceNeg, Int.reduceMul, not_true_eq_false, not_false_eq_true, true_and, and_true, Int.reduceToNat]
  exact ⟨_, rfl, false, .refl _⟩
end Go.Proofs.YtipcmpkihhfhcaaDoor
