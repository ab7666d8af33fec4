import Derived.Test.YtfjjckaiopbbkaaReads
namespace Go.Proofs.Ytfjjckaiopbbkaa
open Go.Abs
set_option maxRecDepth 20000
set_option linter.unusedSimpArgs false
set_option linter.unusedVariables false
set_option maxHeartbeats 1000000
attribute [local irreducible] vc vcOps vcStep vcGuard prK hrK gK gsK brK callK ElemK SeqK BlockK ScopeK OpsK CallK LoopK LoopGo finPost ACall PCall PCallE BCall vqOps vqStep vqGuard qrK heK pcK gqK gqsK QOpsK qcallK DrawK
abbrev exB (e : Ex) : Blk := .cells 25 [.i e.kind, .i e.n, .s e.name, .i e.op, .lst 1 (e.arms.map AV.s) none, .lst 6 (e.subs.map Ex.enc) none]
theorem n42 : (Try.f42.name == "runtime.NumGoroutine") = false := by kernel_rfl
theorem reads42 : ∀ (e : Ex), (readsF e).length ≤ 100000 → PCall Try.prog 42 [e.enc] (.lst 1 ((readsF e).map AV.s) none) := by
  intro e
  induction e using Ex.ind with
  | _ e ih =>
  intro hl
  refine pcall_of_vc tabOK Try.func42 n42 rfl (by repeat' first | exact pure_nil | refine pure_cons ?_ ?_ | exact .raw _ | exact pure_enc _ | exact pure_lst _ | exact pure_strs _ | exact pure_ints _ | exact DTy.pure _ | exact DTy.pures _ | exact DEnum.pure _ | exact DEnum.pures _ | exact DDecl.pure _ | exact DDecl.pures _ | exact DEq.pure _ | exact DEq.pures _ | exact DNode.pure _ | exact DNode.pures _ | exact DProg.pure _ | exact DProg.pures _ | exact DCond.pure _ | exact DCond.pures _ | exact DAtom.pure _ | exact DAtom.pures _ | exact DPlain.pure _ | exact DPlain.pures _ | exact DVar.pure _ | exact DVar.pures _ | exact DFlow.pure _ | exact DFlow.pures _ | exact DFlows.pure _ | exact DFlows.pures _ | exact DAsked.pure _ | exact DAsked.pures _ | exact DFault.pure _ | exact DFault.pures _ | exact DCell.pure _ | exact DCell.pures _ | exact DReply.pure _ | exact DReply.pures _ | exact DAsk.pure _ | exact DAsk.pures _ | exact DOp.pure _ | exact DOp.pures _ | exact pure_list (fun x => DDecl.pures x) _ | exact .fn _ _ _ pure_nil pure_nil | refine .agg _ ?_ | refine .tup _ ?_ | assumption) (by repeat' first | exact pure_nil | refine pure_cons ?_ ?_ | exact .raw _ | exact pure_enc _ | exact pure_lst _ | exact pure_strs _ | exact pure_ints _ | exact DTy.pure _ | exact DTy.pures _ | exact DEnum.pure _ | exact DEnum.pures _ | exact DDecl.pure _ | exact DDecl.pures _ | exact DEq.pure _ | exact DEq.pures _ | exact DNode.pure _ | exact DNode.pures _ | exact DProg.pure _ | exact DProg.pures _ | exact DCond.pure _ | exact DCond.pures _ | exact DAtom.pure _ | exact DAtom.pures _ | exact DPlain.pure _ | exact DPlain.pures _ | exact DVar.pure _ | exact DVar.pures _ | exact DFlow.pure _ | exact DFlow.pures _ | exact DFlows.pure _ | exact DFlows.pures _ | exact DAsked.pure _ | exact DAsked.pures _ | exact DFault.pure _ | exact DFault.pures _ | exact DCell.pure _ | exact DCell.pures _ | exact DReply.pure _ | exact DReply.pures _ | exact DAsk.pure _ | exact DAsk.pures _ | exact DOp.pure _ | exact DOp.pures _ | exact pure_list (fun x => DDecl.pures x) _ | exact .fn _ _ _ pure_nil pure_nil | refine .agg _ ?_ | refine .tup _ ?_ | assumption) (n := 41) rfl (rs := [.tmp 2]) rfl ?_
  rw [readsF_eq] at hl ⊢
  repeat' first | simp only [go_sem, Nat.reduceAdd, Nat.reduceSub, Nat.reduceMul, Nat.reduceLT, Nat.reduceLeDiff, Nat.reduceEqDiff, Nat.reduceBEq, Nat.reduceBNe, Nat.reducePow, Int.reduceEq, Int.reduceNe, Int.reduceLT, Int.reduceLE, Int.reduceGT, Int.reduceGE, Int.reduceAdd, Int.reduceSub, Int.reduceNeg, Int.reduceMul, not_true_eq_false, not_false_eq_true, true_and, and_true, Int.reduceToNat] | (intro _) | refine ⟨by omega, ?_⟩ | refine brK_dec (fun _ => ?_) (fun _ => ?_) | refine gqK_dec (fun _ => ?_) (fun _ => ?_) | refine gK_dec (fun _ => ?_) (fun _ => ?_)
  iterate 3
    · have hk : keepK e.kind e.subs = e.subs := by simp [keepK, *]
      have hm : mineK e.kind e.name = [e.name] := by simp [mineK, *]
      rw [hk, hm] at hl ⊢
      refine loop_fr [3, 6, 31, 32, 33, 34, 35, 36, 37, 38, 39] (fun m C h => ∃ (i : Nat) (b : Blk) (r : List Blk), i ≤ e.subs.length ∧ m = e.subs.length - i ∧
        C = [(31, .raw (.int .i64 (i : Nat))), (3, .lst 1 (([e.name] ++ readsL (e.subs.take i)).map AV.s) (some 2))] ∧
        h = .cells 25 [.i e.kind, .i e.n, .s e.name, .i e.op, .lst 1 (e.arms.map AV.s) none, .lst 6 (e.subs.map Ex.enc) none] :: b :: .tok 9 1 ([e.name] ++ readsL (e.subs.take i)).length :: r)
        (e.subs.length) _ ⟨0, _, _, by omega, rfl, rfl, by simp [readsL]; exact ⟨rfl, rfl⟩⟩ (.cons rfl (.cons (by simp [readsL]) .nil)) ?_
      rintro m C j h ⟨i, b, r, hi, rfl, rfl, rfl⟩
      simp only [go_sem, Nat.reduceAdd, Nat.reduceSub, Nat.reduceMul, Nat.reduceLT, Nat.reduceLeDiff, Nat.reduceEqDiff, Nat.reduceBEq, Nat.reduceBNe, Nat.reducePow, Int.reduceEq, Int.reduceNe, Int.reduceLT, Int.reduceLE, Int.reduceGT, Int.reduceGE, Int.reduceAdd, Int.reduceSub, Int.reduceNeg, Int.reduceMul, not_true_eq_false, not_false_eq_true, true_and, and_true, Int.reduceToNat]
      refine brK_dec (fun hlt => ?_) (fun hge => ?_)
      · have hlt' : i < e.subs.length := by omega
        have h1 := reads_le hlt'
        have h2 := readsL_le (l := e.subs) (k := i + 1)
        have h3 := readsL_take hlt'
        have hl' := hl
        rw [h3] at h2
        simp only [List.length_append, List.length_cons, List.length_nil] at hl' h1 h2
        simp only [go_sem, Nat.reduceAdd, Nat.reduceSub, Nat.reduceMul, Nat.reduceLT, Nat.reduceLeDiff, Nat.reduceEqDiff, Nat.reduceBEq, Nat.reduceBNe, Nat.reducePow, Int.reduceEq, Int.reduceNe, Int.reduceLT, Int.reduceLE, Int.reduceGT, Int.reduceGE, Int.reduceAdd, Int.reduceSub, Int.reduceNeg, Int.reduceMul, not_true_eq_false, not_false_eq_true, true_and, and_true, Int.reduceToNat]
        refine elemK (e.subs[i]).enc (by omega) (map_at _ (List.getElem?_eq_getElem hlt')) ?_
        simp only [go_sem, Nat.reduceAdd, Nat.reduceSub, Nat.reduceMul, Nat.reduceLT, Nat.reduceLeDiff, Nat.reduceEqDiff, Nat.reduceBEq, Nat.reduceBNe, Nat.reducePow, Int.reduceEq, Int.reduceNe, Int.reduceLT, Int.reduceLE, Int.reduceGT, Int.reduceGE, Int.reduceAdd, Int.reduceSub, Int.reduceNeg, Int.reduceMul, not_true_eq_false, not_false_eq_true, true_and, and_true, Int.reduceToNat]
        refine PCall.call (ih e.subs[i] (List.getElem_mem _) (by omega)) ?_
        simp only [go_sem, Nat.reduceAdd, Nat.reduceSub, Nat.reduceMul, Nat.reduceLT, Nat.reduceLeDiff, Nat.reduceEqDiff, Nat.reduceBEq, Nat.reduceBNe, Nat.reducePow, Int.reduceEq, Int.reduceNe, Int.reduceLT, Int.reduceLE, Int.reduceGT, Int.reduceGE, Int.reduceAdd, Int.reduceSub, Int.reduceNeg, Int.reduceMul, not_true_eq_false, not_false_eq_true, true_and, and_true, Int.reduceToNat]
        refine ⟨by omega, ?_⟩
        refine loopFr (e.subs.length - (i + 1)) (by omega) ⟨i + 1, b, r ++ [exB e.subs[i]], by omega, rfl, rfl, ?_⟩ (.next rfl (by omega) (.cons ?_ .nil)) rfl
        · rw [h3]; simp [slot]; try rfl
        · rw [h3]; simp [slot]
      · rw [List.take_of_length_le (by omega)]
        simp only [go_sem, Nat.reduceAdd, Nat.reduceSub, Nat.reduceMul, Nat.reduceLT, Nat.reduceLeDiff, Nat.reduceEqDiff, Nat.reduceBEq, Nat.reduceBNe, Nat.reducePow, Int.reduceEq, Int.reduceNe, Int.reduceLT, Int.reduceLE, Int.reduceGT, Int.reduceGE, Int.reduceAdd, Int.reduceSub, Int.reduceNeg, Int.reduceMul, not_true_eq_false, not_false_eq_true, true_and, and_true, Int.reduceToNat]
        exact ⟨_, rfl, false, .tok _ _ _⟩
  · have hk : keepK e.kind e.subs = [] := by simp [keepK, *]
    have hm : mineK e.kind e.name = [] := by simp [mineK, *]
    rw [hk, hm, readsL]
    refine loop_frH [3, 6, 31, 32, 33, 34, 35, 36, 37, 38, 39] (fun m C => C = [(31, .raw (.int .i64 0)), (3, .raw (.slice none 0 0))]) 0 _ rfl (.cons rfl (.cons rfl .nil)) ?_
    rintro m C j rfl
    simp only [go_sem, Nat.reduceAdd, Nat.reduceSub, Nat.reduceMul, Nat.reduceLT, Nat.reduceLeDiff, Nat.reduceEqDiff, Nat.reduceBEq, Nat.reduceBNe, Nat.reducePow, Int.reduceEq, Int.reduceNe, Int.reduceLT, Int.reduceLE, Int.reduceGT, Int.reduceGE, Int.reduceAdd, Int.reduceSub, Int.reduceNeg, Int.reduceMul, not_true_eq_false, not_false_eq_true, true_and, and_true, Int.reduceToNat]
    exact ⟨_, rfl, false, .nil _⟩
  · have hmem : ∀ x, x ∈ List.take (if (e.subs.length : Int) < 1 then (e.subs.length : Int) else 1).toNat e.subs → x ∈ e.subs := fun x hx => List.mem_of_mem_take hx
    have hk : keepK e.kind e.subs = List.take (if (e.subs.length : Int) < 1 then (e.subs.length : Int) else 1).toNat e.subs := by
      by_cases h : (e.subs.length : Int) < 1
      · have : e.subs = [] := List.length_eq_zero_iff.1 (by omega)
        simp [keepK, *]
      · simp [keepK, h, *]
    generalize List.take (if (e.subs.length : Int) < 1 then (e.subs.length : Int) else 1).toNat e.subs = S at *
    have hm : mineK e.kind e.name = [] := by simp [mineK, *]
    rw [hk, hm, List.nil_append] at hl ⊢
    refine loop_ghost (ghost_own 3 9 1 rfl) ?_
    simp only [go_sem, Nat.reduceAdd, Nat.reduceSub, Nat.reduceMul, Nat.reduceLT, Nat.reduceLeDiff, Nat.reduceEqDiff, Nat.reduceBEq, Nat.reduceBNe, Nat.reducePow, Int.reduceEq, Int.reduceNe, Int.reduceLT, Int.reduceLE, Int.reduceGT, Int.reduceGE, Int.reduceAdd, Int.reduceSub, Int.reduceNeg, Int.reduceMul, not_true_eq_false, not_false_eq_true, true_and, and_true, Int.reduceToNat]
    refine loop_fr [3, 6, 31, 32, 33, 34, 35, 36, 37, 38, 39] (fun m C h => ∃ (i : Nat) (r : List Blk), i ≤ S.length ∧ m = S.length - i ∧
      C = [(31, .raw (.int .i64 (i : Nat))), (3, .own 1 1 ((readsL (S.take i)).map AV.s).length)] ∧ h = exB e :: .own 9 1 ((readsL (S.take i)).map AV.s) :: r)
      S.length _ ⟨0, [], by omega, rfl, rfl, rfl⟩ (.cons rfl (.cons rfl .nil)) ?_
    rintro m C j h ⟨i, r, hi, rfl, rfl, rfl⟩
    simp only [go_sem, Nat.reduceAdd, Nat.reduceSub, Nat.reduceMul, Nat.reduceLT, Nat.reduceLeDiff, Nat.reduceEqDiff, Nat.reduceBEq, Nat.reduceBNe, Nat.reducePow, Int.reduceEq, Int.reduceNe, Int.reduceLT, Int.reduceLE, Int.reduceGT, Int.reduceGE, Int.reduceAdd, Int.reduceSub, Int.reduceNeg, Int.reduceMul, not_true_eq_false, not_false_eq_true, true_and, and_true, Int.reduceToNat]
    refine brK_dec (fun hlt => ?_) (fun hge => ?_)
    · have hlt' : i < S.length := by omega
      have h1 := reads_le hlt'
      have h2 := readsL_le (l := S) (k := i + 1)
      have h3 := readsL_take hlt'
      rw [h3] at h2
      simp only [List.length_append] at h1 h2
      simp only [go_sem, Nat.reduceAdd, Nat.reduceSub, Nat.reduceMul, Nat.reduceLT, Nat.reduceLeDiff, Nat.reduceEqDiff, Nat.reduceBEq, Nat.reduceBNe, Nat.reducePow, Int.reduceEq, Int.reduceNe, Int.reduceLT, Int.reduceLE, Int.reduceGT, Int.reduceGE, Int.reduceAdd, Int.reduceSub, Int.reduceNeg, Int.reduceMul, not_true_eq_false, not_false_eq_true, true_and, and_true, Int.reduceToNat]
      refine elemK (S[i]).enc (by omega) (map_at _ (List.getElem?_eq_getElem hlt')) ?_
      simp only [go_sem, Nat.reduceAdd, Nat.reduceSub, Nat.reduceMul, Nat.reduceLT, Nat.reduceLeDiff, Nat.reduceEqDiff, Nat.reduceBEq, Nat.reduceBNe, Nat.reducePow, Int.reduceEq, Int.reduceNe, Int.reduceLT, Int.reduceLE, Int.reduceGT, Int.reduceGE, Int.reduceAdd, Int.reduceSub, Int.reduceNeg, Int.reduceMul, not_true_eq_false, not_false_eq_true, true_and, and_true, Int.reduceToNat]
      refine PCall.call (ih S[i] (hmem _ (List.getElem_mem _)) (by omega)) ?_
      simp only [go_sem, Nat.reduceAdd, Nat.reduceSub, Nat.reduceMul, Nat.reduceLT, Nat.reduceLeDiff, Nat.reduceEqDiff, Nat.reduceBEq, Nat.reduceBNe, Nat.reducePow, Int.reduceEq, Int.reduceNe, Int.reduceLT, Int.reduceLE, Int.reduceGT, Int.reduceGE, Int.reduceAdd, Int.reduceSub, Int.reduceNeg, Int.reduceMul, not_true_eq_false, not_false_eq_true, true_and, and_true, Int.reduceToNat]
      refine ⟨by first | omega | (simp; omega), ?_⟩
      refine loopFr (S.length - (i + 1)) (by omega) ⟨i + 1, r ++ [exB S[i]], by omega, rfl, rfl, ?_⟩ (.next rfl (by omega) (.cons ?_ .nil)) rfl
      · rw [h3]; simp; try rfl
      · rw [h3]; simp [slot]; try omega
    · rw [List.take_of_length_le (by omega)]
      simp only [go_sem, Nat.reduceAdd, Nat.reduceSub, Nat.reduceMul, Nat.reduceLT, Nat.reduceLeDiff, Nat.reduceEqDiff, Nat.reduceBEq, Nat.reduceBNe, Nat.reducePow, Int.reduceEq, Int.reduceNe, Int.reduceLT, Int.reduceLE, Int.reduceGT, Int.reduceGE, Int.reduceAdd, Int.reduceSub, Int.reduceNeg, Int.reduceMul, not_true_eq_false, not_false_eq_true, true_and, and_true, Int.reduceToNat]
      refine ⟨_, rfl, true, ?_⟩
      have hz : ∀ R : List Blk, frz (exB e :: .own 9 1 ((readsL S).map AV.s) :: R) (.own 1 1 (readsL S).length) = .lst 1 ((readsL S).map AV.s) none := by
        intro R
        simp [frz]
      show Weak (frz (exB e :: .own 9 1 ((readsL S).map AV.s) :: r) (.own 1 1 (readsL S).length)) _
      rw [hz]
      exact .refl _
  · have hmem : ∀ x, x ∈ e.subs → x ∈ e.subs := fun x hx => hx
    have hk : keepK e.kind e.subs = e.subs := by simp [keepK, *]
    have hm : mineK e.kind e.name = [] := by simp [mineK, *]
    rw [hk, hm, List.nil_append] at hl ⊢
    refine loop_ghost (ghost_own 3 9 1 rfl) ?_
    simp only [go_sem, Nat.reduceAdd, Nat.reduceSub, Nat.reduceMul, Nat.reduceLT, Nat.reduceLeDiff, Nat.reduceEqDiff, Nat.reduceBEq, Nat.reduceBNe, Nat.reducePow, Int.reduceEq, Int.reduceNe, Int.reduceLT, Int.reduceLE, Int.reduceGT, Int.reduceGE, Int.reduceAdd, Int.reduceSub, Int.reduceNeg, Int.reduceMul, not_true_eq_false, not_false_eq_true, true_and, and_true, Int.reduceToNat]
    refine loop_fr [3, 6, 31, 32, 33, 34, 35, 36, 37, 38, 39] (fun m C h => ∃ (i : Nat) (r : List Blk), i ≤ e.subs.length ∧ m = e.subs.length - i ∧
      C = [(31, .raw (.int .i64 (i : Nat))), (3, .own 1 1 ((readsL (e.subs.take i)).map AV.s).length)] ∧ h = exB e :: .own 9 1 ((readsL (e.subs.take i)).map AV.s) :: r)
      e.subs.length _ ⟨0, [], by omega, rfl, rfl, rfl⟩ (.cons rfl (.cons rfl .nil)) ?_
    rintro m C j h ⟨i, r, hi, rfl, rfl, rfl⟩
    simp only [go_sem, Nat.reduceAdd, Nat.reduceSub, Nat.reduceMul, Nat.reduceLT, Nat.reduceLeDiff, Nat.reduceEqDiff, Nat.reduceBEq, Nat.reduceBNe, Nat.reducePow, Int.reduceEq, Int.reduceNe, Int.reduceLT, Int.reduceLE, Int.reduceGT, Int.reduceGE, Int.reduceAdd, Int.reduceSub, Int.reduceNeg, Int.reduceMul, not_true_eq_false, not_false_eq_true, true_and, and_true, Int.reduceToNat]
    refine brK_dec (fun hlt => ?_) (fun hge => ?_)
    · have hlt' : i < e.subs.length := by omega
      have h1 := reads_le hlt'
      have h2 := readsL_le (l := e.subs) (k := i + 1)
      have h3 := readsL_take hlt'
      rw [h3] at h2
      simp only [List.length_append] at h1 h2
      simp only [go_sem, Nat.reduceAdd, Nat.reduceSub, Nat.reduceMul, Nat.reduceLT, Nat.reduceLeDiff, Nat.reduceEqDiff, Nat.reduceBEq, Nat.reduceBNe, Nat.reducePow, Int.reduceEq, Int.reduceNe, Int.reduceLT, Int.reduceLE, Int.reduceGT, Int.reduceGE, Int.reduceAdd, Int.reduceSub, Int.reduceNeg, Int.reduceMul, not_true_eq_false, not_false_eq_true, true_and, and_true, Int.reduceToNat]
      refine elemK (e.subs[i]).enc (by omega) (map_at _ (List.getElem?_eq_getElem hlt')) ?_
      simp only [go_sem, Nat.reduceAdd, Nat.reduceSub, Nat.reduceMul, Nat.reduceLT, Nat.reduceLeDiff, Nat.reduceEqDiff, Nat.reduceBEq, Nat.reduceBNe, Nat.reducePow, Int.reduceEq, Int.reduceNe, Int.reduceLT, Int.reduceLE, Int.reduceGT, Int.reduceGE, Int.reduceAdd, Int.reduceSub, Int.reduceNeg, Int.reduceMul, not_true_eq_false, not_false_eq_true, true_and, and_true, Int.reduceToNat]
      refine PCall.call (ih e.subs[i] (hmem _ (List.getElem_mem _)) (by omega)) ?_
      simp only [go_sem, Nat.reduceAdd, Nat.reduceSub, Nat.reduceMul, Nat.reduceLT, Nat.reduceLeDiff, Nat.reduceEqDiff, Nat.reduceBEq, Nat.reduceBNe, Nat.reducePow, Int.reduceEq, Int.reduceNe, Int.reduceLT, Int.reduceLE, Int.reduceGT, Int.reduceGE, Int.reduceAdd, Int.reduceSub, Int.reduceNeg, Int.reduceMul, not_true_eq_false, not_false_eq_true, true_and, and_true, Int.reduceToNat]
      refine ⟨by first | omega | (simp; omega), ?_⟩
      refine loopFr (e.subs.length - (i + 1)) (by omega) ⟨i + 1, r ++ [exB e.subs[i]], by omega, rfl, rfl, ?_⟩ (.next rfl (by omega) (.cons ?_ .nil)) rfl
      · rw [h3]; simp; try rfl
      · rw [h3]; simp [slot]; try omega
    · rw [List.take_of_length_le (by omega)]
      simp only [go_sem, Nat.reduceAdd, Nat.reduceSub, Nat.reduceMul, Nat.reduceLT, Nat.reduceLeDiff, Nat.reduceEqDiff, Nat.reduceBEq, Nat.reduceBNe, Nat.reducePow, Int.reduceEq, Int.reduceNe, Int.reduceLT, Int.reduceLE, Int.reduceGT, Int.reduceGE, Int.reduceAdd, Int.reduceSub, Int.reduceNeg, Int.reduceMul, not_true_eq_false, not_false_eq_true, true_and, and_true, Int.reduceToNat]
      refine ⟨_, rfl, true, ?_⟩
      have hz : ∀ R : List Blk, frz (exB e :: .own 9 1 ((readsL e.subs).map AV.s) :: R) (.own 1 1 (readsL e.subs).length) = .lst 1 ((readsL e.subs).map AV.s) none := by
        intro R
        simp [frz]
      show Weak (frz (exB e :: .own 9 1 ((readsL e.subs).map AV.s) :: r) (.own 1 1 (readsL e.subs).length)) _
      rw [hz]
      exact .refl _
end Go.Proofs.Ytfjjckaiopbbkaa
