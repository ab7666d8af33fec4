import Derived.Test.YtipcmpkihhfhcaaIdent
namespace Go.Proofs.Ytipcmpkihhfhcaa
open Go.Abs
set_option maxRecDepth 20000
set_option linter.unusedSimpArgs false
set_option linter.unusedVariables false
set_option maxHeartbeats 1000000
attribute [local irreducible] vc vcOps vcStep vcGuard prK hrK gK gsK brK callK ElemK SeqK BlockK ScopeK OpsK CallK LoopK LoopGo finPost ACall PCall PCallE BCall vqOps vqStep vqGuard qrK heK pcK gqK gqsK QOpsK qcallK DrawK

theorem n56 : (Try.f56.name == "runtime.NumGoroutine") = false := by kernel_rfl
theorem words_e : PCallE Try.prog 56 [] (fun r => ∃ l : List ByteArray, r = .lst 1 (l.map AV.s) none) := by
  refine pcallE_of_vc tabOK Try.func56 n56 rfl pure_nil (n := 2) rfl (rs := [.tmp 0]) rfl ?_
  simp only [go_sem, Nat.reduceAdd, Nat.reduceSub, Nat.reduceMul, Nat.reduceLT, Nat.reduceLeDiff, Nat.reduceEqDiff, Nat.reduceBEq, Nat.reduceBNe, Nat.reducePow, Int.reduceEq, Int.reduceNe, Int.reduceLT, Int.reduceLE, Int.reduceGT, Int.reduceGE, Int.reduceAdd, Int.reduceSub, Int.reduceNeg, Int.reduceMul, not_true_eq_false, not_false_eq_true, true_and, and_true, Int.reduceToNat]
  refine ⟨_, rfl, false, _, .tok _ _ _, ?_⟩
  exact finStrs rfl

theorem n45 : (Try.f45.name == "runtime.NumGoroutine") = false := by kernel_rfl
theorem word_b (t : ByteArray) : BCall Try.prog 45 [.s t] := by
  refine bcall_of_vc tabOK Try.func45 n45 rfl (by repeat' first | exact pure_nil | refine pure_cons ?_ ?_ | exact .raw _ | exact pure_enc _ | exact pure_lst _ | exact pure_strs _ | exact pure_ints _ | exact DTy.pure _ | exact DTy.pures _ | exact DEnum.pure _ | exact DEnum.pures _ | exact DDecl.pure _ | exact DDecl.pures _ | exact DEq.pure _ | exact DEq.pures _ | exact DNode.pure _ | exact DNode.pures _ | exact DProg.pure _ | exact DProg.pures _ | exact DCond.pure _ | exact DCond.pures _ | exact DAtom.pure _ | exact DAtom.pures _ | exact DPlain.pure _ | exact DPlain.pures _ | exact DVar.pure _ | exact DVar.pures _ | exact DFlow.pure _ | exact DFlow.pures _ | exact DFlows.pure _ | exact DFlows.pures _ | exact DAsked.pure _ | exact DAsked.pures _ | exact DFault.pure _ | exact DFault.pures _ | exact DCell.pure _ | exact DCell.pures _ | exact DReply.pure _ | exact DReply.pures _ | exact DAsk.pure _ | exact DAsk.pures _ | exact DOp.pure _ | exact DOp.pures _ | exact pure_list (fun x => DDecl.pures x) _ | exact .fn _ _ _ pure_nil pure_nil | refine .agg _ ?_ | refine .tup _ ?_ | assumption) (n := 18) rfl (rs := [.tmp 2]) rfl ?_
  repeat' first
    | exact finB rfl
    | exact finI rfl
    | exact finP rfl
    | exact absurd rfl (by assumption)
    | simp only [go_sem, Nat.reduceAdd, Nat.reduceSub, Nat.reduceMul, Nat.reduceLT, Nat.reduceLeDiff, Nat.reduceEqDiff, Nat.reduceBEq, Nat.reduceBNe, Nat.reducePow, Int.reduceEq, Int.reduceNe, Int.reduceLT, Int.reduceLE, Int.reduceGT, Int.reduceGE, Int.reduceAdd, Int.reduceSub, Int.reduceNeg, Int.reduceMul, not_true_eq_false, not_false_eq_true, true_and, and_true, Int.reduceToNat]
    | (intro _)
    | refine brK_dec (fun _ => ?_) (fun _ => ?_)
    | refine brK_any ?_ ?_
    | refine gK_dec (fun _ => ?_) (fun _ => ?_)
    | refine gK_any ?_ ?_
    | refine gqK_dec (fun _ => ?_) (fun _ => ?_)
    | refine ⟨by omega, ?_⟩
    | refine elemHave (by omega) (by assumption) ?_
    | refine elemMap (by omega) (by omega) (fun x hx => ?_)
    | refine drawK mo (by kernel_rfl) ?_
    | (refine PCallE.call words_e (fun r hr => ?_); obtain ⟨l, rfl⟩ := hr)
    | exact loopGo _ (by omega) ⟨i + 1, by omega, rfl, (.next rfl (by omega) (.cons rfl (.cons rfl (.nil rfl)))), rfl⟩
    | (refine loop_rule (fun n s h => ∃ (i : Nat), i ≤ l.length ∧ n = l.length - i ∧ Vis 18 [(4, .i i), (0, .s t), (3, .lst 1 (l.map AV.s) none)] s ∧ h = []) (l.length) ⟨0, by omega, by omega, (.cons rfl (.cons rfl (.cons rfl (.nil rfl)))), rfl⟩ ?_; rintro n s h ⟨i, hi, rfl, hvi, rfl⟩; obtain ⟨ji, rfl⟩ := hvi.out)

theorem n29 : (Try.f29.name == "runtime.NumGoroutine") = false := by kernel_rfl
theorem low_b (t : ByteArray) (ht : t.size < 4611686018427387904) : BCall Try.prog 29 [.s t] := by
  refine bcall_of_vc tabOK Try.func29 n29 rfl (by repeat' first | exact pure_nil | refine pure_cons ?_ ?_ | exact .raw _ | exact pure_enc _ | exact pure_lst _ | exact pure_strs _ | exact pure_ints _ | exact DTy.pure _ | exact DTy.pures _ | exact DEnum.pure _ | exact DEnum.pures _ | exact DDecl.pure _ | exact DDecl.pures _ | exact DEq.pure _ | exact DEq.pures _ | exact DNode.pure _ | exact DNode.pures _ | exact DProg.pure _ | exact DProg.pures _ | exact DCond.pure _ | exact DCond.pures _ | exact DAtom.pure _ | exact DAtom.pures _ | exact DPlain.pure _ | exact DPlain.pures _ | exact DVar.pure _ | exact DVar.pures _ | exact DFlow.pure _ | exact DFlow.pures _ | exact DFlows.pure _ | exact DFlows.pures _ | exact DAsked.pure _ | exact DAsked.pures _ | exact DFault.pure _ | exact DFault.pures _ | exact DCell.pure _ | exact DCell.pures _ | exact DReply.pure _ | exact DReply.pures _ | exact DAsk.pure _ | exact DAsk.pures _ | exact DOp.pure _ | exact DOp.pures _ | exact pure_list (fun x => DDecl.pures x) _ | exact .fn _ _ _ pure_nil pure_nil | refine .agg _ ?_ | refine .tup _ ?_ | assumption) (n := 10) rfl (rs := [.tmp 2]) rfl ?_
  repeat' first
    | exact finB rfl
    | exact finI rfl
    | exact finP rfl
    | exact absurd rfl (by assumption)
    | simp only [go_sem, Nat.reduceAdd, Nat.reduceSub, Nat.reduceMul, Nat.reduceLT, Nat.reduceLeDiff, Nat.reduceEqDiff, Nat.reduceBEq, Nat.reduceBNe, Nat.reducePow, Int.reduceEq, Int.reduceNe, Int.reduceLT, Int.reduceLE, Int.reduceGT, Int.reduceGE, Int.reduceAdd, Int.reduceSub, Int.reduceNeg, Int.reduceMul, not_true_eq_false, not_false_eq_true, true_and, and_true, Int.reduceToNat]
    | (intro _)
    | refine brK_dec (fun _ => ?_) (fun _ => ?_)
    | refine brK_any ?_ ?_
    | refine gK_dec (fun _ => ?_) (fun _ => ?_)
    | refine gK_any ?_ ?_
    | refine gqK_dec (fun _ => ?_) (fun _ => ?_)
    | refine ⟨by omega, ?_⟩
    | refine elemHave (by omega) (by assumption) ?_
    | refine elemMap (by omega) (by omega) (fun x hx => ?_)
    | refine drawK mo (by kernel_rfl) ?_
    | refine BCall.call (name_b _ ht _ _) (fun _ => ?_)
    | refine BCall.call (word_b _) (fun _ => ?_)

theorem n57 : (Try.f57.name == "runtime.NumGoroutine") = false := by kernel_rfl
theorem cut_e (t : ByteArray) (c : Int) (ht : t.size ≤ 1000000) : PCallE Try.prog 57 [.s t, .raw (.int .u8 c)] (fun r => ∃ l : List ByteArray, r = .lst 1 (l.map AV.s) none ∧ l ≠ [] ∧ ∀ x ∈ l, x.size ≤ t.size) := by
  refine pcallE_of_vc tabOK Try.func57 n57 rfl (pure_cons (.raw _) (pure_cons (.raw _) pure_nil)) (n := 36) rfl (rs := [.tmp 4]) rfl ?_
  simp only [go_sem, Nat.reduceAdd, Nat.reduceSub, Nat.reduceMul, Nat.reduceLT, Nat.reduceLeDiff, Nat.reduceEqDiff, Nat.reduceBEq, Nat.reduceBNe, Nat.reducePow, Int.reduceEq, Int.reduceNe, Int.reduceLT, Int.reduceLE, Int.reduceGT, Int.reduceGE, Int.reduceAdd, Int.reduceSub, Int.reduceNeg, Int.reduceMul, not_true_eq_false, not_false_eq_true, true_and, and_true, Int.reduceToNat]
  refine loop_rule (fun n s h => ∃ (i fr : Nat) (l : List ByteArray) (rest : List Blk), i ≤ t.size + 1 ∧ fr ≤ i ∧ l.length ≤ i ∧ n = t.size + 1 - i ∧ (i = t.size + 1 → l ≠ []) ∧ (∀ x ∈ l, x.size ≤ t.size) ∧
    Vis 36 [(7, .i i), (0, .s t), (1, .raw (.int .u8 c)), (5, .lst 1 (l.map AV.s) (some 0)), (6, .i fr)] s ∧ h = .tok 9 1 l.length :: rest) (t.size + 1) ?_ ?_
  · exact ⟨0, 0, [], [], by omega, by omega, by simp, by omega, by omega, by simp, .cons rfl (.cons rfl (.cons rfl (.cons rfl (.cons rfl (.nil rfl))))), rfl⟩
  rintro n s h ⟨i, fr, l, rest, hi, hfr, hl, rfl, hne, hsz, hv, rfl⟩
  obtain ⟨j, rfl⟩ := hv.out
  repeat' first
    | exact finB rfl
    | exact finI rfl
    | exact finP rfl
    | exact absurd rfl (by assumption)
    | simp only [go_sem, Nat.reduceAdd, Nat.reduceSub, Nat.reduceMul, Nat.reduceLT, Nat.reduceLeDiff, Nat.reduceEqDiff, Nat.reduceBEq, Nat.reduceBNe, Nat.reducePow, Int.reduceEq, Int.reduceNe, Int.reduceLT, Int.reduceLE, Int.reduceGT, Int.reduceGE, Int.reduceAdd, Int.reduceSub, Int.reduceNeg, Int.reduceMul, not_true_eq_false, not_false_eq_true, true_and, and_true, Int.reduceToNat]
    | (intro _)
    | refine brK_dec (fun _ => ?_) (fun _ => ?_)
    | refine brK_any ?_ ?_
    | refine gK_dec (fun _ => ?_) (fun _ => ?_)
    | refine gK_any ?_ ?_
    | refine gqK_dec (fun _ => ?_) (fun _ => ?_)
    | refine ⟨by omega, ?_⟩
    | refine elemHave (by omega) (by assumption) ?_
    | refine elemMap (by omega) (by omega) (fun x hx => ?_)
    | refine drawK mo (by kernel_rfl) ?_
  · exact loopGo (t.size + 1 - (i + 1)) (by omega) ⟨i + 1, i + 1, l ++ [t.extract (fr : Int).toNat (i : Int).toNat], rest ++ [.tok 9 1 1], by omega, by omega, by simp; omega, rfl, by simp, by
      intro x hx
      rcases List.mem_append.1 hx with hx | hx
      · exact hsz x hx
      · cases List.mem_singleton.1 hx
        rw [ByteArray.size_extract]; omega,
      .next rfl (by omega) (.cons rfl (.cons rfl (.cons (by rw [List.map_append]; rfl) (.next rfl (by omega) (.nil rfl))))), by simp⟩
  · exact loopGo (t.size + 1 - (i + 1)) (by omega) ⟨i + 1, i + 1, l ++ [t.extract (fr : Int).toNat (i : Int).toNat], rest ++ [.tok 9 1 1], by omega, by omega, by simp; omega, rfl, by simp, by
      intro x hx
      rcases List.mem_append.1 hx with hx | hx
      · exact hsz x hx
      · cases List.mem_singleton.1 hx
        rw [ByteArray.size_extract]; omega,
      .next rfl (by omega) (.cons rfl (.cons rfl (.cons (by rw [List.map_append]; rfl) (.next rfl (by omega) (.nil rfl))))), by simp⟩
  · exact loopGo (t.size + 1 - (i + 1)) (by omega) ⟨i + 1, fr, l, rest, by omega, by omega, by omega, rfl, fun e => absurd e (by omega), hsz,
      .next rfl (by omega) (.cons rfl (.cons rfl (.cons rfl (.cons rfl (.nil rfl))))), rfl⟩
  · exact ⟨_, rfl, false, _, .tok _ _ _, pure_strs l, l, rfl, hne (by omega), hsz⟩

theorem n48 : (Try.f48.name == "runtime.NumGoroutine") = false := by kernel_rfl
theorem path_b (t : ByteArray) (ht : t.size ≤ 1000000) : BCall Try.prog 48 [.s t] := by
  refine bcall_of_vc tabOK Try.func48 n48 rfl (by repeat' first | exact pure_nil | refine pure_cons ?_ ?_ | exact .raw _ | exact pure_enc _ | exact pure_lst _ | exact pure_strs _ | exact pure_ints _ | exact DTy.pure _ | exact DTy.pures _ | exact DEnum.pure _ | exact DEnum.pures _ | exact DDecl.pure _ | exact DDecl.pures _ | exact DEq.pure _ | exact DEq.pures _ | exact DNode.pure _ | exact DNode.pures _ | exact DProg.pure _ | exact DProg.pures _ | exact DCond.pure _ | exact DCond.pures _ | exact DAtom.pure _ | exact DAtom.pures _ | exact DPlain.pure _ | exact DPlain.pures _ | exact DVar.pure _ | exact DVar.pures _ | exact DFlow.pure _ | exact DFlow.pures _ | exact DFlows.pure _ | exact DFlows.pures _ | exact DAsked.pure _ | exact DAsked.pures _ | exact DFault.pure _ | exact DFault.pures _ | exact DCell.pure _ | exact DCell.pures _ | exact DReply.pure _ | exact DReply.pures _ | exact DAsk.pure _ | exact DAsk.pures _ | exact DOp.pure _ | exact DOp.pures _ | exact pure_list (fun x => DDecl.pures x) _ | exact .fn _ _ _ pure_nil pure_nil | refine .agg _ ?_ | refine .tup _ ?_ | assumption) (n := 61) rfl (rs := [.tmp 2]) rfl ?_
  repeat' first
    | exact finB rfl
    | exact finI rfl
    | exact finP rfl
    | exact absurd rfl (by assumption)
    | simp only [go_sem, Nat.reduceAdd, Nat.reduceSub, Nat.reduceMul, Nat.reduceLT, Nat.reduceLeDiff, Nat.reduceEqDiff, Nat.reduceBEq, Nat.reduceBNe, Nat.reducePow, Int.reduceEq, Int.reduceNe, Int.reduceLT, Int.reduceLE, Int.reduceGT, Int.reduceGE, Int.reduceAdd, Int.reduceSub, Int.reduceNeg, Int.reduceMul, not_true_eq_false, not_false_eq_true, true_and, and_true, Int.reduceToNat]
    | (intro _)
    | refine brK_dec (fun _ => ?_) (fun _ => ?_)
    | refine brK_any ?_ ?_
    | refine gK_dec (fun _ => ?_) (fun _ => ?_)
    | refine gK_any ?_ ?_
    | refine gqK_dec (fun _ => ?_) (fun _ => ?_)
    | refine ⟨by omega, ?_⟩
    | refine elemHave (by omega) (by assumption) ?_
    | refine elemMap (by omega) (by omega) (fun x hx => ?_)
    | refine drawK mo (by kernel_rfl) ?_
    | (refine PCallE.call (cut_e t 47 ht) (fun r hr => ?_); obtain ⟨l, rfl, hne, hsz⟩ := hr)
    | refine BCall.call (low_b _ (by omega)) (fun _ => ?_)
    | refine BCall.call (in_b _ _ _) (fun _ => ?_)
    | exact loopGo _ (by omega) ⟨i + 1, by omega, rfl, (.next rfl (by omega) (.cons rfl (.nil rfl))), rfl⟩
    | (refine loop_rule (fun n s h => ∃ (i : Nat), i ≤ l.length ∧ n = l.length - i ∧ Vis 61 [(4, .i i), (3, .lst 1 (l.map AV.s) none)] s ∧ h = []) (l.length) ⟨0, by omega, by omega, (.cons rfl (.cons rfl (.nil rfl))), rfl⟩ ?_; rintro n s h ⟨i, hi, rfl, hvi, rfl⟩; obtain ⟨ji, rfl⟩ := hvi.out)
    | (have hx' := hsz _ (List.mem_of_getElem? hx); refine PCallE.call (cut_e _ 46 (by omega)) (fun r hr => ?_); obtain ⟨p, rfl, hpe, hpz⟩ := hr; have hp0 : 0 < p.length := List.length_pos_iff.2 hpe)
    | (have hx'' := hpz _ (List.mem_of_getElem? hx); refine BCall.call (low_b _ (by omega)) (fun _ => ?_))
    | exact loopGo _ (by omega) ⟨k + 1, by omega, rfl, (.next rfl (by omega) (.cons rfl (.cons rfl (.cons rfl (.nil rfl))))), rfl⟩
    | (refine loop_rule (fun n s h => ∃ (k : Nat), k ≤ x.size ∧ n = x.size - k ∧ Vis 61 [(7, .i k), (3, .lst 1 (l.map AV.s) none), (4, .i i), (6, .s x)] s ∧ h = []) (x.size) ⟨0, by omega, by omega, (.cons rfl (.cons rfl (.cons rfl (.cons rfl (.nil rfl))))), rfl⟩ ?_; rintro n s h ⟨k, hk, rfl, hvk, rfl⟩; obtain ⟨jk, rfl⟩ := hvk.out)
end Go.Proofs.Ytipcmpkihhfhcaa
