import Derived.Test.YtfjjckaiopbbkaaStart
namespace Go.Proofs.Ytfjjckaiopbbkaa
open Go.Abs
set_option maxRecDepth 20000
set_option linter.unusedSimpArgs false
set_option linter.unusedVariables false
set_option maxHeartbeats 4000000
attribute [local irreducible] vc vcOps vcStep vcGuard prK hrK gK gsK brK callK ElemK SeqK BlockK ScopeK OpsK CallK LoopK LoopGo finPost ACall PCall PCallE BCall vqOps vqStep vqGuard qrK heK pcK gqK gqsK QOpsK qcallK DrawK
abbrev exA : Ex := .mk 10 0 ⟨#[]⟩ 0 [] [.mk 3 0 ⟨#[97]⟩ 0 [] []]
abbrev exB : Ex := .mk 9 0 ⟨#[]⟩ 0 [] [.mk 1 0 ⟨#[]⟩ 0 [] [], exA]
theorem ltA : lt exA = (true, true) := by simp [lt, ltL, ltH, ltK]
theorem ltB : lt exB = (false, true) := by simp [lt, ltL, ltH, ltK]
theorem weakA (t : Option Nat) : Weak (.agg [.i 10, .i 0, .s ⟨#[]⟩, .i 0, .raw (.slice none 0 0), .lst 6 [.agg [.i 3, .i 0, .s ⟨#[97]⟩, .i 0, .raw (.slice none 0 0), .raw (.slice none 0 0)]] t]) exA.enc := by
  repeat' first | exact trivial | exact .nil _ | exact .refl _ | exact .tok _ _ _ | refine ⟨?_, ?_⟩ | refine weak_ex ?_ ?_ | refine weak_subs rfl ?_ | simp only [flat_nil, flat_agg, flat_ex, flat_ex0, enc_cells, List.cons_append, List.nil_append, Ex.kind, Ex.n, Ex.name, Ex.op, Ex.arms, Ex.subs]
theorem weakB (t u : Option Nat) : Weak (.agg [.i 9, .i 0, .s ⟨#[]⟩, .i 0, .raw (.slice none 0 0), .lst 6 [.agg [.i 1, .i 0, .s ⟨#[]⟩, .i 0, .raw (.slice none 0 0), .raw (.slice none 0 0)], 
    .agg [.i 10, .i 0, .s ⟨#[]⟩, .i 0, .raw (.slice none 0 0), .lst 6 [.agg [.i 3, .i 0, .s ⟨#[97]⟩, .i 0, .raw (.slice none 0 0), .raw (.slice none 0 0)]] t]] u]) exB.enc := by
  repeat' first | exact trivial | exact .nil _ | exact .refl _ | exact .tok _ _ _ | refine ⟨?_, ?_⟩ | refine weak_ex ?_ ?_ | refine weak_subs rfl ?_ | simp only [flat_nil, flat_agg, flat_ex, flat_ex0, enc_cells, List.cons_append, List.nil_append, Ex.kind, Ex.n, Ex.name, Ex.op, Ex.arms, Ex.subs]

theorem n15 : (Try.f15.name == "runtime.NumGoroutine") = false := by kernel_rfl
theorem live15  : PCall Try.prog 15 [] (.b true) := by
  refine pcall_of_vc tabOK Try.func15 n15 rfl (by repeat' first | exact pure_nil | refine pure_cons ?_ ?_ | exact pure_enc _ | exact pure_lst _ | exact pure_strs _ | exact .raw _ | exact .fn _ _ _ pure_nil pure_nil | refine .agg _ ?_ | refine .tup _ ?_ | assumption) (by repeat' first | exact pure_nil | refine pure_cons ?_ ?_ | exact pure_enc _ | exact pure_lst _ | exact pure_strs _ | exact .raw _ | exact .fn _ _ _ pure_nil pure_nil | refine .agg _ ?_ | refine .tup _ ?_ | assumption) (n := 33) rfl (rs := [.tmp 0]) rfl ?_
  simp only [go_sem, Nat.reduceAdd, Nat.reduceSub, Nat.reduceMul, Nat.reduceLT, Nat.reduceLeDiff, Nat.reduceEqDiff, Nat.reduceBEq, Nat.reduceBNe, Nat.reducePow, Int.reduceEq, Int.reduceNe, Int.reduceLT, Int.reduceLE, Int.reduceGT, Int.reduceGE, Int.reduceAdd, Int.reduceSub, Int.reduceNeg, Int.reduceMul, not_true_eq_false, not_false_eq_true, true_and, and_true, Int.reduceToNat]
  refine PCall.callW (late16 exA) ⟨weakA _, trivial⟩ ?_
  rw [ltA]
  simp only [go_sem, Nat.reduceAdd, Nat.reduceSub, Nat.reduceMul, Nat.reduceLT, Nat.reduceLeDiff, Nat.reduceEqDiff, Nat.reduceBEq, Nat.reduceBNe, Nat.reducePow, Int.reduceEq, Int.reduceNe, Int.reduceLT, Int.reduceLE, Int.reduceGT, Int.reduceGE, Int.reduceAdd, Int.reduceSub, Int.reduceNeg, Int.reduceMul, not_true_eq_false, not_false_eq_true, true_and, and_true, Int.reduceToNat]
  refine PCall.callW (late16 exB) ⟨weakB _ _, trivial⟩ ?_
  rw [ltB]
  simp only [go_sem, Nat.reduceAdd, Nat.reduceSub, Nat.reduceMul, Nat.reduceLT, Nat.reduceLeDiff, Nat.reduceEqDiff, Nat.reduceBEq, Nat.reduceBNe, Nat.reducePow, Int.reduceEq, Int.reduceNe, Int.reduceLT, Int.reduceLE, Int.reduceGT, Int.reduceGE, Int.reduceAdd, Int.reduceSub, Int.reduceNeg, Int.reduceMul, not_true_eq_false, not_false_eq_true, true_and, and_true, Int.reduceToNat]
  exact finP rfl

theorem n3 : (Try.f3.name == "runtime.NumGoroutine") = false := by kernel_rfl
theorem law3 (e : Ex) : PCall Try.prog 3 [e.enc] (.b true) := by
  refine pcall_of_vc tabOK Try.func3 n3 rfl (by repeat' first | exact pure_nil | refine pure_cons ?_ ?_ | exact pure_enc _ | exact pure_lst _ | exact pure_strs _ | exact .raw _ | exact .fn _ _ _ pure_nil pure_nil | refine .agg _ ?_ | refine .tup _ ?_ | assumption) (by repeat' first | exact pure_nil | refine pure_cons ?_ ?_ | exact pure_enc _ | exact pure_lst _ | exact pure_strs _ | exact .raw _ | exact .fn _ _ _ pure_nil pure_nil | refine .agg _ ?_ | refine .tup _ ?_ | assumption) (n := 37) rfl (rs := [.tmp 2]) rfl ?_
  repeat' first
    | exact finB rfl
    | exact finI rfl
    | exact finP rfl
    | exact absurd rfl (by assumption)
    | simp only [go_sem, Nat.reduceAdd, Nat.reduceSub, Nat.reduceMul, Nat.reduceLT, Nat.reduceLeDiff, Nat.reduceEqDiff, Nat.reduceBEq, Nat.reduceBNe, Nat.reducePow, Int.reduceEq, Int.reduceNe, Int.reduceLT, Int.reduceLE, Int.reduceGT, Int.reduceGE, Int.reduceAdd, Int.reduceSub, Int.reduceNeg, Int.reduceMul, not_true_eq_false, not_false_eq_true, true_and, and_true, Int.reduceToNat]
    | (intro _)
    | refine brK_dec (fun _ => ?_) (fun _ => ?_)
    | refine brK_any ?_ ?_
    | refine gK_dec (fun _ => ?_) (fun _ => ?_)
    | refine gK_any ?_ ?_
    | refine gqK_dec (fun _ => ?_) (fun _ => ?_)
    | refine ⟨by omega, ?_⟩
    | refine elemHave (by omega) (by assumption) ?_
    | refine elemMap (by omega) (by omega) (fun x hx => ?_)
    | refine drawK mo (by kernel_rfl) ?_
    | (refine PCall.call live15 ?_)
    | (refine PCallE.call (small_e _) (fun r hr => ?_); obtain ⟨b, rfl, hb⟩ := hr; cases b)
    | (refine BCall.call (right_b _ (hb rfl)) (fun b => ?_); cases b)
    | (refine PCall.call (late16 _) ?_)
    | (refine PCall.call (late17 _) ?_)
end Go.Proofs.Ytfjjckaiopbbkaa
