import Derived.Test.YtipcmpkihhfhcaaDeclPr
import Derived.Test.YtipcmpkihhfhcaaReverse
namespace Go.Proofs.Ytipcmpkihhfhcaa
open Go.Abs
set_option maxRecDepth 20000
set_option linter.unusedSimpArgs false
set_option linter.unusedVariables false
set_option maxHeartbeats 1000000
attribute [local irreducible] vc vcOps vcStep vcGuard prK hrK gK gsK brK callK ElemK SeqK BlockK ScopeK OpsK CallK LoopK LoopGo finPost ACall PCall PCallE BCall vqOps vqStep vqGuard qrK heK pcK gqK gqsK QOpsK qcallK DrawK
theorem Weak.tups {cs ds : List AV} (h : WeakL cs ds) : Weak (.tup cs) (.tup ds) := .tup cs ds h.at.1 h.at.2

def clk (n : DNode) : Nat → ByteArray → List DDecl → List DDecl × Bool
  | 0, _, _ => ([], false)
  | k + 1, name, acc => if (decl n name).2 = true then (if (decl n name).1.On = ⟨#[]⟩ then (acc, true) else clk n k (decl n name).1.On ((decl n name).1 :: acc)) else ([], false)
def clock (n : DNode) (name : ByteArray) : List DDecl × Bool := clk n 13 name []
abbrev clockA (p : List DDecl × Bool) : AV := .tup [.lst 6 (p.1.map DDecl.enc) none, .b p.2]
theorem clk_succ (n : DNode) (k : Nat) (name : ByteArray) (acc : List DDecl) : clk n (k + 1) name acc = if (decl n name).2 = true then (if (decl n name).1.On = ⟨#[]⟩ then (acc, true) else clk n k (decl n name).1.On ((decl n name).1 :: acc)) else ([], false) := rfl
theorem pure_clockA (p : List DDecl × Bool) : Go.Abs.Pure (clockA p) := .tup _ (pure_cons (DDecl.pures _) (pure_cons (.raw _) pure_nil))
theorem weak_no : Weak (.tup [.raw (.slice none 0 0), .b false]) (clockA ([], false)) := Weak.tups ⟨.nil _, .refl _, trivial⟩

abbrev nodeB (n : DNode) : Blk := .cells 43 [.s n.Name, .lst 6 (n.Ins.map DDecl.enc) none, .lst 6 (n.Outs.map DDecl.enc) none, .lst 6 (n.Vars.map DDecl.enc) none, .lst 7 (n.Eqs.map DEq.enc) none]

theorem n51 : (Try.f51.name == "runtime.NumGoroutine") = false := by kernel_rfl
theorem clock21 (n : DNode) (name : ByteArray) (hl : (allV n).length ≤ 4294967296) : PCall Try.prog 51 [n.enc, .s name] (clockA (clock n name)) := by
  refine pcall_of_vc tabOK Try.func51 n51 rfl (by repeat' first | exact pure_nil | refine pure_cons ?_ ?_ | exact .raw _ | exact pure_enc _ | exact pure_lst _ | exact pure_strs _ | exact pure_ints _ | exact DTy.pure _ | exact DTy.pures _ | exact DEnum.pure _ | exact DEnum.pures _ | exact DDecl.pure _ | exact DDecl.pures _ | exact DEq.pure _ | exact DEq.pures _ | exact DNode.pure _ | exact DNode.pures _ | exact DProg.pure _ | exact DProg.pures _ | exact DCond.pure _ | exact DCond.pures _ | exact DAtom.pure _ | exact DAtom.pures _ | exact DPlain.pure _ | exact DPlain.pures _ | exact DVar.pure _ | exact DVar.pures _ | exact DFlow.pure _ | exact DFlow.pures _ | exact DFlows.pure _ | exact DFlows.pures _ | exact DAsked.pure _ | exact DAsked.pures _ | exact DFault.pure _ | exact DFault.pures _ | exact DCell.pure _ | exact DCell.pures _ | exact DReply.pure _ | exact DReply.pures _ | exact DAsk.pure _ | exact DAsk.pures _ | exact DOp.pure _ | exact DOp.pures _ | exact pure_list (fun x => DDecl.pures x) _ | exact .fn _ _ _ pure_nil pure_nil | refine .agg _ ?_ | refine .tup _ ?_ | assumption) (pure_clockA _) (n := 32) rfl (rs := [.tmp 4, .tmp 5]) rfl ?_
  simp only [go_sem, Nat.reduceAdd, Nat.reduceSub, Nat.reduceMul, Nat.reduceLT, Nat.reduceLeDiff, Nat.reduceEqDiff, Nat.reduceBEq, Nat.reduceBNe, Nat.reducePow, Int.reduceEq, Int.reduceNe, Int.reduceLT, Int.reduceLE, Int.reduceGT, Int.reduceGE, Int.reduceAdd, Int.reduceSub, Int.reduceNeg, Int.reduceMul, not_true_eq_false, not_false_eq_true, true_and, and_true, Int.reduceToNat]
  refine loop_ghost (ghost_own 6 59 6 rfl) ?_
  simp only [go_sem, Nat.reduceAdd, Nat.reduceSub, Nat.reduceMul, Nat.reduceLT, Nat.reduceLeDiff, Nat.reduceEqDiff, Nat.reduceBEq, Nat.reduceBNe, Nat.reducePow, Int.reduceEq, Int.reduceNe, Int.reduceLT, Int.reduceLE, Int.reduceGT, Int.reduceGE, Int.reduceAdd, Int.reduceSub, Int.reduceNeg, Int.reduceMul, not_true_eq_false, not_false_eq_true, true_and, and_true, Int.reduceToNat]
  refine loop_fr [1, 6, 7, 8, 9, 10, 11, 12, 13, 14, 15, 16, 17, 18, 19, 20, 21, 22, 23, 24, 25, 26, 27, 28, 29, 30, 31, 4, 5]
    (fun m C h => ∃ (i : Nat) (nm : ByteArray) (acc : List DDecl) (r : List Blk), i ≤ 13 ∧ acc.length ≤ i ∧ m = 13 - i ∧ clk n (13 - i) nm acc = clock n name ∧ C = [(9, .raw (.int .i64 (i : Nat))), (1, .s nm), (6, .own 6 1 (acc.reverse.map DDecl.enc).length)] ∧
      h = nodeB n :: .own 59 6 (acc.reverse.map DDecl.enc) :: r) 13 _ ⟨0, name, [], [], by omega, by simp, rfl, rfl, rfl, rfl⟩ (.cons rfl (.cons rfl (.cons rfl .nil))) ?_
  rintro m C j h ⟨i, nm, acc, r, hi, hal, rfl, hc, rfl, rfl⟩
  simp only [go_sem, Nat.reduceAdd, Nat.reduceSub, Nat.reduceMul, Nat.reduceLT, Nat.reduceLeDiff, Nat.reduceEqDiff, Nat.reduceBEq, Nat.reduceBNe, Nat.reducePow, Int.reduceEq, Int.reduceNe, Int.reduceLT, Int.reduceLE, Int.reduceGT, Int.reduceGE, Int.reduceAdd, Int.reduceSub, Int.reduceNeg, Int.reduceMul, not_true_eq_false, not_false_eq_true, true_and, and_true, Int.reduceToNat]
  refine brK_dec (fun hlt => ?_) (fun hge => ?_)
  · simp only [go_sem, Nat.reduceAdd, Nat.reduceSub, Nat.reduceMul, Nat.reduceLT, Nat.reduceLeDiff, Nat.reduceEqDiff, Nat.reduceBEq, Nat.reduceBNe, Nat.reducePow, Int.reduceEq, Int.reduceNe, Int.reduceLT, Int.reduceLE, Int.reduceGT, Int.reduceGE, Int.reduceAdd, Int.reduceSub, Int.reduceNeg, Int.reduceMul, not_true_eq_false, not_false_eq_true, true_and, and_true, Int.reduceToNat]
    refine PCall.call (decl25 n nm hl) ?_
    have he : 13 - i = (13 - (i + 1)) + 1 := by omega
    rw [he, clk_succ] at hc
    generalize decl n nm = d at hc ⊢
    obtain ⟨d, ok⟩ := d
    simp only [go_sem, Nat.reduceAdd, Nat.reduceSub, Nat.reduceMul, Nat.reduceLT, Nat.reduceLeDiff, Nat.reduceEqDiff, Nat.reduceBEq, Nat.reduceBNe, Nat.reducePow, Int.reduceEq, Int.reduceNe, Int.reduceLT, Int.reduceLE, Int.reduceGT, Int.reduceGE, Int.reduceAdd, Int.reduceSub, Int.reduceNeg, Int.reduceMul, not_true_eq_false, not_false_eq_true, true_and, and_true, Int.reduceToNat]
    cases ok with
    | false =>
      simp only [Bool.false_eq_true, if_false] at hc
      rw [← hc]
      simp only [go_sem, Nat.reduceAdd, Nat.reduceSub, Nat.reduceMul, Nat.reduceLT, Nat.reduceLeDiff, Nat.reduceEqDiff, Nat.reduceBEq, Nat.reduceBNe, Nat.reducePow, Int.reduceEq, Int.reduceNe, Int.reduceLT, Int.reduceLE, Int.reduceGT, Int.reduceGE, Int.reduceAdd, Int.reduceSub, Int.reduceNeg, Int.reduceMul, not_true_eq_false, not_false_eq_true, true_and, and_true, Int.reduceToNat]
      exact ⟨_, rfl, false, weak_no⟩
    | true =>
      simp only [if_true] at hc
      simp only [go_sem, Nat.reduceAdd, Nat.reduceSub, Nat.reduceMul, Nat.reduceLT, Nat.reduceLeDiff, Nat.reduceEqDiff, Nat.reduceBEq, Nat.reduceBNe, Nat.reducePow, Int.reduceEq, Int.reduceNe, Int.reduceLT, Int.reduceLE, Int.reduceGT, Int.reduceGE, Int.reduceAdd, Int.reduceSub, Int.reduceNeg, Int.reduceMul, not_true_eq_false, not_false_eq_true, true_and, and_true, Int.reduceToNat]
      refine brK_dec (fun hon => ?_) (fun hon => ?_)
      · rw [if_pos hon] at hc
        rw [← hc]
        simp only [go_sem, Nat.reduceAdd, Nat.reduceSub, Nat.reduceMul, Nat.reduceLT, Nat.reduceLeDiff, Nat.reduceEqDiff, Nat.reduceBEq, Nat.reduceBNe, Nat.reducePow, Int.reduceEq, Int.reduceNe, Int.reduceLT, Int.reduceLE, Int.reduceGT, Int.reduceGE, Int.reduceAdd, Int.reduceSub, Int.reduceNeg, Int.reduceMul, not_true_eq_false, not_false_eq_true, true_and, and_true, Int.reduceToNat]
        refine reverseD (es := acc.reverse.map DDecl.enc) (kk := 1) (by simp) rfl ?_
        simp only [go_sem, Nat.reduceAdd, Nat.reduceSub, Nat.reduceMul, Nat.reduceLT, Nat.reduceLeDiff, Nat.reduceEqDiff, Nat.reduceBEq, Nat.reduceBNe, Nat.reducePow, Int.reduceEq, Int.reduceNe, Int.reduceLT, Int.reduceLE, Int.reduceGT, Int.reduceGE, Int.reduceAdd, Int.reduceSub, Int.reduceNeg, Int.reduceMul, not_true_eq_false, not_false_eq_true, true_and, and_true, Int.reduceToNat]
        refine ⟨_, rfl, true, ?_⟩
        have hz : ∀ R : List Blk, frz (nodeB n :: .own 59 6 (acc.reverse.map DDecl.enc).reverse :: R) (.own 6 1 acc.reverse.length) = .lst 6 (acc.map DDecl.enc) none := by
          intro R
          simp [frz]
        show Weak (.tup [frz _ (.own 6 1 acc.reverse.length), .b true]) _
        rw [hz]
        exact .refl _
      · rw [if_neg hon] at hc
        simp only [go_sem, Nat.reduceAdd, Nat.reduceSub, Nat.reduceMul, Nat.reduceLT, Nat.reduceLeDiff, Nat.reduceEqDiff, Nat.reduceBEq, Nat.reduceBNe, Nat.reducePow, Int.reduceEq, Int.reduceNe, Int.reduceLT, Int.reduceLE, Int.reduceGT, Int.reduceGE, Int.reduceAdd, Int.reduceSub, Int.reduceNeg, Int.reduceMul, not_true_eq_false, not_false_eq_true, true_and, and_true, Int.reduceToNat]
        refine ⟨by simp; omega, ?_⟩
        exact loopFr (13 - (i + 1)) (by omega) ⟨i + 1, d.On, d :: acc, r ++ [.cells 59 [.s d.Name, .i d.Ty.Kind, .i d.Ty.Enum, .i d.Ty.Len, .s d.On, .s d.Ctor], .tok 59 6 1], by omega, by simp; omega, rfl, hc, rfl, by simp⟩
          (.next rfl (by omega) (.cons rfl (.cons (by simp) .nil))) rfl
  · have : i = 13 := by omega
    subst this
    simp only [go_sem, Nat.reduceAdd, Nat.reduceSub, Nat.reduceMul, Nat.reduceLT, Nat.reduceLeDiff, Nat.reduceEqDiff, Nat.reduceBEq, Nat.reduceBNe, Nat.reducePow, Int.reduceEq, Int.reduceNe, Int.reduceLT, Int.reduceLE, Int.reduceGT, Int.reduceGE, Int.reduceAdd, Int.reduceSub, Int.reduceNeg, Int.reduceMul, not_true_eq_false, not_false_eq_true, true_and, and_true, Int.reduceToNat]
    rw [← hc]
    exact ⟨_, rfl, false, weak_no⟩

theorem weak_yes (acc : List DDecl) (k : Option Nat) : Weak (.tup [.lst 6 (acc.map DDecl.enc) k, .b true]) (clockA (acc, true)) := Weak.tups ⟨by cases k <;> first | exact .refl _ | exact .tok _ _ _, .refl _, trivial⟩

end Go.Proofs.Ytipcmpkihhfhcaa
