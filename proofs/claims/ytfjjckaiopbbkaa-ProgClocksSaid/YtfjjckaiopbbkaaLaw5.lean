import Derived.Test.YtfjjckaiopbbkaaLaw12
namespace Go.Proofs.Ytfjjckaiopbbkaa
open Go.Abs
set_option maxRecDepth 20000
set_option linter.unusedSimpArgs false
set_option linter.unusedVariables false
set_option maxHeartbeats 4000000
attribute [local irreducible] vc vcOps vcStep vcGuard prK hrK gK gsK brK callK ElemK SeqK BlockK ScopeK OpsK CallK LoopK LoopGo finPost ACall PCall PCallE BCall vqOps vqStep vqGuard qrK heK pcK gqK gqsK QOpsK qcallK DrawK
def chainD (l : List DDecl) : Prop := ∀ j a b, l[j]? = some a → l[j + 1]? = some b → b.On = a.Name
theorem declF_name {name : ByteArray} : ∀ {l : List DDecl}, (declF name l).2 = true → (declF name l).1.Name = name
  | [], h => by cases h
  | d :: l, h => by
    rw [declF] at h ⊢
    split
    · assumption
    · rw [if_neg (by assumption)] at h
      exact declF_name h
theorem clk_chain (n : DNode) : ∀ (k : Nat) (name : ByteArray) (acc : List DDecl), chainD acc → (∀ x, acc[0]? = some x → x.On = name) → chainD (clk n k name acc).1
  | 0, _, _, _, _ => by
    intro j a b h
    simp [clk] at h
  | k + 1, name, acc, h1, h2 => by
    rw [clk_succ]
    split
    · split
      · exact h1
      · refine clk_chain n k _ _ ?_ ?_
        · intro j a b ha hb
          cases j with
          | zero =>
            simp at ha hb
            rw [← ha, decl, declF_name (by assumption)]
            exact h2 b (by simpa using hb)
          | succ j => exact h1 j a b (by simpa using ha) (by simpa using hb)
        · intro x hx
          simp at hx
          rw [hx]
    · intro j a b h
      simp at h
theorem clock_chain {n : DNode} {name : ByteArray} {l : List DDecl} {ok : Bool} (h : clock n name = (l, ok)) : chainD l := by
  have := clk_chain n 13 name [] (by intro j a b h; simp at h) (by intro x hx; simp at hx)
  rw [show clk n 13 name [] = (l, ok) from h] at this
  exact this
theorem chain_int {l : List DDecl} (h : chainD l) {i : Nat} {x y : DDecl} (hx : l[((i : Int)).toNat]? = some x) (hy : l[((i : Int) - 1).toNat]? = some y) (hi : (i : Int) > 0) : x.On = y.Name := by
  refine h (i - 1) y x ?_ ?_
  · rw [← hy]; congr 1; omega
  · rw [← hx]; congr 1; omega

theorem n5 : (Try.f5.name == "runtime.NumGoroutine") = false := by kernel_rfl
theorem law5 (p : DProg) (name : ByteArray) : PCall Try.prog 5 [p.enc, .s name] (.b true) := by
  refine pcall_of_vc tabOK Try.func5 n5 rfl (by repeat' first | exact pure_nil | refine pure_cons ?_ ?_ | exact .raw _ | exact pure_enc _ | exact pure_lst _ | exact pure_strs _ | exact pure_ints _ | exact DTy.pure _ | exact DTy.pures _ | exact DEnum.pure _ | exact DEnum.pures _ | exact DDecl.pure _ | exact DDecl.pures _ | exact DEq.pure _ | exact DEq.pures _ | exact DNode.pure _ | exact DNode.pures _ | exact DProg.pure _ | exact DProg.pures _ | exact DCond.pure _ | exact DCond.pures _ | exact DAtom.pure _ | exact DAtom.pures _ | exact DPlain.pure _ | exact DPlain.pures _ | exact DVar.pure _ | exact DVar.pures _ | exact DFlow.pure _ | exact DFlow.pures _ | exact DFlows.pure _ | exact DFlows.pures _ | exact DAsked.pure _ | exact DAsked.pures _ | exact DFault.pure _ | exact DFault.pures _ | exact DCell.pure _ | exact DCell.pures _ | exact DReply.pure _ | exact DReply.pures _ | exact DAsk.pure _ | exact DAsk.pures _ | exact DOp.pure _ | exact DOp.pures _ | exact pure_list (fun x => DDecl.pures x) _ | exact .fn _ _ _ pure_nil pure_nil | refine .agg _ ?_ | refine .tup _ ?_ | assumption) (by repeat' first | exact pure_nil | refine pure_cons ?_ ?_ | exact .raw _ | exact pure_enc _ | exact pure_lst _ | exact pure_strs _ | exact pure_ints _ | exact DTy.pure _ | exact DTy.pures _ | exact DEnum.pure _ | exact DEnum.pures _ | exact DDecl.pure _ | exact DDecl.pures _ | exact DEq.pure _ | exact DEq.pures _ | exact DNode.pure _ | exact DNode.pures _ | exact DProg.pure _ | exact DProg.pures _ | exact DCond.pure _ | exact DCond.pures _ | exact DAtom.pure _ | exact DAtom.pures _ | exact DPlain.pure _ | exact DPlain.pures _ | exact DVar.pure _ | exact DVar.pures _ | exact DFlow.pure _ | exact DFlow.pures _ | exact DFlows.pure _ | exact DFlows.pures _ | exact DAsked.pure _ | exact DAsked.pures _ | exact DFault.pure _ | exact DFault.pures _ | exact DCell.pure _ | exact DCell.pures _ | exact DReply.pure _ | exact DReply.pures _ | exact DAsk.pure _ | exact DAsk.pures _ | exact DOp.pure _ | exact DOp.pures _ | exact pure_list (fun x => DDecl.pures x) _ | exact .fn _ _ _ pure_nil pure_nil | refine .agg _ ?_ | refine .tup _ ?_ | assumption) (n := 91) rfl (rs := [.tmp 4]) rfl ?_
  repeat' first
    | exact finB rfl
    | exact finI rfl
    | exact finP rfl
    | exact absurd rfl (by assumption)
    | simp only [go_sem, Nat.reduceAdd, Nat.reduceSub, Nat.reduceMul, Nat.reduceLT, Nat.reduceLeDiff, Nat.reduceEqDiff, Nat.reduceBEq, Nat.reduceBNe, Nat.reducePow, Int.reduceEq, Int.reduceNe, Int.reduceLT, Int.reduceLE, Int.reduceGT, Int.reduceGE, Int.reduceAdd, Int.reduceSub, Int.reduceNeg, Int.reduceMul, not_true_eq_false, not_false_eq_true, true_and, and_true, Int.reduceToNat]
    | (intro _)
    | refine brK_dec (fun _ => ?_) (fun _ => ?_)
    | refine brK_any ?_ ?_
    | refine gK_dec (fun _ => ?_) (fun _ => ?_)
    | refine gK_any ?_ ?_
    | refine gqK_dec (fun _ => ?_) (fun _ => ?_)
    | refine ⟨by omega, ?_⟩
    | refine elemHave (by omega) (by assumption) ?_
    | refine elemMap (by omega) (by omega) (fun x hx => ?_)
    | refine drawK mo (by kernel_rfl) ?_
    | (refine PCall.call live20 ?_)
    | (refine PCallE.call (small_p _) (fun r hr => ?_); obtain ⟨b, rfl, hb⟩ := hr; cases b <;> (try replace hb := hb rfl))
    | (refine PCall.call (clock21 _ _ (allV_le (hb.2.2 _ (List.mem_of_getElem? hx)))) ?_)
    | (refine PCall.call (clock22 _ _ (allV_le (hb.2.2 _ (List.mem_of_getElem? hx)))) ?_; generalize hc : clock _ name = c; obtain ⟨cl, ok⟩ := c; have hch := clock_chain hc; cases ok <;> simp only [go_sem, Nat.reduceAdd, Nat.reduceSub, Nat.reduceMul, Nat.reduceLT, Nat.reduceLeDiff, Nat.reduceEqDiff, Nat.reduceBEq, Nat.reduceBNe, Nat.reducePow, Int.reduceEq, Int.reduceNe, Int.reduceLT, Int.reduceLE, Int.reduceGT, Int.reduceGE, Int.reduceAdd, Int.reduceSub, Int.reduceNeg, Int.reduceMul, not_true_eq_false, not_false_eq_true, true_and, and_true, Int.reduceToNat] <;> simp only [beq_self_eq_true, Bool.not_true])
    | (rw [wrap_in _ (by omega) (by omega)]; refine elemMap (by omega) (by omega) (fun y hy => ?_))
    | (exact absurd (chain_int hch hx hy (by assumption)) (by assumption))
    | exact loopFrH _ (by omega) ⟨k + 1, by omega, rfl, rfl⟩ (.next rfl (by omega) .nil) rfl
    | (refine loop_frH [4, 10, 57, 58, 59, 60, 61, 62, 63, 64, 65, 66, 67, 68, 69, 70, 71, 72, 73, 74, 75, 76, 77, 78, 79, 80, 81, 82, 83, 84, 85, 86, 87, 88, 89] (fun mm_ CC_ => ∃ (k : Nat), k ≤ cl.length ∧ mm_ = cl.length - k ∧ CC_ = [(10, .raw (.int .i64 ((k : Nat) : Int)))]) (cl.length) _ ⟨0, by omega, by omega, rfl⟩ (.cons rfl .nil) ?_; rintro mm_ CC_ jk ⟨k, hk, rfl, rfl⟩)
    | exact loopFrX _ (by omega) _ ⟨i + 1, by omega, rfl, rfl⟩ (.next rfl (by omega) .nil) rfl (by first | rfl | (simp only [List.append_assoc, List.cons_append, List.nil_append]; rfl))
    | (refine loop_frX [4, 5, 6, 7, 8, 9, 10, 20, 21, 22, 23, 24, 25, 26, 27, 28, 29, 30, 31, 32, 33, 34, 35, 36, 37, 38, 39, 40, 41, 42, 43, 44, 45, 46, 47, 48, 49, 50, 51, 52, 53, 54, 55, 56, 57, 58, 59, 60, 61, 62, 63, 64, 65, 66, 67, 68, 69, 70, 71, 72, 73, 74, 75, 76, 77, 78, 79, 80, 81, 82, 83, 84, 85, 86, 87, 88, 89] (fun mm_ CC_ => ∃ (i : Nat), i ≤ p.Nodes.length ∧ mm_ = p.Nodes.length - i ∧ CC_ = [(5, .raw (.int .i64 ((i : Nat) : Int)))]) (p.Nodes.length) _ ⟨0, by omega, by omega, rfl⟩ (.cons rfl .nil) ?_; rintro mm_ CC_ ji ri ⟨i, hi, rfl, rfl⟩)
end Go.Proofs.Ytfjjckaiopbbkaa
