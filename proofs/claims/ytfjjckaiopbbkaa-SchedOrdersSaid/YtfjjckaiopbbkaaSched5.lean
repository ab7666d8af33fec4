import Derived.Test.YtfjjckaiopbbkaaSched4
import Derived.Test.YtfjjckaiopbbkaaAbsTA
namespace Go.Proofs.Ytfjjckaiopbbkaa
open Go.Abs
set_option maxRecDepth 20000
set_option linter.unusedSimpArgs false
set_option linter.unusedVariables false
set_option maxHeartbeats 1000000
attribute [local irreducible] vc vcOps vcStep vcGuard prK hrK gK gsK brK callK ElemK SeqK BlockK ScopeK OpsK CallK LoopK LoopGo finPost ACall PCall PCallE BCall vqOps vqStep vqGuard qrK heK pcK gqK gqsK QOpsK qcallK DrawK
abbrev hangsP (f : DFlow) : List (List ByteArray) := f.Eqs.map readsP
def okFlow (f : DFlow) : Prop := f.Eqs.length ≤ 60 ∧ ∀ q ∈ f.Eqs, q.Names.length ≤ 10 ∧ q.Args.length ≤ 10 ∧ q.On.length ≤ 10

theorem okFlow.reads {f : DFlow} {q : DPlain} {i : Nat} (h : okFlow f) (hq : f.Eqs[i]? = some q) : q.Args.length + q.On.length ≤ 100000 := by
  have := h.2 q (List.mem_of_getElem? hq); omega
theorem n71 : (Try.f71.name == "runtime.NumGoroutine") = false := by kernel_rfl
theorem ready71 (f : DFlow) (hf : okFlow f) (pl : List Bool) (i : Nat) (hl : pl.length = f.Eqs.length) (hi : i < f.Eqs.length) {h : List Blk} {k : Nat} {K : AV → List Blk → Prop} (hb : blkCells h k = some (pl.map AV.b)) (hK : K (.b (readyF (namesP f) (hangsP f) pl i)) h) :
    ACall Try.prog 71 [f.enc, .sl 1 k 0 pl.length, .i (i : Int)] h K := by
  obtain ⟨t, hb'⟩ := blk_at hb
  obtain ⟨q, hq⟩ : ∃ q, f.Eqs[((i : Nat) : Int).toNat]? = some q := ⟨_, List.getElem?_eq_getElem (by rw [Int.toNat_natCast]; omega)⟩
  have hpx : pl[i]? = some pl[i] := List.getElem?_eq_getElem (by omega)
  generalize pl[i] = b at hpx
  have hh : (hangsP f)[i]? = some (readsP q) := map_some hq
  refine acall_of_vc tabOK Try.func71 n71 rfl (n := 33) rfl (rs := [.tmp 6]) rfl ?_
  simp only [go_sem, Nat.reduceAdd, Nat.reduceSub, Nat.reduceMul, Nat.reduceLT, Nat.reduceLeDiff, Nat.reduceEqDiff, Nat.reduceBEq, Nat.reduceBNe, Nat.reducePow, Int.reduceEq, Int.reduceNe, Int.reduceLT, Int.reduceLE, Int.reduceGT, Int.reduceGE, Int.reduceAdd, Int.reduceSub, Int.reduceNeg, Int.reduceMul, not_true_eq_false, not_false_eq_true, true_and, and_true, Int.reduceToNat]
  repeat' first
    | exact finB rfl
    | exact finI rfl
    | exact finP rfl
    | exact absurd rfl (by assumption)
    | simp only [go_sem, Nat.reduceAdd, Nat.reduceSub, Nat.reduceMul, Nat.reduceLT, Nat.reduceLeDiff, Nat.reduceEqDiff, Nat.reduceBEq, Nat.reduceBNe, Nat.reducePow, Int.reduceEq, Int.reduceNe, Int.reduceLT, Int.reduceLE, Int.reduceGT, Int.reduceGE, Int.reduceAdd, Int.reduceSub, Int.reduceNeg, Int.reduceMul, not_true_eq_false, not_false_eq_true, true_and, and_true, Int.reduceToNat]
    | (intro _)
    | refine brK_dec (fun _ => ?_) (fun _ => ?_)
    | refine brK_any ?_ ?_
    | refine gK_dec (fun _ => ?_) (fun _ => ?_)
    | refine gK_any ?_ ?_
    | refine gqK_dec (fun _ => ?_) (fun _ => ?_)
    | refine ⟨by omega, ?_⟩
    | refine elemHave (by omega) (by assumption) ?_
    | refine elemMap (by omega) (by omega) (fun x hx => ?_)
    | refine drawK mo (by kernel_rfl) ?_
    | (simp only [go_sem, Nat.reduceAdd, Nat.reduceSub, Nat.reduceMul, Nat.reduceLT, Nat.reduceLeDiff, Nat.reduceEqDiff, Nat.reduceBEq, Nat.reduceBNe, Nat.reducePow, Int.reduceEq, Int.reduceNe, Int.reduceLT, Int.reduceLE, Int.reduceGT, Int.reduceGE, Int.reduceAdd, Int.reduceSub, Int.reduceNeg, Int.reduceMul, not_true_eq_false, not_false_eq_true, true_and, and_true, Int.reduceToNat, at_app0])
    | (refine PCall.call (reads109 q (hf.reads hq)) ?_)
    | (refine pcK_ofR (v := .b (waitsF (namesP f) pl x)) (fun h9 K9 hm9 hk9 => waits110 f pl x hl (hm9.cells (blk_app hb)) hk9) ?_; generalize hw : waitsF (namesP f) pl x = w; cases w)
    | (rw [ready_wait hh (List.mem_of_getElem? hx) hw] at hK; exact finH0 _ rfl (.raw _) hK)
    | (simp only [go_sem, Nat.reduceAdd, Nat.reduceSub, Nat.reduceMul, Nat.reduceLT, Nat.reduceLeDiff, Nat.reduceEqDiff, Nat.reduceBEq, Nat.reduceBNe, Nat.reducePow, Int.reduceEq, Int.reduceNe, Int.reduceLT, Int.reduceLE, Int.reduceGT, Int.reduceGE, Int.reduceAdd, Int.reduceSub, Int.reduceNeg, Int.reduceMul, not_true_eq_false, not_false_eq_true, true_and, and_true, Int.reduceToNat, at_old hb', Nat.zero_add, Nat.mul_one, Int.toNat_natCast, dropB hpx])
    | (rw [ready_not hpx] at hK; exact finH0 _ rfl (.raw _) hK)
    | (rw [ready_yes hpx hh (take_full hpj (by omega))] at hK; exact finH0 _ rfl (.raw _) hK)
    | exact loopFrH _ (by omega) ⟨j + 1, by omega, rfl, take_all hpj (by simpa using hx) hw, rfl⟩ (.next rfl (by omega) .nil) rfl
    | (refine loop_frH [6, 8, 15, 16, 17, 18, 19, 20, 21, 22, 23, 24, 25, 26, 27] (fun mm_ CC_ => ∃ (j : Nat), j ≤ (readsP q).length ∧ mm_ = (readsP q).length - j ∧ (∀ s ∈ (readsP q).take j, waitsF (namesP f) pl s = false) ∧ CC_ = [(8, .raw (.int .i64 ((j : Nat) : Int)))]) ((readsP q).length) _ ⟨0, by omega, by omega, by simp, rfl⟩ (.cons rfl .nil) ?_; rintro mm_ CC_ jj ⟨j, hj, rfl, hpj, rfl⟩)
    | (cases b)
end Go.Proofs.Ytfjjckaiopbbkaa
