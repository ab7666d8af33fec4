import Derived.Test.YtfjjckaiopbbkaaSame1
import Derived.Test.YtfjjckaiopbbkaaAbsU
namespace Go.Proofs.Ytfjjckaiopbbkaa
open Go.Abs
set_option maxRecDepth 20000
set_option linter.unusedSimpArgs false
set_option linter.unusedVariables false
set_option maxHeartbeats 1000000
attribute [local irreducible] vc vcOps vcStep vcGuard prK hrK gK gsK brK callK ElemK SeqK BlockK ScopeK OpsK CallK LoopK LoopGo finPost ACall PCall PCallE BCall vqOps vqStep vqGuard qrK heK pcK gqK gqsK QOpsK qcallK DrawK
theorem mem_eq {l : List ByteArray} {x s : ByteArray} {i : Nat} (h : l[i]? = some x) (e : x = s) : s ∈ l := e ▸ List.mem_of_getElem? h
abbrev namesP (f : DFlow) : List (List ByteArray) := f.Eqs.map DPlain.Names

theorem n110 : (Try.f110.name == "runtime.NumGoroutine") = false := by kernel_rfl
theorem waits110 (f : DFlow) (pl : List Bool) (s : ByteArray) (hl : pl.length = f.Eqs.length) {h : List Blk} {k : Nat} {K : AV → List Blk → Prop} (hb : blkCells h k = some (pl.map AV.b)) (hK : K (.b (waitsF (namesP f) pl s)) h) :
    ACall Try.prog 110 [f.enc, .sl 1 k 0 pl.length, .s s] h K := by
  obtain ⟨t, hb⟩ := blk_at hb
  refine acall_of_vc tabOK Try.func110 n110 rfl (n := 45) rfl (rs := [.tmp 6]) rfl ?_
  repeat' first
    | exact finB rfl
    | exact finI rfl
    | exact finP rfl
    | exact absurd rfl (by assumption)
    | simp only [go_sem, Nat.reduceAdd, Nat.reduceSub, Nat.reduceMul, Nat.reduceLT, Nat.reduceLeDiff, Nat.reduceEqDiff, Nat.reduceBEq, Nat.reduceBNe, Nat.reducePow, Int.reduceEq, Int.reduceNe, Int.reduceLT, Int.reduceLE, Int.reduceGT, Int.reduceGE, Int.reduceAdd, Int.reduceSub, Int.reduceNeg, Int.reduceMul, not_true_eq_false, not_false_eq_true, true_and, and_true, Int.reduceToNat]
    | (intro _)
    | refine brK_dec (fun _ => ?_) (fun _ => ?_)
    | refine brK_any ?_ ?_
    | refine gK_dec (fun _ => ?_) (fun _ => ?_)
    | refine gK_any ?_ ?_
    | refine gqK_dec (fun _ => ?_) (fun _ => ?_)
    | refine ⟨by omega, ?_⟩
    | refine elemHave (by omega) (by assumption) ?_
    | refine elemMap (by omega) (by omega) (fun x hx => ?_)
    | refine drawK mo (by kernel_rfl) ?_
    | (simp only [go_sem, Nat.reduceAdd, Nat.reduceSub, Nat.reduceMul, Nat.reduceLT, Nat.reduceLeDiff, Nat.reduceEqDiff, Nat.reduceBEq, Nat.reduceBNe, Nat.reducePow, Int.reduceEq, Int.reduceNe, Int.reduceLT, Int.reduceLE, Int.reduceGT, Int.reduceGE, Int.reduceAdd, Int.reduceSub, Int.reduceNeg, Int.reduceMul, not_true_eq_false, not_false_eq_true, true_and, and_true, Int.reduceToNat, at_app0])
    | (rw [NoW.done hpi (by rw [List.length_map]; omega)] at hK; exact finH0 _ rfl (.raw _) hK)
    | (rw [waits_yes (map_some hq) hpx (mem_eq hx (by assumption))] at hK; exact finH0 _ rfl (.raw _) hK)
    | ((fail_if_success (clear hq)); obtain ⟨q, hq⟩ : ∃ q, f.Eqs[((i : Nat) : Int).toNat]? = some q := ⟨_, List.getElem?_eq_getElem (by rw [Int.toNat_natCast]; omega)⟩; have hpx : pl[i]? = some pl[i] := List.getElem?_eq_getElem (by omega); generalize pl[i] = b at hpx; cases b)
    | (simp only [go_sem, Nat.reduceAdd, Nat.reduceSub, Nat.reduceMul, Nat.reduceLT, Nat.reduceLeDiff, Nat.reduceEqDiff, Nat.reduceBEq, Nat.reduceBNe, Nat.reducePow, Int.reduceEq, Int.reduceNe, Int.reduceLT, Int.reduceLE, Int.reduceGT, Int.reduceGE, Int.reduceAdd, Int.reduceSub, Int.reduceNeg, Int.reduceMul, not_true_eq_false, not_false_eq_true, true_and, and_true, Int.reduceToNat, at_old hb, Nat.zero_add, Nat.mul_one, Int.toNat_natCast, dropB hpx])
    | exact loopFrH _ (by omega) ⟨i + 1, by omega, rfl, NoW.step hpi (map_some hq) (not_take hpj (by omega)), rfl⟩ (.next rfl (by omega) .nil) rfl
    | (refine loop_frH [6, 7, 8, 9, 10, 11, 12, 13, 14, 15, 16, 17, 18, 19, 20, 21, 22, 23, 24, 25, 26, 27, 28, 29, 30, 31, 32, 33, 34, 35, 36, 37, 38, 39, 40, 41, 42, 43, 44] (fun mm_ CC_ => ∃ (i : Nat), i ≤ f.Eqs.length ∧ mm_ = f.Eqs.length - i ∧ (NoW (namesP f) pl s i) ∧ CC_ = [(7, .raw (.int .i64 ((i : Nat) : Int)))]) (f.Eqs.length) _ ⟨0, by omega, by omega, NoW.zero, rfl⟩ (.cons rfl .nil) ?_; rintro mm_ CC_ ji ⟨i, hi, rfl, hpi, rfl⟩)
    | exact loopFrH _ (by omega) ⟨j + 1, by omega, rfl, (by first | exact not_step hpj (by assumption) (fun _ => by assumption) | exact fun h => absurd (hpx.symm.trans h) (by simp)), rfl⟩ (.next rfl (by omega) .nil) rfl
    | (refine loop_frH [6, 8, 16, 17, 18, 19, 20, 21, 22, 23, 24, 25, 26, 27, 28, 29, 30, 31, 32, 33, 34, 35, 36, 37, 38, 39, 40, 41, 42, 43, 44] (fun mm_ CC_ => ∃ (j : Nat), j ≤ q.Names.length ∧ mm_ = q.Names.length - j ∧ (pl[i]? = some false → s ∉ q.Names.take j) ∧ CC_ = [(8, .raw (.int .i64 ((j : Nat) : Int)))]) (q.Names.length) _ ⟨0, by omega, by omega, by simp, rfl⟩ (.cons rfl .nil) ?_; rintro mm_ CC_ jj ⟨j, hj, rfl, hpj, rfl⟩)
end Go.Proofs.Ytfjjckaiopbbkaa
