import Derived.Test.YtfjjckaiopbbkaaSched5
namespace Go.Proofs.Ytfjjckaiopbbkaa
open Go.Abs
set_option maxRecDepth 20000
set_option linter.unusedSimpArgs false
set_option linter.unusedVariables false
set_option maxHeartbeats 1000000
attribute [local irreducible] vc vcOps vcStep vcGuard prK hrK gK gsK brK callK ElemK SeqK BlockK ScopeK OpsK CallK LoopK LoopGo finPost ACall PCall PCallE BCall vqOps vqStep vqGuard qrK heK pcK gqK gqsK QOpsK qcallK DrawK
abbrev orderA (p : List Nat × Bool) : AV := .tup [.lst 1 (p.1.map AV.n) none, .b p.2]
theorem pure_orderA (p : List Nat × Bool) : Go.Abs.Pure (orderA p) := by
  refine .tup _ (pure_cons (.lst _ _ fun c hc => ?_) (pure_cons (.raw _) pure_nil))
  have : flat (p.1.map AV.n) = p.1.map AV.n := by
    generalize p.1 = l
    induction l with
    | nil => rfl
    | cons x l ih => simp only [List.map_cons]; rw [show flat (AV.n x :: l.map AV.n) = AV.n x :: flat (l.map AV.n) from rfl, ih]
  rw [this] at hc
  obtain ⟨n, _, rfl⟩ := List.mem_map.1 hc
  exact .raw _
theorem Weak.tups2 {cs ds : List AV} (h : WeakL cs ds) : Weak (.tup cs) (.tup ds) := .tup cs ds h.at.1 h.at.2
theorem weak_order (out : List Nat) (b : Bool) (k : Option Nat) : Weak (.tup [.lst 1 (out.map AV.n) k, .b b]) (orderA (out, b)) := Weak.tups2 ⟨by cases k <;> first | exact .refl _ | exact .tok _ _ _, .refl _, trivial⟩
theorem len_names (f : DFlow) : (namesP f).length = f.Eqs.length := List.length_map ..
theorem map_snocN (l : List Nat) (x : Nat) : l.map AV.n ++ [AV.raw (.int .i64 (x : Int))] = (l ++ [x]).map AV.n := by simp

theorem ready71' (f : DFlow) (hf : okFlow f) (pl : List Bool) (i : Nat) (n : Nat) (hn : n = pl.length) (hl : pl.length = f.Eqs.length) (hi : i < f.Eqs.length) {h : List Blk} {k : Nat} {K : AV → List Blk → Prop} (hb : blkCells h k = some (pl.map AV.b)) (hK : K (.b (readyF (namesP f) (hangsP f) pl i)) h) :
    ACall Try.prog 71 [f.enc, .sl 1 k 0 n, .i (i : Int)] h K := by subst hn; exact ready71 f hf pl i hl hi hb hK

theorem n30 : (Try.f30.name == "runtime.NumGoroutine") = false := by kernel_rfl
theorem order30 (f : DFlow) (hf : okFlow f) : PCall Try.prog 30 [f.enc] (orderA (orderF (namesP f) (hangsP f))) := by
  have hn := hf.1
  have hN := len_names f
  generalize hR : orderF (namesP f) (hangsP f) = R
  refine pcall_of_vc tabOK Try.func30 n30 rfl (by repeat' first | exact pure_nil | refine pure_cons ?_ ?_ | exact .raw _ | exact pure_enc _ | exact pure_lst _ | exact pure_strs _ | exact pure_ints _ | exact DTy.pure _ | exact DTy.pures _ | exact DEnum.pure _ | exact DEnum.pures _ | exact DDecl.pure _ | exact DDecl.pures _ | exact DEq.pure _ | exact DEq.pures _ | exact DNode.pure _ | exact DNode.pures _ | exact DProg.pure _ | exact DProg.pures _ | exact DCond.pure _ | exact DCond.pures _ | exact DAtom.pure _ | exact DAtom.pures _ | exact DPlain.pure _ | exact DPlain.pures _ | exact DVar.pure _ | exact DVar.pures _ | exact DFlow.pure _ | exact DFlow.pures _ | exact DFlows.pure _ | exact DFlows.pures _ | exact DAsked.pure _ | exact DAsked.pures _ | exact DFault.pure _ | exact DFault.pures _ | exact DCell.pure _ | exact DCell.pures _ | exact DReply.pure _ | exact DReply.pures _ | exact DAsk.pure _ | exact DAsk.pures _ | exact DOp.pure _ | exact DOp.pures _ | exact pure_list (fun x => DDecl.pures x) _ | exact .fn _ _ _ pure_nil pure_nil | refine .agg _ ?_ | refine .tup _ ?_ | assumption) (pure_orderA _) (n := 46) rfl (rs := [.tmp 2, .tmp 3]) rfl ?_
  simp only [go_sem, Nat.reduceAdd, Nat.reduceSub, Nat.reduceMul, Nat.reduceLT, Nat.reduceLeDiff, Nat.reduceEqDiff, Nat.reduceBEq, Nat.reduceBNe, Nat.reducePow, Int.reduceEq, Int.reduceNe, Int.reduceLT, Int.reduceLE, Int.reduceGT, Int.reduceGE, Int.reduceAdd, Int.reduceSub, Int.reduceNeg, Int.reduceMul, not_true_eq_false, not_false_eq_true, true_and, and_true, Int.reduceToNat]
  intro _
  refine ⟨by omega, ?_⟩
  simp only [Int.toNat_natCast]
  refine loop_fr [2, 3, 5, 6, 7, 13, 14, 15, 16, 17, 18, 19, 20, 21, 22, 23, 24, 25, 26, 27, 28, 29, 30, 31, 32, 33, 34, 35, 36, 37, 38, 39, 40, 41, 42, 43, 44] (fun m C hh => ∃ (pl : List Bool) (out : List Nat) (r : List Blk), pl.length = f.Eqs.length ∧ out.length ≤ f.Eqs.length ∧ m = f.Eqs.length - out.length ∧ orderG (namesP f) (hangsP f) (f.Eqs.length - out.length) pl out = R ∧
    C = [(5, .lst 1 (out.map AV.n) (some 2))] ∧ hh = flowB f :: .cells 4 (pl.map AV.b) :: .tok 3 1 out.length :: r) (f.Eqs.length) _
    ⟨List.replicate f.Eqs.length false, [], [], by simp, by simp, by simp, by rw [← hR, orderF, hN]; rfl, rfl, by simp⟩ (.cons rfl .nil) ?_
  rintro m C jo hh ⟨pl, out, r, hl, hol, rfl, hG, rfl, rfl⟩
  repeat' first
    | exact finB rfl
    | exact finI rfl
    | exact finP rfl
    | exact absurd rfl (by assumption)
    | simp only [go_sem, Nat.reduceAdd, Nat.reduceSub, Nat.reduceMul, Nat.reduceLT, Nat.reduceLeDiff, Nat.reduceEqDiff, Nat.reduceBEq, Nat.reduceBNe, Nat.reducePow, Int.reduceEq, Int.reduceNe, Int.reduceLT, Int.reduceLE, Int.reduceGT, Int.reduceGE, Int.reduceAdd, Int.reduceSub, Int.reduceNeg, Int.reduceMul, not_true_eq_false, not_false_eq_true, true_and, and_true, Int.reduceToNat]
    | (intro _)
    | refine brK_dec (fun _ => ?_) (fun _ => ?_)
    | refine brK_any ?_ ?_
    | refine gK_dec (fun _ => ?_) (fun _ => ?_)
    | refine gK_any ?_ ?_
    | refine gqK_dec (fun _ => ?_) (fun _ => ?_)
    | refine ⟨by omega, ?_⟩
    | refine elemHave (by omega) (by assumption) ?_
    | refine elemMap (by omega) (by omega) (fun x hx => ?_)
    | refine drawK mo (by kernel_rfl) ?_
    | (refine ready71' f hf pl i _ hl.symm hl (by omega) (k := 1) rfl ?_; generalize hw : readyF (namesP f) (hangsP f) pl i = w; cases w)
    | exact loopFrH _ (by omega) ⟨i + 1, _, by omega, rfl, hpi.hit (by assumption) hw, rfl⟩ (.next rfl (by omega) (.cons rfl .nil)) rfl
    | (refine loop_frH [6, 7, 19, 20, 21, 22, 23, 24, 25, 26, 27, 28, 29, 30, 31, 32, 33, 34] (fun mm_ CC_ => ∃ (i : Nat) (a : Int), i ≤ f.Eqs.length ∧ mm_ = f.Eqs.length - i ∧ (okAt (namesP f) (hangsP f) pl i a) ∧ CC_ = [(7, .raw (.int .i64 ((i : Nat) : Int))), (6, .i a)]) (f.Eqs.length) _ ⟨0, _, by omega, by omega, .zero, rfl⟩ (.cons rfl (.cons rfl .nil)) ?_; rintro mm_ CC_ ji ⟨i, a, hi, rfl, hpi, rfl⟩)
    | exact loopFrH _ (by omega) ⟨i + 1, _, by omega, rfl, hpi.miss (by assumption) hw, rfl⟩ (.next rfl (by omega) (.cons rfl .nil)) rfl
    | (refine loop_frH [6, 7, 19, 20, 21, 22, 23, 24, 25, 26, 27, 28, 29, 30, 31, 32, 33, 34] (fun mm_ CC_ => ∃ (i : Nat) (a : Int), i ≤ f.Eqs.length ∧ mm_ = f.Eqs.length - i ∧ (okAt (namesP f) (hangsP f) pl i a) ∧ CC_ = [(7, .raw (.int .i64 ((i : Nat) : Int))), (6, .i a)]) (f.Eqs.length) _ ⟨0, _, by omega, by omega, .zero, rfl⟩ (.cons rfl (.cons rfl .nil)) ?_; rintro mm_ CC_ ji ⟨i, a, hi, rfl, hpi, rfl⟩)
    | (rw [order_none (hpi.none_ (by assumption) (by rw [hN]; omega)) (by omega)] at hG; rw [← hG]; exact ⟨_, rfl, false, weak_order _ _ _⟩)
    | ((fail_if_success (clear hpk)); obtain ⟨k, rfl, hk, hp, hpk⟩ := hpi.got (by assumption) (by rw [hN]; omega); rw [hN] at hk; have hkl : (k + 1 ≤ pl.length) = True := eq_true (by omega))
    | (simp only [go_sem, Nat.reduceAdd, Nat.reduceSub, Nat.reduceMul, Nat.reduceLT, Nat.reduceLeDiff, Nat.reduceEqDiff, Nat.reduceBEq, Nat.reduceBNe, Nat.reducePow, Int.reduceEq, Int.reduceNe, Int.reduceLT, Int.reduceLE, Int.reduceGT, Int.reduceGE, Int.reduceAdd, Int.reduceSub, Int.reduceNeg, Int.reduceMul, not_true_eq_false, not_false_eq_true, true_and, and_true, Int.reduceToNat, Nat.zero_add, Nat.mul_one, Int.toNat_natCast, List.length_map, hkl, set_b'])
    | (refine ⟨by simp; omega, ?_⟩)
    | (rw [order_some hp (by omega)] at hG; refine loopFr (f.Eqs.length - (out.length + 1)) (by omega) ⟨pl.set k true, out ++ [k], r ++ [.tok 3 1 1], by simpa using hl, by simp; omega, by simp, by rw [← hG, Nat.sub_sub]; simp, rfl, ?_⟩ (.cons ?_ .nil) rfl <;> (simp; done))
    | (rw [show f.Eqs.length - out.length = 0 by omega] at hG; rw [← hG]; exact ⟨_, rfl, false, weak_order _ _ _⟩)
    | (exfalso; omega)
end Go.Proofs.Ytfjjckaiopbbkaa
