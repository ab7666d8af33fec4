import Derived.Test.YtfjjckaiopbbkaaSched6
namespace Go.Proofs.Ytfjjckaiopbbkaa
open Go.Abs
set_option maxRecDepth 20000
set_option linter.unusedSimpArgs false
set_option linter.unusedVariables false
set_option maxHeartbeats 1000000
attribute [local irreducible] vc vcOps vcStep vcGuard prK hrK gK gsK brK callK ElemK SeqK BlockK ScopeK OpsK CallK LoopK LoopGo finPost ACall PCall PCallE BCall vqOps vqStep vqGuard qrK heK pcK gqK gqsK QOpsK qcallK DrawK
theorem flat_le {α : Type} {c : Nat} : ∀ {N : List (List α)}, (∀ l ∈ N, l.length ≤ c) → N.flatten.length ≤ N.length * c
  | [], _ => by simp
  | n :: N, h => by
    have h1 := flat_le (N := N) fun l hl => h l (List.mem_cons_of_mem _ hl)
    have h2 := h n List.mem_cons_self
    rw [List.flatten_cons, List.length_append, List.length_cons, Nat.succ_mul]
    omega
theorem okFlow.names {f : DFlow} (h : okFlow f) : (namesP f).flatten.length ≤ 600 := by
  have h1 := flat_le (N := namesP f) (c := 10) fun l hl => by
    obtain ⟨q, hq, rfl⟩ := List.mem_map.1 hl
    exact (h.2 q hq).1
  have := h.1
  rw [len_names] at h1
  omega

theorem n29 : (Try.f29.name == "runtime.NumGoroutine") = false := by kernel_rfl
theorem order29 (f : DFlow) (hf : okFlow f) : PCall Try.prog 29 [f.enc] (orderA (orderF (namesP f) (hangsP f))) := by
  have hn := hf.1
  have hN := len_names f
  have hfl := hf.names
  generalize hR : orderF (namesP f) (hangsP f) = R
  refine pcall_of_vc tabOK Try.func29 n29 rfl (by repeat' first | exact pure_nil | refine pure_cons ?_ ?_ | exact .raw _ | exact pure_enc _ | exact pure_lst _ | exact pure_strs _ | exact pure_ints _ | exact DTy.pure _ | exact DTy.pures _ | exact DEnum.pure _ | exact DEnum.pures _ | exact DDecl.pure _ | exact DDecl.pures _ | exact DEq.pure _ | exact DEq.pures _ | exact DNode.pure _ | exact DNode.pures _ | exact DProg.pure _ | exact DProg.pures _ | exact DCond.pure _ | exact DCond.pures _ | exact DAtom.pure _ | exact DAtom.pures _ | exact DPlain.pure _ | exact DPlain.pures _ | exact DVar.pure _ | exact DVar.pures _ | exact DFlow.pure _ | exact DFlow.pures _ | exact DFlows.pure _ | exact DFlows.pures _ | exact DAsked.pure _ | exact DAsked.pures _ | exact DFault.pure _ | exact DFault.pures _ | exact DCell.pure _ | exact DCell.pures _ | exact DReply.pure _ | exact DReply.pures _ | exact DAsk.pure _ | exact DAsk.pures _ | exact DOp.pure _ | exact DOp.pures _ | exact pure_list (fun x => DDecl.pures x) _ | exact .fn _ _ _ pure_nil pure_nil | refine .agg _ ?_ | refine .tup _ ?_ | assumption) (pure_orderA _) (n := 52) rfl (rs := [.tmp 2, .tmp 3]) rfl ?_
  simp only [go_sem, Nat.reduceAdd, Nat.reduceSub, Nat.reduceMul, Nat.reduceLT, Nat.reduceLeDiff, Nat.reduceEqDiff, Nat.reduceBEq, Nat.reduceBNe, Nat.reducePow, Int.reduceEq, Int.reduceNe, Int.reduceLT, Int.reduceLE, Int.reduceGT, Int.reduceGE, Int.reduceAdd, Int.reduceSub, Int.reduceNeg, Int.reduceMul, not_true_eq_false, not_false_eq_true, true_and, and_true, Int.reduceToNat]
  refine of68 f (by omega) _ (fun n0 m0 r hm0 => ?_)
  simp only [go_sem, Nat.reduceAdd, Nat.reduceSub, Nat.reduceMul, Nat.reduceLT, Nat.reduceLeDiff, Nat.reduceEqDiff, Nat.reduceBEq, Nat.reduceBNe, Nat.reducePow, Int.reduceEq, Int.reduceNe, Int.reduceLT, Int.reduceLE, Int.reduceGT, Int.reduceGE, Int.reduceAdd, Int.reduceSub, Int.reduceNeg, Int.reduceMul, not_true_eq_false, not_false_eq_true, true_and, and_true, Int.reduceToNat]
  intro _
  refine ⟨by omega, ?_⟩
  simp only [Int.toNat_natCast]
  refine loop_ghost (ghost_tok 4 3 1 rfl) ?_
  simp only [go_sem, Nat.reduceAdd, Nat.reduceSub, Nat.reduceMul, Nat.reduceLT, Nat.reduceLeDiff, Nat.reduceEqDiff, Nat.reduceBEq, Nat.reduceBNe, Nat.reducePow, Int.reduceEq, Int.reduceNe, Int.reduceLT, Int.reduceLE, Int.reduceGT, Int.reduceGE, Int.reduceAdd, Int.reduceSub, Int.reduceNeg, Int.reduceMul, not_true_eq_false, not_false_eq_true, true_and, and_true, Int.reduceToNat]
  refine loop_fr [2, 3, 4, 7, 8, 15, 16, 17, 18, 19, 20, 21, 22, 23, 24, 25, 26, 27, 28, 29, 30, 31, 32, 33, 34, 35, 36, 37, 38, 39, 40, 41, 42, 43, 44, 45, 46, 47, 48, 49, 50] (fun mz C hh => ∃ (pl : List Bool) (out : List Nat) (n : Nat) (m : Value → Option AV) (r2 : List Blk), pl.length = f.Eqs.length ∧ out.length ≤ f.Eqs.length ∧ mz = f.Eqs.length - out.length ∧ orderG (namesP f) (hangsP f) (f.Eqs.length - out.length) pl out = R ∧
    MapN m (fun s => opn s (namesP f) pl) ∧
    C = [(4, .lst 1 (out.map AV.n) (some (r.length + 1 + 1 + 1 + 1)))] ∧ hh = flowB f :: flowB f :: .mp .str n m :: (r ++ .cells 4 (pl.map AV.b) :: .tok 3 1 out.length :: r2)) (f.Eqs.length) _
    ⟨List.replicate f.Eqs.length false, [], n0, m0, [], by simp, by simp, by simp, by rw [← hR, orderF, hN]; rfl, by rw [hN] at hm0; exact hm0, rfl, by simp⟩ (.cons (by simp) .nil) ?_
  rintro mz C jo hh ⟨pl, out, n, m, r2, hl, hol, rfl, hG, hm, rfl, rfl⟩
  repeat' first
    | exact finB rfl
    | exact finI rfl
    | exact finP rfl
    | exact absurd rfl (by assumption)
    | simp only [go_sem, Nat.reduceAdd, Nat.reduceSub, Nat.reduceMul, Nat.reduceLT, Nat.reduceLeDiff, Nat.reduceEqDiff, Nat.reduceBEq, Nat.reduceBNe, Nat.reducePow, Int.reduceEq, Int.reduceNe, Int.reduceLT, Int.reduceLE, Int.reduceGT, Int.reduceGE, Int.reduceAdd, Int.reduceSub, Int.reduceNeg, Int.reduceMul, not_true_eq_false, not_false_eq_true, true_and, and_true, Int.reduceToNat]
    | (intro _)
    | refine brK_dec (fun _ => ?_) (fun _ => ?_)
    | refine brK_any ?_ ?_
    | refine gK_dec (fun _ => ?_) (fun _ => ?_)
    | refine gK_any ?_ ?_
    | refine gqK_dec (fun _ => ?_) (fun _ => ?_)
    | refine ⟨by omega, ?_⟩
    | refine elemHave (by omega) (by assumption) ?_
    | ((fail_if_success (clear hq)); refine elemMap (by omega) (by omega) (fun q hq => ?_))
    | refine elemMap (by omega) (by omega) (fun x hx => ?_)
    | refine drawK mo (by kernel_rfl) ?_
    | (simp only [go_sem, Nat.reduceAdd, Nat.reduceSub, Nat.reduceMul, Nat.reduceLT, Nat.reduceLeDiff, Nat.reduceEqDiff, Nat.reduceBEq, Nat.reduceBNe, Nat.reducePow, Int.reduceEq, Int.reduceNe, Int.reduceLT, Int.reduceLE, Int.reduceGT, Int.reduceGE, Int.reduceAdd, Int.reduceSub, Int.reduceNeg, Int.reduceMul, not_true_eq_false, not_false_eq_true, true_and, and_true, Int.reduceToNat, at_app0, at_app, set_app0])
    | ((fail_if_success (clear hpx)); have hq' : f.Eqs[i]? = some q := (by simpa using hq); have hh : (hangsP f)[i]? = some (readsP q) := map_some hq'; have hnn : (namesP f)[i]? = some q.Names := map_some hq'; have hpx : pl[i]? = some pl[i] := List.getElem?_eq_getElem (by omega); generalize pl[i] = b at hpx; have hkl : (i + 1 ≤ pl.length) = True := eq_true (by omega); cases b)
    | (simp only [go_sem, Nat.reduceAdd, Nat.reduceSub, Nat.reduceMul, Nat.reduceLT, Nat.reduceLeDiff, Nat.reduceEqDiff, Nat.reduceBEq, Nat.reduceBNe, Nat.reducePow, Int.reduceEq, Int.reduceNe, Int.reduceLT, Int.reduceLE, Int.reduceGT, Int.reduceGE, Int.reduceAdd, Int.reduceSub, Int.reduceNeg, Int.reduceMul, not_true_eq_false, not_false_eq_true, true_and, and_true, Int.reduceToNat, at_app0, set_app0, Nat.zero_add, Nat.mul_one, Int.toNat_natCast, dropB hpx, dropB' hpx, hkl, List.length_map, set_b'])
    | (refine ready69 q (hf.reads hq') _ _ _ _ _ hm _ ?_; simp only [any_waits]; generalize hw : ((readsP q).any fun s => waitsF (namesP f) pl s) = w; cases w)
    | exact loopFr _ (by omega) ⟨i + 1, _, by omega, rfl, not_next hpi (by first | exact ready_not hpx | exact ready_any hpx hh hw), rfl, (by first | rfl | (simp; done) | (simp; rfl))⟩ (.next rfl (by omega) (.cons (by first | rfl | (simp; done) | (simp; rfl)) .nil)) rfl
    | (refine loop_fr [4, 7, 8, 24, 25, 26, 27, 28, 29, 30, 31, 32, 33, 34, 35, 36, 37, 38, 39, 40, 41, 42, 43, 44, 45, 46, 47, 48, 49] (fun mm_ CC_ hh_ => ∃ (i : Nat) (r_ : List Blk), i ≤ f.Eqs.length ∧ mm_ = f.Eqs.length - i ∧ ((∀ j, j < i → readyF (namesP f) (hangsP f) pl j = false)) ∧ CC_ = [(24, .raw (.int .i64 ((i : Nat) : Int))), (4, .lst 1 (out.map AV.n) (some (r.length + 1 + 1 + 1 + 1)))] ∧ hh_ = flowB f :: flowB f :: .mp .str n m :: (r ++ .cells 4 (pl.map AV.b) :: .tok 3 1 out.length :: r_)) (f.Eqs.length) _ ⟨0, _, by omega, by omega, fun j hj => absurd hj (by omega), rfl, (by first | rfl | (simp; done) | (simp; rfl))⟩ (.cons (by first | rfl | (simp; done) | (simp; rfl)) (.cons (by first | rfl | (simp; done) | (simp; rfl)) .nil)) ?_; rintro mm_ CC_ ji hh_ ⟨i, ri, hi, rfl, hpi, rfl, rfl⟩)
    | (refine place70 q _ _ _ _ _ hm (fun s => by have := opn_set (s := s) hnn hpx; omega) (fun s => Nat.le_trans opn_le (by omega)) _ (fun n9 m9 g9 r9 h9 h9s => ?_); simp only [List.append_assoc, List.cons_append]; have hpk := pick_some (N := namesP f) (H := hangsP f) (pl := pl) (n := (namesP f).length) (i := 0) (k := i) (Nat.zero_le _) (by omega) (fun j _ hj => hpi j hj) (ready_any hpx hh hw); have h8 : MapN m9 (fun s => opn s (namesP f) (pl.set i true)) := h9.cast (fun s => by have h7 := opn_set (s := s) hnn hpx; have := h9s s; omega))
    | (refine ⟨by simp; omega, ?_⟩)
    | (rw [order_some hpk (by omega)] at hG; refine loopFr (f.Eqs.length - (out.length + 1)) (by omega) ⟨pl.set i true, out ++ [i], n9, m9, _, by simpa using hl, by simp; omega, by simp, by rw [← hG, Nat.sub_sub]; simp, h8, rfl, by simp; rfl⟩ (.cons (by simp; done) .nil) rfl)
    | (rw [order_none (pick_none (fun j _ hj => hpi j (by omega))) (by omega)] at hG; rw [← hG]; exact ⟨_, rfl, false, weak_order _ _ _⟩)
    | (rw [show f.Eqs.length - out.length = 0 by omega] at hG; rw [← hG]; exact ⟨_, rfl, false, weak_order _ _ _⟩)
    | (exfalso; omega)
end Go.Proofs.Ytfjjckaiopbbkaa
