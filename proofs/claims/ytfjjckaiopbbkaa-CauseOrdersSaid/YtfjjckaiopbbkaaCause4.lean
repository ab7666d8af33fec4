import Derived.Test.YtfjjckaiopbbkaaCause3
namespace Go.Proofs.Ytfjjckaiopbbkaa
open Go.Abs
set_option maxRecDepth 20000
set_option linter.unusedSimpArgs false
set_option linter.unusedVariables false
set_option maxHeartbeats 1000000
attribute [local irreducible] vc vcOps vcStep vcGuard prK hrK gK gsK brK callK ElemK SeqK BlockK ScopeK OpsK CallK LoopK LoopGo finPost ACall PCall PCallE BCall vqOps vqStep vqGuard qrK heK pcK gqK gqsK QOpsK qcallK DrawK
theorem eq_at {α : Type} {l : List α} {i : Nat} (h : i < l.length) : ∃ q, l[i]? = some q := ⟨_, List.getElem?_eq_getElem h⟩
theorem n39 : (Try.f39.name == "runtime.NumGoroutine") = false := by kernel_rfl
theorem order39 (f : DNode) (hf : okC f) : PCall Try.prog 39 [f.enc] (orderA (orderF (namesC f) (hangsC f))) := by
  have hn := hf.1
  have hN := len_namesC f
  have hfl := hf.names
  generalize hR : orderF (namesC f) (hangsC f) = R
  refine pcall_of_vc tabOK Try.func39 n39 rfl (by repeat' first | exact pure_nil | refine pure_cons ?_ ?_ | exact .raw _ | exact pure_enc _ | exact pure_lst _ | exact pure_strs _ | exact pure_ints _ | exact DTy.pure _ | exact DTy.pures _ | exact DEnum.pure _ | exact DEnum.pures _ | exact DDecl.pure _ | exact DDecl.pures _ | exact DEq.pure _ | exact DEq.pures _ | exact DNode.pure _ | exact DNode.pures _ | exact DProg.pure _ | exact DProg.pures _ | exact DCond.pure _ | exact DCond.pures _ | exact DAtom.pure _ | exact DAtom.pures _ | exact DPlain.pure _ | exact DPlain.pures _ | exact DVar.pure _ | exact DVar.pures _ | exact DFlow.pure _ | exact DFlow.pures _ | exact DFlows.pure _ | exact DFlows.pures _ | exact DAsked.pure _ | exact DAsked.pures _ | exact DFault.pure _ | exact DFault.pures _ | exact DCell.pure _ | exact DCell.pures _ | exact DReply.pure _ | exact DReply.pures _ | exact DAsk.pure _ | exact DAsk.pures _ | exact DOp.pure _ | exact DOp.pures _ | exact pure_list (fun x => DDecl.pures x) _ | exact .fn _ _ _ pure_nil pure_nil | refine .agg _ ?_ | refine .tup _ ?_ | assumption) (pure_orderA _) (n := 41) rfl (rs := [.tmp 2, .tmp 3]) rfl ?_
  simp only [go_sem, Nat.reduceAdd, Nat.reduceSub, Nat.reduceMul, Nat.reduceLT, Nat.reduceLeDiff, Nat.reduceEqDiff, Nat.reduceBEq, Nat.reduceBNe, Nat.reducePow, Int.reduceEq, Int.reduceNe, Int.reduceLT, Int.reduceLE, Int.reduceGT, Int.reduceGE, Int.reduceAdd, Int.reduceSub, Int.reduceNeg, Int.reduceMul, not_true_eq_false, not_false_eq_true, true_and, and_true, Int.reduceToNat]
  refine all85 f hf _ (fun n0 m10 m20 b2 r h10 h20 => ?_)
  simp only [go_sem, Nat.reduceAdd, Nat.reduceSub, Nat.reduceMul, Nat.reduceLT, Nat.reduceLeDiff, Nat.reduceEqDiff, Nat.reduceBEq, Nat.reduceBNe, Nat.reducePow, Int.reduceEq, Int.reduceNe, Int.reduceLT, Int.reduceLE, Int.reduceGT, Int.reduceGE, Int.reduceAdd, Int.reduceSub, Int.reduceNeg, Int.reduceMul, not_true_eq_false, not_false_eq_true, true_and, and_true, Int.reduceToNat]
  refine loop_ghost (ghost_tok 4 3 1 rfl) ?_
  simp only [go_sem, Nat.reduceAdd, Nat.reduceSub, Nat.reduceMul, Nat.reduceLT, Nat.reduceLeDiff, Nat.reduceEqDiff, Nat.reduceBEq, Nat.reduceBNe, Nat.reducePow, Int.reduceEq, Int.reduceNe, Int.reduceLT, Int.reduceLE, Int.reduceGT, Int.reduceGE, Int.reduceAdd, Int.reduceSub, Int.reduceNeg, Int.reduceMul, not_true_eq_false, not_false_eq_true, true_and, and_true, Int.reduceToNat]
  refine loop_fr [2, 3, 4, 6, 7, 10, 11, 12, 13, 14, 15, 16, 17, 18, 19, 20, 21, 22, 23, 24, 25, 26, 27, 28, 29, 30, 31, 32, 33, 34, 35, 36, 37, 38, 39] (fun mz C hh => ∃ (pl : List Bool) (out : List Nat) (n : Nat) (m1 m2 : Value → Option AV) (r2 : List Blk), pl.length = f.Eqs.length ∧ out.length ≤ f.Eqs.length ∧ mz = f.Eqs.length - out.length ∧ orderG (namesC f) (hangsC f) (f.Eqs.length - out.length) pl out = R ∧
    EqM m1 (hangsC f) pl ∧ MapN m2 (fun s => opn s (namesC f) pl) ∧
    C = [(4, .lst 1 (out.map AV.n) (some (r.length + 1 + 1 + 1 + 1 + 1 + 1)))] ∧ hh = nodeB2 f :: nodeB2 f :: b2 :: .mp .int (f.Eqs.length - out.length) m1 :: .mp .str n m2 :: (r ++ leftB :: .tok 3 1 out.length :: r2)) (f.Eqs.length) _
    ⟨List.replicate f.Eqs.length false, [], n0, m10, m20, [], by simp, by simp, by simp, by rw [← hR, orderF, hN]; rfl, h10, h20, rfl, by simp⟩ (.cons (by simp) .nil) ?_
  rintro mz C jo hh ⟨pl, out, n, m1, m2, r2, hl, hol, rfl, hG, h1, h2, rfl, rfl⟩
  repeat' first
    | exact finB rfl
    | exact finI rfl
    | exact finP rfl
    | exact absurd rfl (by assumption)
    | simp only [go_sem, Nat.reduceAdd, Nat.reduceSub, Nat.reduceMul, Nat.reduceLT, Nat.reduceLeDiff, Nat.reduceEqDiff, Nat.reduceBEq, Nat.reduceBNe, Nat.reducePow, Int.reduceEq, Int.reduceNe, Int.reduceLT, Int.reduceLE, Int.reduceGT, Int.reduceGE, Int.reduceAdd, Int.reduceSub, Int.reduceNeg, Int.reduceMul, not_true_eq_false, not_false_eq_true, true_and, and_true, Int.reduceToNat]
    | (intro _)
    | refine brK_dec (fun _ => ?_) (fun _ => ?_)
    | refine brK_any ?_ ?_
    | refine gK_dec (fun _ => ?_) (fun _ => ?_)
    | refine gK_any ?_ ?_
    | refine gqK_dec (fun _ => ?_) (fun _ => ?_)
    | refine ⟨by omega, ?_⟩
    | refine elemHave (by omega) (by assumption) ?_
    | refine elemMap (by omega) (by omega) (fun x hx => ?_)
    | (refine drawZ mo (by kernel_rfl) rfl ?_; simp only [List.dropLast_cons_cons, List.dropLast_singleton, List.getLast_cons_cons, List.getLast_singleton])
    | (simp only [go_sem, Nat.reduceAdd, Nat.reduceSub, Nat.reduceMul, Nat.reduceLT, Nat.reduceLeDiff, Nat.reduceEqDiff, Nat.reduceBEq, Nat.reduceBNe, Nat.reducePow, Int.reduceEq, Int.reduceNe, Int.reduceLT, Int.reduceLE, Int.reduceGT, Int.reduceGE, Int.reduceAdd, Int.reduceSub, Int.reduceNeg, Int.reduceMul, not_true_eq_false, not_false_eq_true, true_and, and_true, Int.reduceToNat, at_app0, at_app, set_app0])
    | ((fail_if_success (clear hq)); have hgo := eq_at (l := f.Eqs) (i := i) (by omega); obtain ⟨q, hq⟩ := hgo; have hq2 : f.Eqs[((i : Nat) : Int).toNat]? = some q := hq; have hh : (hangsC f)[i]? = some (hangsF f q) := map_some hq; have hnn : (namesC f)[i]? = some q.Names := map_some hq)
    | (refine ready86 f pl i q hq (by omega) _ _ _ _ _ _ _ h1 h2 _ ?_; generalize hw : readyF (namesC f) (hangsC f) pl i = w; cases w)
    | exact loopFrH _ (by omega) ⟨i + 1, by omega, rfl, not_next hpi hw, rfl⟩ (.next rfl (by omega) (.cons rfl .nil)) rfl
    | (refine loop_frH [6, 7, 17, 18, 19, 20, 21, 22, 23, 24] (fun mm_ CC_ => ∃ (i : Nat), i ≤ f.Eqs.length ∧ mm_ = f.Eqs.length - i ∧ ((∀ j, j < i → readyF (namesC f) (hangsC f) pl j = false)) ∧ CC_ = [(17, .raw (.int .i64 ((i : Nat) : Int))), (6, .i (-1))]) (f.Eqs.length) _ ⟨0, by omega, by omega, fun j hj => absurd hj (by omega), rfl⟩ (.cons rfl (.cons rfl .nil)) ?_; rintro mm_ CC_ ji ⟨i, hi, rfl, hpi, rfl⟩)
    | (have hpx := ready_pl hw; refine place87 q i _ _ _ _ _ _ _ _ h2 (fun s => by have := opn_set (s := s) hnn hpx; omega) (fun s => Nat.le_trans opn_le (by omega)) _ (fun n9 m9 g9 r9 h9 h9s => ?_); simp only [List.append_assoc, List.cons_append, h1.less hpx hh]; have hpk := pick_some (N := namesC f) (H := hangsC f) (pl := pl) (n := (namesC f).length) (i := 0) (k := i) (Nat.zero_le _) (by omega) (fun j _ hj => hpi j hj) hw; have h8 : MapN m9 (fun s => opn s (namesC f) (pl.set i true)) := h9.cast (fun s => by have h7 := opn_set (s := s) hnn hpx; have := h9s s; omega))
    | (refine ⟨by simp; omega, ?_⟩)
    | (rw [order_some hpk (by omega)] at hG; refine loopFr (f.Eqs.length - (out.length + 1)) (by omega) ⟨pl.set i true, out ++ [i], n9, _, m9, _, by simpa using hl, by simp; omega, by simp, by rw [← hG, Nat.sub_sub]; simp, h1.cut, h8, rfl, by simp [Nat.sub_sub]; rfl⟩ (.cons (by simp; done) .nil) rfl)
    | (rw [order_none (pick_none (fun j _ hj => hpi j (by omega))) (by omega)] at hG; rw [← hG]; exact ⟨_, rfl, false, weak_order _ _ _⟩)
    | (rw [show f.Eqs.length - out.length = 0 by omega] at hG; rw [← hG]; exact ⟨_, rfl, false, weak_order _ _ _⟩)
    | (exfalso; omega)
end Go.Proofs.Ytfjjckaiopbbkaa
