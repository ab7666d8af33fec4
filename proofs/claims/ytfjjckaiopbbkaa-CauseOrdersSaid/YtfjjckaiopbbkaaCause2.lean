import Derived.Test.YtfjjckaiopbbkaaCause1
import Derived.Test.YtfjjckaiopbbkaaAbsTB
namespace Go.Proofs.Ytfjjckaiopbbkaa
open Go.Abs
set_option maxRecDepth 20000
set_option linter.unusedSimpArgs false
set_option linter.unusedVariables false
set_option maxHeartbeats 1000000
attribute [local irreducible] vc vcOps vcStep vcGuard prK hrK gK gsK brK callK ElemK SeqK BlockK ScopeK OpsK CallK LoopK LoopGo finPost ACall PCall PCallE BCall vqOps vqStep vqGuard qrK heK pcK gqK gqsK QOpsK qcallK DrawK
abbrev namesC (f : DNode) : List (List ByteArray) := f.Eqs.map DEq.Names
abbrev hangsC (f : DNode) : List (List ByteArray) := f.Eqs.map (hangsF f)
theorem len_namesC (f : DNode) : (namesC f).length = f.Eqs.length := List.length_map ..
def okC (f : DNode) : Prop := f.Eqs.length ≤ 60 ∧ ∀ q ∈ f.Eqs, q.Names.length ≤ 20 ∧ okH f q
theorem okC.hang {f : DNode} {q : DEq} {i : Nat} (h : okC f) (hq : f.Eqs[i]? = some q) : okH f q := (h.2 q (List.mem_of_getElem? hq)).2
theorem okC.names {f : DNode} (h : okC f) : (namesC f).flatten.length ≤ 1200 := by
  have h1 := flat_le (N := namesC f) (c := 20) fun l hl => by
    obtain ⟨q, hq, rfl⟩ := List.mem_map.1 hl
    exact (h.2 q hq).1
  have := h.1
  rw [len_namesC] at h1
  omega

theorem n126 : (Try.f126.name == "runtime.NumGoroutine") = false := by kernel_rfl
theorem waits126 (f : DNode) (pl : List Bool) (s : ByteArray) (hl : pl.length = f.Eqs.length) {h : List Blk} {k : Nat} {K : AV → List Blk → Prop} (hb : blkCells h k = some (pl.map AV.b)) (hK : K (.b (waitsF (namesC f) pl s)) h) :
    ACall Try.prog 126 [f.enc, .sl 1 k 0 pl.length, .s s] h K := by
  obtain ⟨t, hb⟩ := blk_at hb
  refine acall_of_vc tabOK Try.func126 n126 rfl (n := 45) rfl (rs := [.tmp 6]) rfl ?_
  repeat' first
    | exact finB rfl
    | exact finI rfl
    | exact finP rfl
    | exact absurd rfl (by assumption)
    | simp only [go_sem, Nat.reduceAdd, Nat.reduceSub, Nat.reduceMul, Nat.reduceLT, Nat.reduceLeDiff, Nat.reduceEqDiff, Nat.reduceBEq, Nat.reduceBNe, Nat.reducePow, Int.reduceEq, Int.reduceNe, Int.reduceLT, Int.reduceLE, Int.reduceGT, Int.reduceGE, Int.reduceAdd, Int.reduceSub, Int.reduceNeg, Int.reduceMul, not_true_eq_false, not_false_eq_true, true_and, and_true, Int.reduceToNat]
    | (intro _)
    | refine brK_dec (fun _ => ?_) (fun _ => ?_)
    | refine brK_any ?_ ?_
    | refine gK_dec (fun _ => ?_) (fun _ => ?_)
    | refine gK_any ?_ ?_
    | refine gqK_dec (fun _ => ?_) (fun _ => ?_)
    | refine ⟨by omega, ?_⟩
    | refine elemHave (by omega) (by assumption) ?_
    | refine elemMap (by omega) (by omega) (fun x hx => ?_)
    | refine drawK mo (by kernel_rfl) ?_
    | (simp only [go_sem, Nat.reduceAdd, Nat.reduceSub, Nat.reduceMul, Nat.reduceLT, Nat.reduceLeDiff, Nat.reduceEqDiff, Nat.reduceBEq, Nat.reduceBNe, Nat.reducePow, Int.reduceEq, Int.reduceNe, Int.reduceLT, Int.reduceLE, Int.reduceGT, Int.reduceGE, Int.reduceAdd, Int.reduceSub, Int.reduceNeg, Int.reduceMul, not_true_eq_false, not_false_eq_true, true_and, and_true, Int.reduceToNat, at_app0])
    | (rw [NoW.done hpi (by rw [List.length_map]; omega)] at hK; exact finH0 _ rfl (.raw _) hK)
    | (rw [waits_yes (map_some hq) hpx (mem_eq hx (by assumption))] at hK; exact finH0 _ rfl (.raw _) hK)
    | ((fail_if_success (clear hq)); obtain ⟨q, hq⟩ : ∃ q, f.Eqs[((i : Nat) : Int).toNat]? = some q := ⟨_, List.getElem?_eq_getElem (by rw [Int.toNat_natCast]; omega)⟩; have hpx : pl[i]? = some pl[i] := List.getElem?_eq_getElem (by omega); generalize pl[i] = b at hpx; cases b)
    | (simp only [go_sem, Nat.reduceAdd, Nat.reduceSub, Nat.reduceMul, Nat.reduceLT, Nat.reduceLeDiff, Nat.reduceEqDiff, Nat.reduceBEq, Nat.reduceBNe, Nat.reducePow, Int.reduceEq, Int.reduceNe, Int.reduceLT, Int.reduceLE, Int.reduceGT, Int.reduceGE, Int.reduceAdd, Int.reduceSub, Int.reduceNeg, Int.reduceMul, not_true_eq_false, not_false_eq_true, true_and, and_true, Int.reduceToNat, at_old hb, Nat.zero_add, Nat.mul_one, Int.toNat_natCast, dropB hpx])
    | exact loopFrH _ (by omega) ⟨i + 1, by omega, rfl, NoW.step hpi (map_some hq) (not_take hpj (by omega)), rfl⟩ (.next rfl (by omega) .nil) rfl
    | (refine loop_frH [6, 7, 8, 9, 10, 11, 12, 13, 14, 15, 16, 17, 18, 19, 20, 21, 22, 23, 24, 25, 26, 27, 28, 29, 30, 31, 32, 33, 34, 35, 36, 37, 38, 39, 40, 41, 42, 43, 44] (fun mm_ CC_ => ∃ (i : Nat), i ≤ f.Eqs.length ∧ mm_ = f.Eqs.length - i ∧ (NoW (namesC f) pl s i) ∧ CC_ = [(7, .raw (.int .i64 ((i : Nat) : Int)))]) (f.Eqs.length) _ ⟨0, by omega, by omega, NoW.zero, rfl⟩ (.cons rfl .nil) ?_; rintro mm_ CC_ ji ⟨i, hi, rfl, hpi, rfl⟩)
    | exact loopFrH _ (by omega) ⟨j + 1, by omega, rfl, (by first | exact not_step hpj (by assumption) (fun _ => by assumption) | exact fun h => absurd (hpx.symm.trans h) (by simp)), rfl⟩ (.next rfl (by omega) .nil) rfl
    | (refine loop_frH [6, 8, 16, 17, 18, 19, 20, 21, 22, 23, 24, 25, 26, 27, 28, 29, 30, 31, 32, 33, 34, 35, 36, 37, 38, 39, 40, 41, 42, 43, 44] (fun mm_ CC_ => ∃ (j : Nat), j ≤ q.Names.length ∧ mm_ = q.Names.length - j ∧ (pl[i]? = some false → s ∉ q.Names.take j) ∧ CC_ = [(8, .raw (.int .i64 ((j : Nat) : Int)))]) (q.Names.length) _ ⟨0, by omega, by omega, by simp, rfl⟩ (.cons rfl .nil) ?_; rintro mm_ CC_ jj ⟨j, hj, rfl, hpj, rfl⟩)
theorem n88 : (Try.f88.name == "runtime.NumGoroutine") = false := by kernel_rfl
theorem ready88 (f : DNode) (hf : okC f) (pl : List Bool) (i : Nat) (hl : pl.length = f.Eqs.length) (hi : i < f.Eqs.length) {h : List Blk} {k : Nat} {K : AV → List Blk → Prop} (hb : blkCells h k = some (pl.map AV.b)) (hK : K (.b (readyF (namesC f) (hangsC f) pl i)) h) :
    ACall Try.prog 88 [f.enc, .sl 1 k 0 pl.length, .i (i : Int)] h K := by
  obtain ⟨t, hb'⟩ := blk_at hb
  obtain ⟨q, hq⟩ : ∃ q, f.Eqs[((i : Nat) : Int).toNat]? = some q := ⟨_, List.getElem?_eq_getElem (by rw [Int.toNat_natCast]; omega)⟩
  have hpx : pl[i]? = some pl[i] := List.getElem?_eq_getElem (by omega)
  generalize pl[i] = b at hpx
  have hh : (hangsC f)[i]? = some (hangsF f q) := map_some hq
  refine acall_of_vc tabOK Try.func88 n88 rfl (n := 30) rfl (rs := [.tmp 6]) rfl ?_
  simp only [go_sem, Nat.reduceAdd, Nat.reduceSub, Nat.reduceMul, Nat.reduceLT, Nat.reduceLeDiff, Nat.reduceEqDiff, Nat.reduceBEq, Nat.reduceBNe, Nat.reducePow, Int.reduceEq, Int.reduceNe, Int.reduceLT, Int.reduceLE, Int.reduceGT, Int.reduceGE, Int.reduceAdd, Int.reduceSub, Int.reduceNeg, Int.reduceMul, not_true_eq_false, not_false_eq_true, true_and, and_true, Int.reduceToNat]
  repeat' first
    | exact finB rfl
    | exact finI rfl
    | exact finP rfl
    | exact absurd rfl (by assumption)
    | simp only [go_sem, Nat.reduceAdd, Nat.reduceSub, Nat.reduceMul, Nat.reduceLT, Nat.reduceLeDiff, Nat.reduceEqDiff, Nat.reduceBEq, Nat.reduceBNe, Nat.reducePow, Int.reduceEq, Int.reduceNe, Int.reduceLT, Int.reduceLE, Int.reduceGT, Int.reduceGE, Int.reduceAdd, Int.reduceSub, Int.reduceNeg, Int.reduceMul, not_true_eq_false, not_false_eq_true, true_and, and_true, Int.reduceToNat]
    | (intro _)
    | refine brK_dec (fun _ => ?_) (fun _ => ?_)
    | refine brK_any ?_ ?_
    | refine gK_dec (fun _ => ?_) (fun _ => ?_)
    | refine gK_any ?_ ?_
    | refine gqK_dec (fun _ => ?_) (fun _ => ?_)
    | refine ⟨by omega, ?_⟩
    | refine elemHave (by omega) (by assumption) ?_
    | refine elemMap (by omega) (by omega) (fun x hx => ?_)
    | refine drawK mo (by kernel_rfl) ?_
    | (simp only [go_sem, Nat.reduceAdd, Nat.reduceSub, Nat.reduceMul, Nat.reduceLT, Nat.reduceLeDiff, Nat.reduceEqDiff, Nat.reduceBEq, Nat.reduceBNe, Nat.reducePow, Int.reduceEq, Int.reduceNe, Int.reduceLT, Int.reduceLE, Int.reduceGT, Int.reduceGE, Int.reduceAdd, Int.reduceSub, Int.reduceNeg, Int.reduceMul, not_true_eq_false, not_false_eq_true, true_and, and_true, Int.reduceToNat, at_app0])
    | (refine PCall.call (hangs125 f i q hq (hf.hang hq)) ?_)
    | (refine pcK_ofR (v := .b (waitsF (namesC f) pl x)) (fun h9 K9 hm9 hk9 => waits126 f pl x hl (hm9.cells (blk_app hb)) hk9) ?_; generalize hw : waitsF (namesC f) pl x = w; cases w)
    | (rw [ready_wait hh (List.mem_of_getElem? hx) hw] at hK; exact finH0 _ rfl (.raw _) hK)
    | (simp only [go_sem, Nat.reduceAdd, Nat.reduceSub, Nat.reduceMul, Nat.reduceLT, Nat.reduceLeDiff, Nat.reduceEqDiff, Nat.reduceBEq, Nat.reduceBNe, Nat.reducePow, Int.reduceEq, Int.reduceNe, Int.reduceLT, Int.reduceLE, Int.reduceGT, Int.reduceGE, Int.reduceAdd, Int.reduceSub, Int.reduceNeg, Int.reduceMul, not_true_eq_false, not_false_eq_true, true_and, and_true, Int.reduceToNat, at_old hb', Nat.zero_add, Nat.mul_one, Int.toNat_natCast, dropB hpx])
    | (rw [ready_not hpx] at hK; exact finH0 _ rfl (.raw _) hK)
    | (rw [ready_yes hpx hh (take_full hpj (by omega))] at hK; exact finH0 _ rfl (.raw _) hK)
    | exact loopFrH _ (by omega) ⟨j + 1, by omega, rfl, take_all hpj (by simpa using hx) hw, rfl⟩ (.next rfl (by omega) .nil) rfl
    | (refine loop_frH [6, 8, 12, 13, 14, 15, 16, 17, 18, 19, 20, 21, 22, 23, 24] (fun mm_ CC_ => ∃ (j : Nat), j ≤ (hangsF f q).length ∧ mm_ = (hangsF f q).length - j ∧ (∀ s ∈ (hangsF f q).take j, waitsF (namesC f) pl s = false) ∧ CC_ = [(8, .raw (.int .i64 ((j : Nat) : Int)))]) ((hangsF f q).length) _ ⟨0, by omega, by omega, by simp, rfl⟩ (.cons rfl .nil) ?_; rintro mm_ CC_ jj ⟨j, hj, rfl, hpj, rfl⟩)
    | (cases b)
theorem ready88' (f : DNode) (hf : okC f) (pl : List Bool) (i : Nat) (n : Nat) (hn : n = pl.length) (hl : pl.length = f.Eqs.length) (hi : i < f.Eqs.length) {h : List Blk} {k : Nat} {K : AV → List Blk → Prop} (hb : blkCells h k = some (pl.map AV.b)) (hK : K (.b (readyF (namesC f) (hangsC f) pl i)) h) :
    ACall Try.prog 88 [f.enc, .sl 1 k 0 n, .i (i : Int)] h K := by subst hn; exact ready88 f hf pl i hl hi hb hK

theorem toNatE {a : Int} (_ : -1 ≤ a) (h' : a ≥ 0) : ∃ i : Nat, a = i := ⟨a.toNat, by omega⟩
abbrev nodeB2 (f : DNode) : Blk := .cells 42 [.s f.Name, .lst 6 (f.Ins.map DDecl.enc) none, .lst 6 (f.Outs.map DDecl.enc) none, .lst 6 (f.Vars.map DDecl.enc) none, .lst 7 (f.Eqs.map DEq.enc) none]
theorem n40 : (Try.f40.name == "runtime.NumGoroutine") = false := by kernel_rfl
theorem order40 (f : DNode) (hf : okC f) : PCall Try.prog 40 [f.enc] (orderA (orderF (namesC f) (hangsC f))) := by
  have hn := hf.1
  have hN := len_namesC f
  generalize hR : orderF (namesC f) (hangsC f) = R
  refine pcall_of_vc tabOK Try.func40 n40 rfl (by repeat' first | exact pure_nil | refine pure_cons ?_ ?_ | exact .raw _ | exact pure_enc _ | exact pure_lst _ | exact pure_strs _ | exact pure_ints _ | exact DTy.pure _ | exact DTy.pures _ | exact DEnum.pure _ | exact DEnum.pures _ | exact DDecl.pure _ | exact DDecl.pures _ | exact DEq.pure _ | exact DEq.pures _ | exact DNode.pure _ | exact DNode.pures _ | exact DProg.pure _ | exact DProg.pures _ | exact DCond.pure _ | exact DCond.pures _ | exact DAtom.pure _ | exact DAtom.pures _ | exact DPlain.pure _ | exact DPlain.pures _ | exact DVar.pure _ | exact DVar.pures _ | exact DFlow.pure _ | exact DFlow.pures _ | exact DFlows.pure _ | exact DFlows.pures _ | exact DAsked.pure _ | exact DAsked.pures _ | exact DFault.pure _ | exact DFault.pures _ | exact DCell.pure _ | exact DCell.pures _ | exact DReply.pure _ | exact DReply.pures _ | exact DAsk.pure _ | exact DAsk.pures _ | exact DOp.pure _ | exact DOp.pures _ | exact pure_list (fun x => DDecl.pures x) _ | exact .fn _ _ _ pure_nil pure_nil | refine .agg _ ?_ | refine .tup _ ?_ | assumption) (pure_orderA _) (n := 43) rfl (rs := [.tmp 2, .tmp 3]) rfl ?_
  simp only [go_sem, Nat.reduceAdd, Nat.reduceSub, Nat.reduceMul, Nat.reduceLT, Nat.reduceLeDiff, Nat.reduceEqDiff, Nat.reduceBEq, Nat.reduceBNe, Nat.reducePow, Int.reduceEq, Int.reduceNe, Int.reduceLT, Int.reduceLE, Int.reduceGT, Int.reduceGE, Int.reduceAdd, Int.reduceSub, Int.reduceNeg, Int.reduceMul, not_true_eq_false, not_false_eq_true, true_and, and_true, Int.reduceToNat]
  intro _
  refine ⟨by omega, ?_⟩
  simp only [Int.toNat_natCast]
  refine loop_fr [2, 3, 5, 6, 7, 13, 14, 15, 16, 17, 18, 19, 20, 21, 22, 23, 24, 25, 26, 27, 28, 29, 30, 31, 32, 33, 34, 35, 36, 37, 38, 39, 40, 41] (fun m C hh => ∃ (pl : List Bool) (out : List Nat) (r : List Blk), pl.length = f.Eqs.length ∧ out.length ≤ f.Eqs.length ∧ m = f.Eqs.length - out.length ∧ orderG (namesC f) (hangsC f) (f.Eqs.length - out.length) pl out = R ∧
    C = [(5, .lst 1 (out.map AV.n) (some 2))] ∧ hh = nodeB2 f :: .cells 4 (pl.map AV.b) :: .tok 3 1 out.length :: r) (f.Eqs.length) _
    ⟨List.replicate f.Eqs.length false, [], [], by simp, by simp, by simp, by rw [← hR, orderF, hN]; rfl, rfl, by simp⟩ (.cons rfl .nil) ?_
  rintro m C jo hh ⟨pl, out, r, hl, hol, rfl, hG, rfl, rfl⟩
  repeat' first
    | exact finB rfl
    | exact finI rfl
    | exact finP rfl
    | exact absurd rfl (by assumption)
    | simp only [go_sem, Nat.reduceAdd, Nat.reduceSub, Nat.reduceMul, Nat.reduceLT, Nat.reduceLeDiff, Nat.reduceEqDiff, Nat.reduceBEq, Nat.reduceBNe, Nat.reducePow, Int.reduceEq, Int.reduceNe, Int.reduceLT, Int.reduceLE, Int.reduceGT, Int.reduceGE, Int.reduceAdd, Int.reduceSub, Int.reduceNeg, Int.reduceMul, not_true_eq_false, not_false_eq_true, true_and, and_true, Int.reduceToNat]
    | (intro _)
    | refine brK_dec (fun _ => ?_) (fun _ => ?_)
    | refine brK_any ?_ ?_
    | refine gK_dec (fun _ => ?_) (fun _ => ?_)
    | refine gK_any ?_ ?_
    | refine gqK_dec (fun _ => ?_) (fun _ => ?_)
    | refine ⟨by omega, ?_⟩
    | refine elemHave (by omega) (by assumption) ?_
    | refine elemMap (by omega) (by omega) (fun x hx => ?_)
    | refine drawK mo (by kernel_rfl) ?_
    | (rw [wrap_in _ (by omega) (by omega)])
    | (refine loop_frH [6, 7, 23, 24, 25, 26, 27, 28, 29, 30, 31] (fun m C => ∃ a b : Int, a < f.Eqs.length ∧ -1 ≤ a ∧ m = (a + 1).toNat ∧ okDn (namesC f) (hangsC f) pl a b ∧ C = [(7, .i a), (6, .i b)]) f.Eqs.length _ ⟨(f.Eqs.length : Int) - 1, -1, by omega, by omega, by omega, by rw [← hN]; exact okDn.zero, rfl⟩ (.cons rfl (.cons rfl .nil)) ?_; rintro m C ji ⟨a, b, ha1, ha2, rfl, hab, rfl⟩)
    | ((fail_if_success (clear hai)); have hgo := toNatE ha2 (by assumption); obtain ⟨i, rfl⟩ := hgo; have hai : True := trivial)
    | (refine ready88' f hf pl i _ hl.symm hl (by omega) (k := 1) rfl ?_; generalize hw : readyF (namesC f) (hangsC f) pl i = w; cases w)
    | (exact loopFrH _ (by omega) ⟨(i : Int) - 1, i, by omega, by omega, rfl, hab.hit rfl (by omega) hw, rfl⟩ (.cons (by first | rfl | rw [wrap_in _ (by omega) (by omega)]) (.cons rfl .nil)) rfl)
    | (exact loopFrH _ (by omega) ⟨(i : Int) - 1, b, by omega, by omega, rfl, hab.miss rfl hw, rfl⟩ (.cons (by first | rfl | rw [wrap_in _ (by omega) (by omega)]) (.cons rfl .nil)) rfl)
    | (rw [order_none (hab.none_ (by assumption) (by assumption)) (by omega)] at hG; rw [← hG]; exact ⟨_, rfl, false, weak_order _ _ _⟩)
    | ((fail_if_success (clear hpk)); have hgot := hab.got (by assumption) (by assumption); obtain ⟨k, rfl, hk, hp, hpk⟩ := hgot; rw [hN] at hk; have hkl : (k + 1 ≤ pl.length) = True := eq_true (by omega))
    | (simp only [go_sem, Nat.reduceAdd, Nat.reduceSub, Nat.reduceMul, Nat.reduceLT, Nat.reduceLeDiff, Nat.reduceEqDiff, Nat.reduceBEq, Nat.reduceBNe, Nat.reducePow, Int.reduceEq, Int.reduceNe, Int.reduceLT, Int.reduceLE, Int.reduceGT, Int.reduceGE, Int.reduceAdd, Int.reduceSub, Int.reduceNeg, Int.reduceMul, not_true_eq_false, not_false_eq_true, true_and, and_true, Int.reduceToNat, Nat.zero_add, Nat.mul_one, Int.toNat_natCast, List.length_map, hkl, set_b'])
    | (refine ⟨by simp; omega, ?_⟩)
    | (rw [order_some hp (by omega)] at hG; refine loopFr (f.Eqs.length - (out.length + 1)) (by omega) ⟨pl.set k true, out ++ [k], r ++ [.tok 3 1 1], by simpa using hl, by simp; omega, by simp, by rw [← hG, Nat.sub_sub]; simp, rfl, ?_⟩ (.cons ?_ .nil) rfl <;> (simp; done))
    | (rw [show f.Eqs.length - out.length = 0 by omega] at hG; rw [← hG]; exact ⟨_, rfl, false, weak_order _ _ _⟩)
    | (exfalso; omega)
end Go.Proofs.Ytfjjckaiopbbkaa
