import Derived.Test.YtfjjckaiopbbkaaOrdKit
import Derived.Test.YtfjjckaiopbbkaaClock
import Derived.Test.YtfjjckaiopbbkaaReads3
namespace Go.Proofs.Ytfjjckaiopbbkaa
open Go.Abs
set_option maxRecDepth 20000
set_option linter.unusedSimpArgs false
set_option linter.unusedVariables false
set_option maxHeartbeats 1000000
attribute [local irreducible] vc vcOps vcStep vcGuard prK hrK gK gsK brK callK ElemK SeqK BlockK ScopeK OpsK CallK LoopK LoopGo finPost ACall PCall PCallE BCall vqOps vqStep vqGuard qrK heK pcK gqK gqsK QOpsK qcallK DrawK
def hangsF (n : DNode) (q : DEq) : List ByteArray := readsF q.E ++ (match q.Names with | [] => [] | s :: _ => (clock n s).1.map DDecl.On)
theorem clk_len (n : DNode) : ∀ (k : Nat) (s : ByteArray) (acc : List DDecl), (clk n k s acc).1.length ≤ acc.length + k
  | 0, _, _ => by simp [clk]
  | k + 1, s, acc => by
    rw [clk_succ]
    split
    · split
      · dsimp only; omega
      · have := clk_len n k (decl n s).1.On ((decl n s).1 :: acc)
        simp only [List.length_cons] at this
        omega
    · simp
theorem clock_len (n : DNode) (s : ByteArray) : (clock n s).1.length ≤ 13 := by
  have := clk_len n 13 s []
  simpa [clock] using this
def okH (n : DNode) (q : DEq) : Prop := (readsF q.E).length ≤ 100000 ∧ (allV n).length ≤ 4294967296
theorem hangs_le {n : DNode} {q : DEq} (h : okH n q) : (hangsF n q).length ≤ 100013 := by
  have h1 := h.1
  unfold hangsF
  rw [List.length_append]
  cases q.Names with
  | nil => simp; omega
  | cons s l =>
    have := clock_len n s
    simp only [List.length_map]
    omega
theorem on_take {l : List DDecl} {A acc : List ByteArray} {i : Nat} {x : DDecl} (h : acc = A ++ (l.take i).map DDecl.On ∧ acc.length ≤ A.length + i) (hx : l[((i : Nat) : Int).toNat]? = some x) : acc ++ [x.On] = A ++ (l.take (i + 1)).map DDecl.On ∧ (acc ++ [x.On]).length ≤ A.length + (i + 1) := by
  refine ⟨?_, by have := h.2; simp; omega⟩
  rw [take_mapS hx, ← List.append_assoc, ← h.1]
theorem on_done {l : List DDecl} {A acc : List ByteArray} {i : Nat} (h : acc = A ++ (l.take i).map DDecl.On ∧ acc.length ≤ A.length + i) (hi : ¬ (i : Int) < l.length) : A ++ l.map DDecl.On = acc := by
  rw [h.1, List.take_of_length_le (by omega)]

theorem n123 : (Try.f123.name == "runtime.NumGoroutine") = false := by kernel_rfl
theorem hangs123 (n : DNode) (q : DEq) (hl : okH n q) : PCall Try.prog 123 [n.enc, q.enc] (.lst 1 ((hangsF n q).map AV.s) none) := by
  refine pcall_of_vc tabOK Try.func123 n123 rfl (by repeat' first | exact pure_nil | refine pure_cons ?_ ?_ | exact .raw _ | exact pure_enc _ | exact pure_lst _ | exact pure_strs _ | exact pure_ints _ | exact DTy.pure _ | exact DTy.pures _ | exact DEnum.pure _ | exact DEnum.pures _ | exact DDecl.pure _ | exact DDecl.pures _ | exact DEq.pure _ | exact DEq.pures _ | exact DNode.pure _ | exact DNode.pures _ | exact DProg.pure _ | exact DProg.pures _ | exact DCond.pure _ | exact DCond.pures _ | exact DAtom.pure _ | exact DAtom.pures _ | exact DPlain.pure _ | exact DPlain.pures _ | exact DVar.pure _ | exact DVar.pures _ | exact DFlow.pure _ | exact DFlow.pures _ | exact DFlows.pure _ | exact DFlows.pures _ | exact DAsked.pure _ | exact DAsked.pures _ | exact DFault.pure _ | exact DFault.pures _ | exact DCell.pure _ | exact DCell.pures _ | exact DReply.pure _ | exact DReply.pures _ | exact DAsk.pure _ | exact DAsk.pures _ | exact DOp.pure _ | exact DOp.pures _ | exact pure_list (fun x => DDecl.pures x) _ | exact .fn _ _ _ pure_nil pure_nil | refine .agg _ ?_ | refine .tup _ ?_ | assumption) (by repeat' first | exact pure_nil | refine pure_cons ?_ ?_ | exact .raw _ | exact pure_enc _ | exact pure_lst _ | exact pure_strs _ | exact pure_ints _ | exact DTy.pure _ | exact DTy.pures _ | exact DEnum.pure _ | exact DEnum.pures _ | exact DDecl.pure _ | exact DDecl.pures _ | exact DEq.pure _ | exact DEq.pures _ | exact DNode.pure _ | exact DNode.pures _ | exact DProg.pure _ | exact DProg.pures _ | exact DCond.pure _ | exact DCond.pures _ | exact DAtom.pure _ | exact DAtom.pures _ | exact DPlain.pure _ | exact DPlain.pures _ | exact DVar.pure _ | exact DVar.pures _ | exact DFlow.pure _ | exact DFlow.pures _ | exact DFlows.pure _ | exact DFlows.pures _ | exact DAsked.pure _ | exact DAsked.pures _ | exact DFault.pure _ | exact DFault.pures _ | exact DCell.pure _ | exact DCell.pures _ | exact DReply.pure _ | exact DReply.pures _ | exact DAsk.pure _ | exact DAsk.pures _ | exact DOp.pure _ | exact DOp.pures _ | exact pure_list (fun x => DDecl.pures x) _ | exact .fn _ _ _ pure_nil pure_nil | refine .agg _ ?_ | refine .tup _ ?_ | assumption) (n := 40) rfl (rs := [.tmp 4]) rfl ?_
  obtain ⟨Ns, E⟩ := q
  obtain ⟨hl, hn⟩ := hl
  rcases Ns with _ | ⟨s, ss⟩
  · repeat' first
    | exact finB rfl
    | exact finI rfl
    | exact finP rfl
    | exact absurd rfl (by assumption)
    | simp only [go_sem, Nat.reduceAdd, Nat.reduceSub, Nat.reduceMul, Nat.reduceLT, Nat.reduceLeDiff, Nat.reduceEqDiff, Nat.reduceBEq, Nat.reduceBNe, Nat.reducePow, Int.reduceEq, Int.reduceNe, Int.reduceLT, Int.reduceLE, Int.reduceGT, Int.reduceGE, Int.reduceAdd, Int.reduceSub, Int.reduceNeg, Int.reduceMul, not_true_eq_false, not_false_eq_true, true_and, and_true, Int.reduceToNat]
    | (intro _)
    | refine brK_dec (fun _ => ?_) (fun _ => ?_)
    | refine brK_any ?_ ?_
    | refine gK_dec (fun _ => ?_) (fun _ => ?_)
    | refine gK_any ?_ ?_
    | refine gqK_dec (fun _ => ?_) (fun _ => ?_)
    | refine ⟨by omega, ?_⟩
    | refine elemHave (by omega) (by assumption) ?_
    | refine elemMap (by omega) (by omega) (fun x hx => ?_)
    | refine drawK mo (by kernel_rfl) ?_
    | (refine reads42T E hl ?_)
    | (simp only [hangsF, List.append_nil]; exact ⟨_, rfl, false, .tok _ _ _⟩)
    | (exact absurd rfl (by assumption))
  · have hcl := clock_len n s
    have h21 := clock21 n s hn
    unfold hangsF
    dsimp only
    generalize clock n s = c at hcl h21 ⊢
    obtain ⟨l, ok⟩ := c
    dsimp only at hcl hl ⊢
    repeat' first
    | exact finB rfl
    | exact finI rfl
    | exact finP rfl
    | exact absurd rfl (by assumption)
    | simp only [go_sem, Nat.reduceAdd, Nat.reduceSub, Nat.reduceMul, Nat.reduceLT, Nat.reduceLeDiff, Nat.reduceEqDiff, Nat.reduceBEq, Nat.reduceBNe, Nat.reducePow, Int.reduceEq, Int.reduceNe, Int.reduceLT, Int.reduceLE, Int.reduceGT, Int.reduceGE, Int.reduceAdd, Int.reduceSub, Int.reduceNeg, Int.reduceMul, not_true_eq_false, not_false_eq_true, true_and, and_true, Int.reduceToNat]
    | (intro _)
    | refine brK_dec (fun _ => ?_) (fun _ => ?_)
    | refine brK_any ?_ ?_
    | refine gK_dec (fun _ => ?_) (fun _ => ?_)
    | refine gK_any ?_ ?_
    | refine gqK_dec (fun _ => ?_) (fun _ => ?_)
    | refine ⟨by omega, ?_⟩
    | refine elemHave (by omega) (by assumption) ?_
    | refine elemMap (by omega) (by omega) (fun x hx => ?_)
    | refine drawK mo (by kernel_rfl) ?_
    | (refine reads42T E hl ?_)
    | (exfalso; omega)
    | (refine elemK (AV.s s) (by omega) rfl ?_)
    | (refine pcK_of h21 ?_)
    | (simp only [map_snoc])
    | (refine ⟨by have := hpi.2; simp; omega, ?_⟩)
    | (rw [on_done hpi (by assumption)]; exact ⟨_, rfl, false, .tok _ _ _⟩)
    | exact loopFr _ (by omega) ⟨i + 1, acc ++ [x.On], b0, b1, _, by omega, rfl, on_take hpi (by assumption), rfl, (by first | rfl | (simp; done) | (simp; rfl))⟩ (.next rfl (by omega) (.cons (by first | rfl | (simp; done) | (simp; rfl)) .nil)) rfl
    | (refine loop_fr [5, 9, 29, 30, 31, 32, 33, 34, 35, 36, 37, 38] (fun mm_ CC_ hh_ => ∃ (i : Nat) (acc : List ByteArray) (b0 : Blk) (b1 : Blk) (r_ : List Blk), i ≤ l.length ∧ mm_ = l.length - i ∧ ((acc = readsF E ++ (l.take i).map DDecl.On ∧ acc.length ≤ (readsF E).length + i)) ∧ CC_ = [(29, .raw (.int .i64 ((i : Nat) : Int))), (5, .lst 1 (acc.map AV.s) (some 2))] ∧ hh_ = b0 :: b1 :: .tok 9 1 acc.length :: r_) (l.length) _ ⟨0, readsF E, _, _, _, by omega, by omega, ⟨by simp, by simp⟩, rfl, (by first | rfl | (simp; done) | (simp; rfl))⟩ (.cons (by first | rfl | (simp; done) | (simp; rfl)) (.cons (by first | rfl | (simp; done) | (simp; rfl)) .nil)) ?_; rintro mm_ CC_ ji hh_ ⟨i, acc, b0, b1, ri, hi, rfl, hpi, rfl, rfl⟩)

theorem n125 : (Try.f125.name == "runtime.NumGoroutine") = false := by kernel_rfl
theorem hangs125 (n : DNode) (i : Nat) (q : DEq) (hq : n.Eqs[((i : Nat) : Int).toNat]? = some q) (hl : okH n q) : PCall Try.prog 125 [n.enc, .i (i : Int)] (.lst 1 ((hangsF n q).map AV.s) none) := by
  obtain ⟨Ns, E⟩ := q
  obtain ⟨hl, hn⟩ := hl
  have hil : (i : Int) < n.Eqs.length := by
    obtain ⟨a, _⟩ := List.getElem?_eq_some_iff.1 hq
    rw [Int.toNat_natCast] at a; omega
  refine pcall_of_vc tabOK Try.func125 n125 rfl (by repeat' first | exact pure_nil | refine pure_cons ?_ ?_ | exact .raw _ | exact pure_enc _ | exact pure_lst _ | exact pure_strs _ | exact pure_ints _ | exact DTy.pure _ | exact DTy.pures _ | exact DEnum.pure _ | exact DEnum.pures _ | exact DDecl.pure _ | exact DDecl.pures _ | exact DEq.pure _ | exact DEq.pures _ | exact DNode.pure _ | exact DNode.pures _ | exact DProg.pure _ | exact DProg.pures _ | exact DCond.pure _ | exact DCond.pures _ | exact DAtom.pure _ | exact DAtom.pures _ | exact DPlain.pure _ | exact DPlain.pures _ | exact DVar.pure _ | exact DVar.pures _ | exact DFlow.pure _ | exact DFlow.pures _ | exact DFlows.pure _ | exact DFlows.pures _ | exact DAsked.pure _ | exact DAsked.pures _ | exact DFault.pure _ | exact DFault.pures _ | exact DCell.pure _ | exact DCell.pures _ | exact DReply.pure _ | exact DReply.pures _ | exact DAsk.pure _ | exact DAsk.pures _ | exact DOp.pure _ | exact DOp.pures _ | exact pure_list (fun x => DDecl.pures x) _ | exact .fn _ _ _ pure_nil pure_nil | refine .agg _ ?_ | refine .tup _ ?_ | assumption) (by repeat' first | exact pure_nil | refine pure_cons ?_ ?_ | exact .raw _ | exact pure_enc _ | exact pure_lst _ | exact pure_strs _ | exact pure_ints _ | exact DTy.pure _ | exact DTy.pures _ | exact DEnum.pure _ | exact DEnum.pures _ | exact DDecl.pure _ | exact DDecl.pures _ | exact DEq.pure _ | exact DEq.pures _ | exact DNode.pure _ | exact DNode.pures _ | exact DProg.pure _ | exact DProg.pures _ | exact DCond.pure _ | exact DCond.pures _ | exact DAtom.pure _ | exact DAtom.pures _ | exact DPlain.pure _ | exact DPlain.pures _ | exact DVar.pure _ | exact DVar.pures _ | exact DFlow.pure _ | exact DFlow.pures _ | exact DFlows.pure _ | exact DFlows.pures _ | exact DAsked.pure _ | exact DAsked.pures _ | exact DFault.pure _ | exact DFault.pures _ | exact DCell.pure _ | exact DCell.pures _ | exact DReply.pure _ | exact DReply.pures _ | exact DAsk.pure _ | exact DAsk.pures _ | exact DOp.pure _ | exact DOp.pures _ | exact pure_list (fun x => DDecl.pures x) _ | exact .fn _ _ _ pure_nil pure_nil | refine .agg _ ?_ | refine .tup _ ?_ | assumption) (n := 47) rfl (rs := [.tmp 4]) rfl ?_
  rcases Ns with _ | ⟨s, ss⟩
  · repeat' first
    | exact finB rfl
    | exact finI rfl
    | exact finP rfl
    | exact absurd rfl (by assumption)
    | simp only [go_sem, Nat.reduceAdd, Nat.reduceSub, Nat.reduceMul, Nat.reduceLT, Nat.reduceLeDiff, Nat.reduceEqDiff, Nat.reduceBEq, Nat.reduceBNe, Nat.reducePow, Int.reduceEq, Int.reduceNe, Int.reduceLT, Int.reduceLE, Int.reduceGT, Int.reduceGE, Int.reduceAdd, Int.reduceSub, Int.reduceNeg, Int.reduceMul, not_true_eq_false, not_false_eq_true, true_and, and_true, Int.reduceToNat]
    | (intro _)
    | refine brK_dec (fun _ => ?_) (fun _ => ?_)
    | refine brK_any ?_ ?_
    | refine gK_dec (fun _ => ?_) (fun _ => ?_)
    | refine gK_any ?_ ?_
    | refine gqK_dec (fun _ => ?_) (fun _ => ?_)
    | refine ⟨by omega, ?_⟩
    | refine elemHave (by omega) (by assumption) ?_
    | refine elemMap (by omega) (by omega) (fun x hx => ?_)
    | refine drawK mo (by kernel_rfl) ?_
    | (refine reads43T E hl ?_)
    | (simp only [hangsF, List.append_nil]; exact ⟨_, rfl, false, .tok _ _ _⟩)
    | (exact absurd rfl (by assumption))
  · have hcl := clock_len n s
    have h22 := clock22 n s hn
    unfold hangsF
    dsimp only
    generalize clock n s = c at hcl h22 ⊢
    obtain ⟨l, ok⟩ := c
    dsimp only at hcl hl ⊢
    repeat' first
    | exact finB rfl
    | exact finI rfl
    | exact finP rfl
    | exact absurd rfl (by assumption)
    | simp only [go_sem, Nat.reduceAdd, Nat.reduceSub, Nat.reduceMul, Nat.reduceLT, Nat.reduceLeDiff, Nat.reduceEqDiff, Nat.reduceBEq, Nat.reduceBNe, Nat.reducePow, Int.reduceEq, Int.reduceNe, Int.reduceLT, Int.reduceLE, Int.reduceGT, Int.reduceGE, Int.reduceAdd, Int.reduceSub, Int.reduceNeg, Int.reduceMul, not_true_eq_false, not_false_eq_true, true_and, and_true, Int.reduceToNat]
    | (intro _)
    | refine brK_dec (fun _ => ?_) (fun _ => ?_)
    | refine brK_any ?_ ?_
    | refine gK_dec (fun _ => ?_) (fun _ => ?_)
    | refine gK_any ?_ ?_
    | refine gqK_dec (fun _ => ?_) (fun _ => ?_)
    | refine ⟨by omega, ?_⟩
    | refine elemHave (by omega) (by assumption) ?_
    | refine elemMap (by omega) (by omega) (fun x hx => ?_)
    | refine drawK mo (by kernel_rfl) ?_
    | (refine reads43T E hl ?_)
    | (exfalso; omega)
    | (refine elemK (AV.s s) (by omega) rfl ?_)
    | (refine pcK_of h22 ?_)
    | (simp only [map_snoc])
    | (refine ⟨by have := hpj.2; simp; omega, ?_⟩)
    | (rw [on_done hpj (by assumption)]; exact ⟨_, rfl, false, .tok _ _ _⟩)
    | exact loopFr _ (by omega) ⟨j + 1, acc ++ [x.On], b0, b1, _, by omega, rfl, on_take hpj (by assumption), rfl, (by first | rfl | (simp; done) | (simp; rfl))⟩ (.next rfl (by omega) (.cons (by first | rfl | (simp; done) | (simp; rfl)) .nil)) rfl
    | (refine loop_fr [6, 9, 32, 33, 34, 35, 36, 37, 38, 39, 40, 41, 42, 43, 44, 45] (fun mm_ CC_ hh_ => ∃ (j : Nat) (acc : List ByteArray) (b0 : Blk) (b1 : Blk) (r_ : List Blk), j ≤ l.length ∧ mm_ = l.length - j ∧ ((acc = readsF E ++ (l.take j).map DDecl.On ∧ acc.length ≤ (readsF E).length + j)) ∧ CC_ = [(9, .raw (.int .i64 ((j : Nat) : Int))), (6, .lst 1 (acc.map AV.s) (some 2))] ∧ hh_ = b0 :: b1 :: .tok 9 1 acc.length :: r_) (l.length) _ ⟨0, readsF E, _, _, _, by omega, by omega, ⟨by simp, by simp⟩, rfl, (by first | rfl | (simp; done) | (simp; rfl))⟩ (.cons (by first | rfl | (simp; done) | (simp; rfl)) (.cons (by first | rfl | (simp; done) | (simp; rfl)) .nil)) ?_; rintro mm_ CC_ jj hh_ ⟨j, acc, b0, b1, rj, hj, rfl, hpj, rfl, rfl⟩)
end Go.Proofs.Ytfjjckaiopbbkaa
