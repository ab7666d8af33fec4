import Derived.Test.YtfjjckaiopbbkaaSched2
namespace Go.Proofs.Ytfjjckaiopbbkaa
open Go.Abs
set_option maxRecDepth 20000
set_option linter.unusedSimpArgs false
set_option linter.unusedVariables false
set_option maxHeartbeats 1000000
attribute [local irreducible] vc vcOps vcStep vcGuard prK hrK gK gsK brK callK ElemK SeqK BlockK ScopeK OpsK CallK LoopK LoopGo finPost ACall PCall PCallE BCall vqOps vqStep vqGuard qrK heK pcK gqK gqsK QOpsK qcallK DrawK
def addF (acc : List ByteArray) (m : ByteArray) : List ByteArray := if m = ⟨#[]⟩ then acc else acc ++ [m]
theorem addF_filt (l : List ByteArray) (m : ByteArray) : (l ++ [m]).filter (fun s => decide (¬ s = ⟨#[]⟩)) = addF (l.filter (fun s => decide (¬ s = ⟨#[]⟩))) m := by
  unfold addF
  rw [List.filter_append]
  by_cases e : m = ⟨#[]⟩
  · simp [e]
  · simp [e]
theorem addF_le (l : List ByteArray) (m : ByteArray) : (addF l m).length ≤ l.length + 1 := by unfold addF; split <;> simp
def okN (q : DPlain) (i : Nat) (acc : List ByteArray) : Prop := acc = (if q.Kind = 5 then [] else (q.Args.take i).map DAtom.Var).filter (fun s => decide (¬ s = ⟨#[]⟩)) ∧ acc.length ≤ i
theorem okN.zero {q : DPlain} : okN q 0 [] := ⟨by simp, by simp⟩
theorem okN.next {q : DPlain} {i : Nat} {acc : List ByteArray} {x : DAtom} (h : okN q i acc) (hk : ¬ q.Kind = 5) (hx : q.Args[((i : Nat) : Int).toNat]? = some x) : okN q (i + 1) (addF acc x.Var) := by
  obtain ⟨h1, h2⟩ := h
  refine ⟨?_, by have := addF_le acc x.Var; omega⟩
  rw [if_neg hk] at h1 ⊢
  rw [take_mapS hx, addF_filt, h1]
theorem okN.skip {q : DPlain} {i : Nat} {acc : List ByteArray} (h : okN q i acc) (hk : ¬ q.Kind ≠ 5) : okN q (i + 1) acc := by
  obtain ⟨h1, h2⟩ := h
  have hk' : q.Kind = 5 := by omega
  refine ⟨?_, by omega⟩
  rw [if_pos hk'] at h1 ⊢
  exact h1
theorem okN.done {q : DPlain} {i : Nat} {acc : List ByteArray} (h : okN q i acc) (hi : ¬ (i : Int) < q.Args.length) : acc = (argsP q).filter (fun s => decide (¬ s = ⟨#[]⟩)) := by
  rw [h.1, List.take_of_length_le (by omega)]
  rfl
def okM (q : DPlain) (j : Nat) (acc : List ByteArray) : Prop := acc = (argsP q ++ ((if q.Reset = true then [q.Every.Var] else []) ++ (q.On.take j).map DCond.Var)).filter (fun s => decide (¬ s = ⟨#[]⟩)) ∧ acc.length ≤ q.Args.length + 1 + j
theorem okM.zeroT {q : DPlain} {i : Nat} {acc : List ByteArray} (h : okN q i acc) (hi : i ≤ q.Args.length) (he : ¬ (i : Int) < q.Args.length) (hr : q.Reset = true) : okM q 0 (addF acc q.Every.Var) := by
  refine ⟨?_, by have := addF_le acc q.Every.Var; have := h.2; omega⟩
  rw [h.done he, if_pos hr, ← addF_filt]; simp
theorem okM.zeroF {q : DPlain} {i : Nat} {acc : List ByteArray} (h : okN q i acc) (hi : i ≤ q.Args.length) (he : ¬ (i : Int) < q.Args.length) (hr : q.Reset = false) : okM q 0 acc := by
  refine ⟨?_, by have := h.2; omega⟩
  rw [h.done he, hr]; simp
theorem okM.next {q : DPlain} {i : Nat} {acc : List ByteArray} {x : DCond} (h : okM q i acc) (hx : q.On[((i : Nat) : Int).toNat]? = some x) : okM q (i + 1) (addF acc x.Var) := by
  refine ⟨?_, by have := addF_le acc x.Var; have := h.2; omega⟩
  rw [take_mapS hx, h.1, ← addF_filt]
  simp [List.append_assoc]
theorem okM.done {q : DPlain} {i : Nat} {acc : List ByteArray} (h : okM q i acc) (hi : ¬ (i : Int) < q.On.length) : readsP q = acc := by
  rw [h.1, List.take_of_length_le (by omega)]
  rfl

abbrev accB (acc : List ByteArray) : Blk := .cells 22 [.lst 1 (acc.map AV.s) (some 2)]
theorem n140 : (Try.f140.name == "runtime.NumGoroutine") = false := by kernel_rfl
theorem need140 (m : ByteArray) (b0 : Blk) (acc : List ByteArray) (r : List Blk) {K : AV → List Blk → Prop} (hl : acc.length ≤ 1000000) (hK : ∀ r', K (.tup []) (b0 :: accB (addF acc m) :: .tok 9 1 (addF acc m).length :: r')) :
    ACall Try.prog 140 [.s m, .ptr 1 0] (b0 :: accB acc :: .tok 9 1 acc.length :: r) K := by
  unfold addF at hK
  refine acallK_of_vc tabOK Try.func140 n140 rfl (n := 9) rfl (rs := []) rfl ?_
  repeat' first
    | exact finB rfl
    | exact finI rfl
    | exact finP rfl
    | exact absurd rfl (by assumption)
    | simp only [go_sem, Nat.reduceAdd, Nat.reduceSub, Nat.reduceMul, Nat.reduceLT, Nat.reduceLeDiff, Nat.reduceEqDiff, Nat.reduceBEq, Nat.reduceBNe, Nat.reducePow, Int.reduceEq, Int.reduceNe, Int.reduceLT, Int.reduceLE, Int.reduceGT, Int.reduceGE, Int.reduceAdd, Int.reduceSub, Int.reduceNeg, Int.reduceMul, not_true_eq_false, not_false_eq_true, true_and, and_true, Int.reduceToNat]
    | (intro _)
    | refine brK_dec (fun _ => ?_) (fun _ => ?_)
    | refine brK_any ?_ ?_
    | refine gK_dec (fun _ => ?_) (fun _ => ?_)
    | refine gK_any ?_ ?_
    | refine gqK_dec (fun _ => ?_) (fun _ => ?_)
    | refine ⟨by omega, ?_⟩
    | refine elemHave (by omega) (by assumption) ?_
    | refine elemMap (by omega) (by omega) (fun x hx => ?_)
    | refine drawK mo (by kernel_rfl) ?_
    | (simp only [map_snoc])
    | (refine ⟨⟨by simp, by simp; omega⟩, ?_⟩)
    | (refine ⟨by simp; omega, ?_⟩)
    | (rw [if_neg (by assumption)] at hK; refine ⟨[], rfl, .tup [], .refl _, ?_⟩; have h9 := hK (r ++ [Blk.tok 9 1 1]); simpa [accB] using h9)
    | (rw [if_pos (Classical.not_not.1 (by assumption))] at hK; exact ⟨[], rfl, .tup [], .refl _, hK _⟩)

theorem n107 : (Try.f107.name == "runtime.NumGoroutine") = false := by kernel_rfl
theorem reads107 (q : DPlain) (hl : q.Args.length + q.On.length ≤ 100000) : PCall Try.prog 107 [q.enc] (.lst 1 ((readsP q).map AV.s) none) := by
  refine pcall_of_vc tabOK Try.func107 n107 rfl (by repeat' first | exact pure_nil | refine pure_cons ?_ ?_ | exact .raw _ | exact pure_enc _ | exact pure_lst _ | exact pure_strs _ | exact pure_ints _ | exact DTy.pure _ | exact DTy.pures _ | exact DEnum.pure _ | exact DEnum.pures _ | exact DDecl.pure _ | exact DDecl.pures _ | exact DEq.pure _ | exact DEq.pures _ | exact DNode.pure _ | exact DNode.pures _ | exact DProg.pure _ | exact DProg.pures _ | exact DCond.pure _ | exact DCond.pures _ | exact DAtom.pure _ | exact DAtom.pures _ | exact DPlain.pure _ | exact DPlain.pures _ | exact DVar.pure _ | exact DVar.pures _ | exact DFlow.pure _ | exact DFlow.pures _ | exact DFlows.pure _ | exact DFlows.pures _ | exact DAsked.pure _ | exact DAsked.pures _ | exact DFault.pure _ | exact DFault.pures _ | exact DCell.pure _ | exact DCell.pures _ | exact DReply.pure _ | exact DReply.pures _ | exact DAsk.pure _ | exact DAsk.pures _ | exact DOp.pure _ | exact DOp.pures _ | exact pure_list (fun x => DDecl.pures x) _ | exact .fn _ _ _ pure_nil pure_nil | refine .agg _ ?_ | refine .tup _ ?_ | assumption) (by repeat' first | exact pure_nil | refine pure_cons ?_ ?_ | exact .raw _ | exact pure_enc _ | exact pure_lst _ | exact pure_strs _ | exact pure_ints _ | exact DTy.pure _ | exact DTy.pures _ | exact DEnum.pure _ | exact DEnum.pures _ | exact DDecl.pure _ | exact DDecl.pures _ | exact DEq.pure _ | exact DEq.pures _ | exact DNode.pure _ | exact DNode.pures _ | exact DProg.pure _ | exact DProg.pures _ | exact DCond.pure _ | exact DCond.pures _ | exact DAtom.pure _ | exact DAtom.pures _ | exact DPlain.pure _ | exact DPlain.pures _ | exact DVar.pure _ | exact DVar.pures _ | exact DFlow.pure _ | exact DFlow.pures _ | exact DFlows.pure _ | exact DFlows.pures _ | exact DAsked.pure _ | exact DAsked.pures _ | exact DFault.pure _ | exact DFault.pures _ | exact DCell.pure _ | exact DCell.pures _ | exact DReply.pure _ | exact DReply.pures _ | exact DAsk.pure _ | exact DAsk.pures _ | exact DOp.pure _ | exact DOp.pures _ | exact pure_list (fun x => DDecl.pures x) _ | exact .fn _ _ _ pure_nil pure_nil | refine .agg _ ?_ | refine .tup _ ?_ | assumption) (n := 45) rfl (rs := [.tmp 2]) rfl ?_
  simp only [go_sem, Nat.reduceAdd, Nat.reduceSub, Nat.reduceMul, Nat.reduceLT, Nat.reduceLeDiff, Nat.reduceEqDiff, Nat.reduceBEq, Nat.reduceBNe, Nat.reducePow, Int.reduceEq, Int.reduceNe, Int.reduceLT, Int.reduceLE, Int.reduceGT, Int.reduceGE, Int.reduceAdd, Int.reduceSub, Int.reduceNeg, Int.reduceMul, not_true_eq_false, not_false_eq_true, true_and, and_true, Int.reduceToNat]
  intro _
  refine loop_ghost (ghost_cell (t := 22) (cs := [.raw (.slice none 0 0)]) 1 0 9 1 (by rfl) (by rfl)) ?_
  repeat' first
    | exact finB rfl
    | exact finI rfl
    | exact finP rfl
    | exact absurd rfl (by assumption)
    | simp only [go_sem, Nat.reduceAdd, Nat.reduceSub, Nat.reduceMul, Nat.reduceLT, Nat.reduceLeDiff, Nat.reduceEqDiff, Nat.reduceBEq, Nat.reduceBNe, Nat.reducePow, Int.reduceEq, Int.reduceNe, Int.reduceLT, Int.reduceLE, Int.reduceGT, Int.reduceGE, Int.reduceAdd, Int.reduceSub, Int.reduceNeg, Int.reduceMul, not_true_eq_false, not_false_eq_true, true_and, and_true, Int.reduceToNat]
    | (intro _)
    | refine brK_dec (fun _ => ?_) (fun _ => ?_)
    | refine brK_split (fun hb_ => ?_) (fun hb_ => ?_)
    | refine gK_dec (fun _ => ?_) (fun _ => ?_)
    | refine gK_split (fun hb_ => ?_) (fun hb_ => ?_)
    | refine gqK_dec (fun _ => ?_) (fun _ => ?_)
    | refine ⟨by omega, ?_⟩
    | refine elemHave (by omega) (by assumption) ?_
    | refine elemMap (by omega) (by omega) (fun x hx => ?_)
    | refine drawK mo (by kernel_rfl) ?_
    | (rw [hpj.done (by assumption)]; exact ⟨_, rfl, false, .tok _ _ _⟩)
    | (refine need140 _ _ _ _ (by have := hpi.2; omega) (fun r9 => ?_))
    | (refine need140 _ _ _ _ (by have := hpj.2; omega) (fun r9 => ?_))
    | exact loopFr _ (by omega) ⟨i + 1, addF acc x.Var, _, by omega, rfl, hpi.next (by assumption) (by assumption), rfl, (by first | rfl | (simp; done) | (simp; rfl))⟩ (.next rfl (by omega) .nil) rfl
    | (refine loop_fr [6, 13, 14, 15, 16, 17, 18, 19, 20, 21, 22, 23, 24] (fun mm_ CC_ hh_ => ∃ (i : Nat) (acc : List ByteArray) (r_ : List Blk), i ≤ q.Args.length ∧ mm_ = q.Args.length - i ∧ (okN q i acc) ∧ CC_ = [(13, .raw (.int .i64 ((i : Nat) : Int)))] ∧ hh_ = plainB q :: accB acc :: .tok 9 1 acc.length :: r_) (q.Args.length) _ ⟨0, [], _, by omega, by omega, .zero, rfl, (by first | rfl | (simp; done) | (simp; rfl))⟩ (.cons (by first | rfl | (simp; done) | (simp; rfl)) .nil) ?_; rintro mm_ CC_ ji hh_ ⟨i, acc, ri, hi, rfl, hpi, rfl, rfl⟩)
    | exact loopFr _ (by omega) ⟨i + 1, acc, _, by omega, rfl, hpi.skip (by assumption), rfl, (by first | rfl | (simp; done) | (simp; rfl))⟩ (.next rfl (by omega) .nil) rfl
    | (refine loop_fr [6, 13, 14, 15, 16, 17, 18, 19, 20, 21, 22, 23, 24] (fun mm_ CC_ hh_ => ∃ (i : Nat) (acc : List ByteArray) (r_ : List Blk), i ≤ q.Args.length ∧ mm_ = q.Args.length - i ∧ (okN q i acc) ∧ CC_ = [(13, .raw (.int .i64 ((i : Nat) : Int)))] ∧ hh_ = plainB q :: accB acc :: .tok 9 1 acc.length :: r_) (q.Args.length) _ ⟨0, [], _, by omega, by omega, .zero, rfl, (by first | rfl | (simp; done) | (simp; rfl))⟩ (.cons (by first | rfl | (simp; done) | (simp; rfl)) .nil) ?_; rintro mm_ CC_ ji hh_ ⟨i, acc, ri, hi, rfl, hpi, rfl, rfl⟩)
    | exact loopFr _ (by omega) ⟨j + 1, addF ac2 x.Var, _, by omega, rfl, hpj.next (by assumption), rfl, (by first | rfl | (simp; done) | (simp; rfl))⟩ (.next rfl (by omega) .nil) rfl
    | (refine loop_fr [8, 35, 36, 37, 38, 39, 40, 41, 42, 43] (fun mm_ CC_ hh_ => ∃ (j : Nat) (ac2 : List ByteArray) (r_ : List Blk), j ≤ q.On.length ∧ mm_ = q.On.length - j ∧ (okM q j ac2) ∧ CC_ = [(35, .raw (.int .i64 ((j : Nat) : Int)))] ∧ hh_ = plainB q :: accB ac2 :: .tok 9 1 ac2.length :: r_) (q.On.length) _ ⟨0, addF acc q.Every.Var, _, by omega, by omega, .zeroT hpi hi (by assumption) hb_, rfl, (by first | rfl | (simp; done) | (simp; rfl))⟩ (.cons (by first | rfl | (simp; done) | (simp; rfl)) .nil) ?_; rintro mm_ CC_ jj hh_ ⟨j, ac2, rj, hj, rfl, hpj, rfl, rfl⟩)
    | exact loopFr _ (by omega) ⟨j + 1, addF ac2 x.Var, _, by omega, rfl, hpj.next (by assumption), rfl, (by first | rfl | (simp; done) | (simp; rfl))⟩ (.next rfl (by omega) .nil) rfl
    | (refine loop_fr [8, 35, 36, 37, 38, 39, 40, 41, 42, 43] (fun mm_ CC_ hh_ => ∃ (j : Nat) (ac2 : List ByteArray) (r_ : List Blk), j ≤ q.On.length ∧ mm_ = q.On.length - j ∧ (okM q j ac2) ∧ CC_ = [(35, .raw (.int .i64 ((j : Nat) : Int)))] ∧ hh_ = plainB q :: accB ac2 :: .tok 9 1 ac2.length :: r_) (q.On.length) _ ⟨0, acc, _, by omega, by omega, .zeroF hpi hi (by assumption) hb_, rfl, (by first | rfl | (simp; done) | (simp; rfl))⟩ (.cons (by first | rfl | (simp; done) | (simp; rfl)) .nil) ?_; rintro mm_ CC_ jj hh_ ⟨j, ac2, rj, hj, rfl, hpj, rfl, rfl⟩)
end Go.Proofs.Ytfjjckaiopbbkaa
