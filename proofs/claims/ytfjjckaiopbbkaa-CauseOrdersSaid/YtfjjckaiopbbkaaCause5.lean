import Derived.Test.YtfjjckaiopbbkaaCause4
namespace Go.Proofs.Ytfjjckaiopbbkaa
open Go.Abs
set_option maxRecDepth 20000
set_option linter.unusedSimpArgs false
set_option linter.unusedVariables false
set_option maxHeartbeats 1000000
attribute [local irreducible] vc vcOps vcStep vcGuard prK hrK gK gsK brK callK ElemK SeqK BlockK ScopeK OpsK CallK LoopK LoopGo finPost ACall PCall PCallE BCall vqOps vqStep vqGuard qrK heK pcK gqK gqsK QOpsK qcallK DrawK
theorem readsL_parts : ∀ l : List Ex, (∀ x ∈ l, (readsF x).length ≤ (parts x).length) → (readsL l).length ≤ (partsL l).length
  | [], _ => by simp [readsL]
  | x :: xs, h => by
    have h1 := h x List.mem_cons_self
    have h2 := readsL_parts xs fun y hy => h y (List.mem_cons_of_mem _ hy)
    simp only [readsL, partsL, List.length_append]
    omega
theorem partsL_keep (k : Int) (s : List Ex) : (partsL (keepK k s)).length ≤ (partsL s).length := by
  unfold keepK
  split
  · simp [partsL]
  · split
    · cases s with
      | nil => simp
      | cons x l => simp [partsL]
    · exact Nat.le_refl _
theorem keep_mem {k : Int} {s : List Ex} {x : Ex} (h : x ∈ keepK k s) : x ∈ s := by
  unfold keepK at h
  split at h
  · simp at h
  · split at h
    · exact List.mem_of_mem_take h
    · exact h
theorem parts_len (e : Ex) : (parts e).length = (partsL e.subs).length + 1 := by
  cases e
  simp [parts, Ex.subs]
theorem reads_parts (e : Ex) : (readsF e).length ≤ (parts e).length := by
  induction e using Ex.ind with
  | _ e ih =>
  rw [readsF_eq, List.length_append, parts_len]
  have h1 := readsL_parts (keepK e.kind e.subs) fun x hx => ih x (keep_mem hx)
  have h2 := partsL_keep e.kind e.subs
  have h3 : (mineK e.kind e.name).length ≤ 1 := by unfold mineK; split <;> simp
  omega
theorem okE_reads {e : Ex} (h : okE e) : (readsF e).length ≤ 100000 := by
  have := reads_parts e
  have := h.1
  omega
theorem okNode_C {n : DNode} (h : okNode n) : okC n := by
  refine ⟨by have := h.2.2.2.1; omega, fun q hq => ?_⟩
  have hx := h.2.2.2.2.2 q hq
  refine ⟨hx.1, okE_reads hx.2.1, ?_⟩
  have h1 := h.1.1
  have h2 := h.2.1.1
  have h3 := h.2.2.1.1
  simp [allV]
  omega

abbrev vE (s : ByteArray) : Ex := .mk 3 0 s 0 [] []
abbrev fbyE : Ex := .mk 8 0 ⟨#[]⟩ 0 [] [.mk 1 0 ⟨#[]⟩ 0 [] [], vE ⟨#[97]⟩]
abbrev liveN1 : DNode := ⟨⟨#[]⟩, [], [], [], [⟨[⟨#[97]⟩], vE ⟨#[98]⟩⟩, ⟨[⟨#[98]⟩], fbyE⟩]⟩
abbrev liveN2 : DNode := ⟨⟨#[]⟩, [], [], [], [⟨[⟨#[97]⟩], vE ⟨#[98]⟩⟩, ⟨[⟨#[98]⟩], vE ⟨#[97]⟩⟩]⟩
theorem rd_v (s : ByteArray) : readsF (vE s) = [s] := by simp [readsF, readsL, mineK]
theorem rd_f : readsF fbyE = [] := by simp [readsF, readsH, readsL, mineK]
theorem live_o1 : orderF (namesC liveN1) (hangsC liveN1) = ([1, 0], true) := by
  have : hangsC liveN1 = [[⟨#[98]⟩], []] := by
    simp only [hangsC, List.map_cons, List.map_nil, hangsF, rd_v, rd_f]
    decide +kernel
  rw [this]
  decide +kernel
theorem live_o2 : orderF (namesC liveN2) (hangsC liveN2) = ([], false) := by
  have : hangsC liveN2 = [[⟨#[98]⟩], [⟨#[97]⟩]] := by
    simp only [hangsC, List.map_cons, List.map_nil, hangsF, rd_v]
    decide +kernel
  rw [this]
  decide +kernel
theorem live_k1 : okC liveN1 := by
  refine ⟨by decide, fun q hq => ?_⟩
  simp at hq
  rcases hq with rfl | rfl
  · exact ⟨by decide, by rw [rd_v]; decide, by decide⟩
  · exact ⟨by decide, by rw [rd_f]; decide, by decide⟩
theorem live_k2 : okC liveN2 := by
  refine ⟨by decide, fun q hq => ?_⟩
  simp at hq
  rcases hq with rfl | rfl <;> exact ⟨by decide, by rw [rd_v]; decide, by decide⟩

theorem n84 : (Try.f84.name == "runtime.NumGoroutine") = false := by kernel_rfl
theorem live84 (x : ByteArray) : PCall Try.prog 84 [.s x] (.agg [.i 3, .i 0, .s x, .i 0, .raw (.slice none 0 0), .raw (.slice none 0 0)]) := by
  refine pcall_of_vc tabOK Try.func84 n84 rfl (by repeat' first | exact pure_nil | refine pure_cons ?_ ?_ | exact .raw _ | exact pure_enc _ | exact pure_lst _ | exact pure_strs _ | exact pure_ints _ | exact DTy.pure _ | exact DTy.pures _ | exact DEnum.pure _ | exact DEnum.pures _ | exact DDecl.pure _ | exact DDecl.pures _ | exact DEq.pure _ | exact DEq.pures _ | exact DNode.pure _ | exact DNode.pures _ | exact DProg.pure _ | exact DProg.pures _ | exact DCond.pure _ | exact DCond.pures _ | exact DAtom.pure _ | exact DAtom.pures _ | exact DPlain.pure _ | exact DPlain.pures _ | exact DVar.pure _ | exact DVar.pures _ | exact DFlow.pure _ | exact DFlow.pures _ | exact DFlows.pure _ | exact DFlows.pures _ | exact DAsked.pure _ | exact DAsked.pures _ | exact DFault.pure _ | exact DFault.pures _ | exact DCell.pure _ | exact DCell.pures _ | exact DReply.pure _ | exact DReply.pures _ | exact DAsk.pure _ | exact DAsk.pures _ | exact DOp.pure _ | exact DOp.pures _ | exact pure_list (fun x => DDecl.pures x) _ | exact .fn _ _ _ pure_nil pure_nil | refine .agg _ ?_ | refine .tup _ ?_ | assumption) (by repeat' first | exact pure_nil | refine pure_cons ?_ ?_ | exact .raw _ | exact pure_enc _ | exact pure_lst _ | exact pure_strs _ | exact pure_ints _ | exact DTy.pure _ | exact DTy.pures _ | exact DEnum.pure _ | exact DEnum.pures _ | exact DDecl.pure _ | exact DDecl.pures _ | exact DEq.pure _ | exact DEq.pures _ | exact DNode.pure _ | exact DNode.pures _ | exact DProg.pure _ | exact DProg.pures _ | exact DCond.pure _ | exact DCond.pures _ | exact DAtom.pure _ | exact DAtom.pures _ | exact DPlain.pure _ | exact DPlain.pures _ | exact DVar.pure _ | exact DVar.pures _ | exact DFlow.pure _ | exact DFlow.pures _ | exact DFlows.pure _ | exact DFlows.pures _ | exact DAsked.pure _ | exact DAsked.pures _ | exact DFault.pure _ | exact DFault.pures _ | exact DCell.pure _ | exact DCell.pures _ | exact DReply.pure _ | exact DReply.pures _ | exact DAsk.pure _ | exact DAsk.pures _ | exact DOp.pure _ | exact DOp.pures _ | exact pure_list (fun x => DDecl.pures x) _ | exact .fn _ _ _ pure_nil pure_nil | refine .agg _ ?_ | refine .tup _ ?_ | assumption) (n := 5) rfl (rs := [.cell 2 25]) rfl ?_
  repeat' first
    | exact finB rfl
    | exact finI rfl
    | exact finP rfl
    | exact absurd rfl (by assumption)
    | simp only [go_sem, Nat.reduceAdd, Nat.reduceSub, Nat.reduceMul, Nat.reduceLT, Nat.reduceLeDiff, Nat.reduceEqDiff, Nat.reduceBEq, Nat.reduceBNe, Nat.reducePow, Int.reduceEq, Int.reduceNe, Int.reduceLT, Int.reduceLE, Int.reduceGT, Int.reduceGE, Int.reduceAdd, Int.reduceSub, Int.reduceNeg, Int.reduceMul, not_true_eq_false, not_false_eq_true, true_and, and_true, Int.reduceToNat]
    | (intro _)
    | refine brK_dec (fun _ => ?_) (fun _ => ?_)
    | refine brK_any ?_ ?_
    | refine gK_dec (fun _ => ?_) (fun _ => ?_)
    | refine gK_any ?_ ?_
    | refine gqK_dec (fun _ => ?_) (fun _ => ?_)
    | refine ⟨by omega, ?_⟩
    | refine elemHave (by omega) (by assumption) ?_
    | refine elemMap (by omega) (by omega) (fun x hx => ?_)
    | refine drawK mo (by kernel_rfl) ?_
    | (exact ⟨_, rfl, false, .refl _⟩)

abbrev avE (s : ByteArray) : AV := .agg [.i 3, .i 0, .s s, .i 0, .raw (.slice none 0 0), .raw (.slice none 0 0)]
theorem weakN1 (a b c d : Nat) : Weak (.agg [.s ⟨#[]⟩, .raw (.slice none 0 0), .raw (.slice none 0 0), .raw (.slice none 0 0), .lst 7 [.agg [.lst 1 [.s ⟨#[97]⟩] (some a), .i 3, .i 0, .s ⟨#[98]⟩, .i 0, .raw (.slice none 0 0), .raw (.slice none 0 0)],
    .agg [.lst 1 [.s ⟨#[98]⟩] (some b), .i 8, .i 0, .s ⟨#[]⟩, .i 0, .raw (.slice none 0 0), .lst 6 [.agg [.i 1, .i 0, .s ⟨#[]⟩, .i 0, .raw (.slice none 0 0), .raw (.slice none 0 0)], avE ⟨#[97]⟩] (some c)]] (some d)]) liveN1.enc := by
  rw [DNode.enc_eq]
  refine Weak.aggs ⟨.refl _, .nil _, .nil _, .nil _, ?_, trivial⟩
  refine Weak.lsts rfl (by intro e he; simp at he; rcases he with rfl | rfl <;> (rw [DEq.enc_cells]; rfl)) ?_
  simp only [List.map_cons, List.map_nil, DEq.enc_eq, flat_nil, flat_agg, List.cons_append, List.nil_append, Ex.kind, Ex.n, Ex.name, Ex.op, Ex.arms, Ex.subs]
  repeat' first | exact trivial | exact .nil _ | exact .refl _ | exact .tok _ _ _ | refine ⟨?_, ?_⟩ | refine weak_ex ?_ ?_ | refine weak_subs rfl ?_ | simp only [flat_nil, flat_agg, flat_ex, flat_ex0, enc_cells, List.cons_append, List.nil_append, Ex.kind, Ex.n, Ex.name, Ex.op, Ex.arms, Ex.subs]
  refine Weak.lsts rfl (by intro e he; simp at he; rcases he with rfl | rfl <;> (rw [enc_cells]; rfl)) ?_
  simp only [enc_eq, flat_nil, flat_agg, List.cons_append, List.nil_append, Ex.kind, Ex.n, Ex.name, Ex.op, Ex.arms, Ex.subs, List.map_nil]
  repeat' first | exact trivial | exact .nil _ | exact .refl _ | exact .tok _ _ _ | refine ⟨?_, ?_⟩ | refine weak_ex ?_ ?_ | refine weak_subs rfl ?_ | simp only [flat_nil, flat_agg, flat_ex, flat_ex0, enc_cells, List.cons_append, List.nil_append, Ex.kind, Ex.n, Ex.name, Ex.op, Ex.arms, Ex.subs]
theorem weakN2 (a b d : Nat) : Weak (.agg [.s ⟨#[]⟩, .raw (.slice none 0 0), .raw (.slice none 0 0), .raw (.slice none 0 0), .lst 7 [.agg [.lst 1 [.s ⟨#[97]⟩] (some a), .i 3, .i 0, .s ⟨#[98]⟩, .i 0, .raw (.slice none 0 0), .raw (.slice none 0 0)],
    .agg [.lst 1 [.s ⟨#[98]⟩] (some b), .i 3, .i 0, .s ⟨#[97]⟩, .i 0, .raw (.slice none 0 0), .raw (.slice none 0 0)]] (some d)]) liveN2.enc := by
  rw [DNode.enc_eq]
  refine Weak.aggs ⟨.refl _, .nil _, .nil _, .nil _, ?_, trivial⟩
  refine Weak.lsts rfl (by intro e he; simp at he; rcases he with rfl | rfl <;> (rw [DEq.enc_cells]; rfl)) ?_
  simp only [List.map_cons, List.map_nil, DEq.enc_eq, flat_nil, flat_agg, List.cons_append, List.nil_append, Ex.kind, Ex.n, Ex.name, Ex.op, Ex.arms, Ex.subs]
  repeat' first | exact trivial | exact .nil _ | exact .refl _ | exact .tok _ _ _ | refine ⟨?_, ?_⟩ | refine weak_ex ?_ ?_ | refine weak_subs rfl ?_ | simp only [flat_nil, flat_agg, flat_ex, flat_ex0, enc_cells, List.cons_append, List.nil_append, Ex.kind, Ex.n, Ex.name, Ex.op, Ex.arms, Ex.subs]
abbrev tr3 : Tr := .one 1 (.one 2 (.one 5 (.two 0 (.one 3 (.one 4 (.one 6 (.one 7 (.one 8 (.one 9 (.one 10 (.one 11 (.one 12 (.one 13 (.one 14 .nil))))))))))) 4 (.one 6 (.one 0 (.one 3 (.one 7 (.one 8 (.one 9 (.one 10 (.one 11 (.one 12 (.one 13 (.one 14 .nil))))))))))))))
theorem n38 : (Try.f38.name == "runtime.NumGoroutine") = false := by kernel_rfl
theorem live38  : PCall Try.prog 38 [] (.b true) := by
  refine pcall_of_vc tabOK Try.func38 n38 rfl (by repeat' first | exact pure_nil | refine pure_cons ?_ ?_ | exact .raw _ | exact pure_enc _ | exact pure_lst _ | exact pure_strs _ | exact pure_ints _ | exact DTy.pure _ | exact DTy.pures _ | exact DEnum.pure _ | exact DEnum.pures _ | exact DDecl.pure _ | exact DDecl.pures _ | exact DEq.pure _ | exact DEq.pures _ | exact DNode.pure _ | exact DNode.pures _ | exact DProg.pure _ | exact DProg.pures _ | exact DCond.pure _ | exact DCond.pures _ | exact DAtom.pure _ | exact DAtom.pures _ | exact DPlain.pure _ | exact DPlain.pures _ | exact DVar.pure _ | exact DVar.pures _ | exact DFlow.pure _ | exact DFlow.pures _ | exact DFlows.pure _ | exact DFlows.pures _ | exact DAsked.pure _ | exact DAsked.pures _ | exact DFault.pure _ | exact DFault.pures _ | exact DCell.pure _ | exact DCell.pures _ | exact DReply.pure _ | exact DReply.pures _ | exact DAsk.pure _ | exact DAsk.pures _ | exact DOp.pure _ | exact DOp.pures _ | exact pure_list (fun x => DDecl.pures x) _ | exact .fn _ _ _ pure_nil pure_nil | refine .agg _ ?_ | refine .tup _ ?_ | assumption) (by repeat' first | exact pure_nil | refine pure_cons ?_ ?_ | exact .raw _ | exact pure_enc _ | exact pure_lst _ | exact pure_strs _ | exact pure_ints _ | exact DTy.pure _ | exact DTy.pures _ | exact DEnum.pure _ | exact DEnum.pures _ | exact DDecl.pure _ | exact DDecl.pures _ | exact DEq.pure _ | exact DEq.pures _ | exact DNode.pure _ | exact DNode.pures _ | exact DProg.pure _ | exact DProg.pures _ | exact DCond.pure _ | exact DCond.pures _ | exact DAtom.pure _ | exact DAtom.pures _ | exact DPlain.pure _ | exact DPlain.pures _ | exact DVar.pure _ | exact DVar.pures _ | exact DFlow.pure _ | exact DFlow.pures _ | exact DFlows.pure _ | exact DFlows.pures _ | exact DAsked.pure _ | exact DAsked.pures _ | exact DFault.pure _ | exact DFault.pures _ | exact DCell.pure _ | exact DCell.pures _ | exact DReply.pure _ | exact DReply.pures _ | exact DAsk.pure _ | exact DAsk.pures _ | exact DOp.pure _ | exact DOp.pures _ | exact pure_list (fun x => DDecl.pures x) _ | exact .fn _ _ _ pure_nil pure_nil | refine .agg _ ?_ | refine .tup _ ?_ | assumption) (n := 54) rfl (rs := [.tmp 0]) rfl ?_
  simp only [go_sem, Nat.reduceAdd, Nat.reduceSub, Nat.reduceMul, Nat.reduceLT, Nat.reduceLeDiff, Nat.reduceEqDiff, Nat.reduceBEq, Nat.reduceBNe, Nat.reducePow, Int.reduceEq, Int.reduceNe, Int.reduceLT, Int.reduceLE, Int.reduceGT, Int.reduceGE, Int.reduceAdd, Int.reduceSub, Int.reduceNeg, Int.reduceMul, not_true_eq_false, not_false_eq_true, true_and, and_true, Int.reduceToNat]
  refine PCall.call (live84 _) ?_
  simp only [go_sem, Nat.reduceAdd, Nat.reduceSub, Nat.reduceMul, Nat.reduceLT, Nat.reduceLeDiff, Nat.reduceEqDiff, Nat.reduceBEq, Nat.reduceBNe, Nat.reducePow, Int.reduceEq, Int.reduceNe, Int.reduceLT, Int.reduceLE, Int.reduceGT, Int.reduceGE, Int.reduceAdd, Int.reduceSub, Int.reduceNeg, Int.reduceMul, not_true_eq_false, not_false_eq_true, true_and, and_true, Int.reduceToNat]
  refine drawT tr3 mo (by kernel_rfl) ?_
  simp only [go_sem, Nat.reduceAdd, Nat.reduceSub, Nat.reduceMul, Nat.reduceLT, Nat.reduceLeDiff, Nat.reduceEqDiff, Nat.reduceBEq, Nat.reduceBNe, Nat.reducePow, Int.reduceEq, Int.reduceNe, Int.reduceLT, Int.reduceLE, Int.reduceGT, Int.reduceGE, Int.reduceAdd, Int.reduceSub, Int.reduceNeg, Int.reduceMul, not_true_eq_false, not_false_eq_true, true_and, and_true, Int.reduceToNat]
  refine pcK_of (live84 _) ?_
  simp only [go_sem, Nat.reduceAdd, Nat.reduceSub, Nat.reduceMul, Nat.reduceLT, Nat.reduceLeDiff, Nat.reduceEqDiff, Nat.reduceBEq, Nat.reduceBNe, Nat.reducePow, Int.reduceEq, Int.reduceNe, Int.reduceLT, Int.reduceLE, Int.reduceGT, Int.reduceGE, Int.reduceAdd, Int.reduceSub, Int.reduceNeg, Int.reduceMul, not_true_eq_false, not_false_eq_true, true_and, and_true, Int.reduceToNat]
  refine ⟨?_, ?_⟩
  all_goals
    refine pcK_ofR (v := orderA (orderF (namesC liveN1) (hangsC liveN1))) (fun h9 K9 hm9 hk9 => PCall.callW (order39 liveN1 live_k1) ⟨weakN1 _ _ _ _, trivial⟩ hk9) ?_
    rw [live_o1]
    simp only [go_sem, Nat.reduceAdd, Nat.reduceSub, Nat.reduceMul, Nat.reduceLT, Nat.reduceLeDiff, Nat.reduceEqDiff, Nat.reduceBEq, Nat.reduceBNe, Nat.reducePow, Int.reduceEq, Int.reduceNe, Int.reduceLT, Int.reduceLE, Int.reduceGT, Int.reduceGE, Int.reduceAdd, Int.reduceSub, Int.reduceNeg, Int.reduceMul, not_true_eq_false, not_false_eq_true, true_and, and_true, Int.reduceToNat]
    refine PCall.call (live84 _) ?_
    simp only [go_sem, Nat.reduceAdd, Nat.reduceSub, Nat.reduceMul, Nat.reduceLT, Nat.reduceLeDiff, Nat.reduceEqDiff, Nat.reduceBEq, Nat.reduceBNe, Nat.reducePow, Int.reduceEq, Int.reduceNe, Int.reduceLT, Int.reduceLE, Int.reduceGT, Int.reduceGE, Int.reduceAdd, Int.reduceSub, Int.reduceNeg, Int.reduceMul, not_true_eq_false, not_false_eq_true, true_and, and_true, Int.reduceToNat]
    refine PCall.call (live84 _) ?_
    simp only [go_sem, Nat.reduceAdd, Nat.reduceSub, Nat.reduceMul, Nat.reduceLT, Nat.reduceLeDiff, Nat.reduceEqDiff, Nat.reduceBEq, Nat.reduceBNe, Nat.reducePow, Int.reduceEq, Int.reduceNe, Int.reduceLT, Int.reduceLE, Int.reduceGT, Int.reduceGE, Int.reduceAdd, Int.reduceSub, Int.reduceNeg, Int.reduceMul, not_true_eq_false, not_false_eq_true, true_and, and_true, Int.reduceToNat]
    refine PCall.callW (order39 liveN2 live_k2) ⟨weakN2 _ _ _, trivial⟩ ?_
    rw [live_o2]
    simp only [go_sem, Nat.reduceAdd, Nat.reduceSub, Nat.reduceMul, Nat.reduceLT, Nat.reduceLeDiff, Nat.reduceEqDiff, Nat.reduceBEq, Nat.reduceBNe, Nat.reducePow, Int.reduceEq, Int.reduceNe, Int.reduceLT, Int.reduceLE, Int.reduceGT, Int.reduceGE, Int.reduceAdd, Int.reduceSub, Int.reduceNeg, Int.reduceMul, not_true_eq_false, not_false_eq_true, true_and, and_true, Int.reduceToNat]
    refine PCall.callW (ints33 [1, 0] [1, 0]) ⟨.refl _, .tok _ _ _, trivial⟩ ?_
    rw [eqB_eq rfl]
    repeat' first
    | exact finB rfl
    | exact finI rfl
    | exact finP rfl
    | exact absurd rfl (by assumption)
    | simp only [go_sem, Nat.reduceAdd, Nat.reduceSub, Nat.reduceMul, Nat.reduceLT, Nat.reduceLeDiff, Nat.reduceEqDiff, Nat.reduceBEq, Nat.reduceBNe, Nat.reducePow, Int.reduceEq, Int.reduceNe, Int.reduceLT, Int.reduceLE, Int.reduceGT, Int.reduceGE, Int.reduceAdd, Int.reduceSub, Int.reduceNeg, Int.reduceMul, not_true_eq_false, not_false_eq_true, true_and, and_true, Int.reduceToNat]
    | (intro _)
    | refine brK_dec (fun _ => ?_) (fun _ => ?_)
    | refine brK_any ?_ ?_
    | refine gK_dec (fun _ => ?_) (fun _ => ?_)
    | refine gK_any ?_ ?_
    | refine gqK_dec (fun _ => ?_) (fun _ => ?_)
    | refine ⟨by omega, ?_⟩
    | refine elemHave (by omega) (by assumption) ?_
    | refine elemMap (by omega) (by omega) (fun x hx => ?_)
    | refine drawK mo (by kernel_rfl) ?_
    | (exact absurd rfl (by assumption))

theorem n10 : (Try.f10.name == "runtime.NumGoroutine") = false := by kernel_rfl
theorem law10 (e : Ex) : PCall Try.prog 10 [e.enc] (.b true) := by
  refine pcall_of_vc tabOK Try.func10 n10 rfl (by repeat' first | exact pure_nil | refine pure_cons ?_ ?_ | exact .raw _ | exact pure_enc _ | exact pure_lst _ | exact pure_strs _ | exact pure_ints _ | exact DTy.pure _ | exact DTy.pures _ | exact DEnum.pure _ | exact DEnum.pures _ | exact DDecl.pure _ | exact DDecl.pures _ | exact DEq.pure _ | exact DEq.pures _ | exact DNode.pure _ | exact DNode.pures _ | exact DProg.pure _ | exact DProg.pures _ | exact DCond.pure _ | exact DCond.pures _ | exact DAtom.pure _ | exact DAtom.pures _ | exact DPlain.pure _ | exact DPlain.pures _ | exact DVar.pure _ | exact DVar.pures _ | exact DFlow.pure _ | exact DFlow.pures _ | exact DFlows.pure _ | exact DFlows.pures _ | exact DAsked.pure _ | exact DAsked.pures _ | exact DFault.pure _ | exact DFault.pures _ | exact DCell.pure _ | exact DCell.pures _ | exact DReply.pure _ | exact DReply.pures _ | exact DAsk.pure _ | exact DAsk.pures _ | exact DOp.pure _ | exact DOp.pures _ | exact pure_list (fun x => DDecl.pures x) _ | exact .fn _ _ _ pure_nil pure_nil | refine .agg _ ?_ | refine .tup _ ?_ | assumption) (by repeat' first | exact pure_nil | refine pure_cons ?_ ?_ | exact .raw _ | exact pure_enc _ | exact pure_lst _ | exact pure_strs _ | exact pure_ints _ | exact DTy.pure _ | exact DTy.pures _ | exact DEnum.pure _ | exact DEnum.pures _ | exact DDecl.pure _ | exact DDecl.pures _ | exact DEq.pure _ | exact DEq.pures _ | exact DNode.pure _ | exact DNode.pures _ | exact DProg.pure _ | exact DProg.pures _ | exact DCond.pure _ | exact DCond.pures _ | exact DAtom.pure _ | exact DAtom.pures _ | exact DPlain.pure _ | exact DPlain.pures _ | exact DVar.pure _ | exact DVar.pures _ | exact DFlow.pure _ | exact DFlow.pures _ | exact DFlows.pure _ | exact DFlows.pures _ | exact DAsked.pure _ | exact DAsked.pures _ | exact DFault.pure _ | exact DFault.pures _ | exact DCell.pure _ | exact DCell.pures _ | exact DReply.pure _ | exact DReply.pures _ | exact DAsk.pure _ | exact DAsk.pures _ | exact DOp.pure _ | exact DOp.pures _ | exact pure_list (fun x => DDecl.pures x) _ | exact .fn _ _ _ pure_nil pure_nil | refine .agg _ ?_ | refine .tup _ ?_ | assumption) (n := 20) rfl (rs := [.tmp 2]) rfl ?_
  repeat' first
    | exact finB rfl
    | exact finI rfl
    | exact finP rfl
    | exact absurd rfl (by assumption)
    | simp only [go_sem, Nat.reduceAdd, Nat.reduceSub, Nat.reduceMul, Nat.reduceLT, Nat.reduceLeDiff, Nat.reduceEqDiff, Nat.reduceBEq, Nat.reduceBNe, Nat.reducePow, Int.reduceEq, Int.reduceNe, Int.reduceLT, Int.reduceLE, Int.reduceGT, Int.reduceGE, Int.reduceAdd, Int.reduceSub, Int.reduceNeg, Int.reduceMul, not_true_eq_false, not_false_eq_true, true_and, and_true, Int.reduceToNat]
    | (intro _)
    | refine brK_dec (fun _ => ?_) (fun _ => ?_)
    | refine brK_any ?_ ?_
    | refine gK_dec (fun _ => ?_) (fun _ => ?_)
    | refine gK_any ?_ ?_
    | refine gqK_dec (fun _ => ?_) (fun _ => ?_)
    | refine ⟨by omega, ?_⟩
    | refine elemHave (by omega) (by assumption) ?_
    | refine elemMap (by omega) (by omega) (fun x hx => ?_)
    | refine drawK mo (by kernel_rfl) ?_
    | (refine PCall.call live38 ?_)
    | (refine PCallE.call (small_e _) (fun r hr => ?_); obtain ⟨b, rfl, hb⟩ := hr; cases b <;> (try replace hb := hb rfl))
    | (refine BCall.call (right_b _ hb) (fun b => ?_); cases b)
    | (refine pcK_of (reads42 e (okE_reads hb)) ?_)
    | (refine pcK_of (reads43 e (okE_reads hb)) ?_)
    | (refine pcK_of (namesStr _ _) ?_; rw [eqB_eq rfl])
    | (refine pcK_of live38 ?_)
end Go.Proofs.Ytfjjckaiopbbkaa
