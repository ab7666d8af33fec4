import Derived.Test.YtfjjckaiopbbkaaSched7
import Derived.Test.YtfjjckaiopbbkaaSched8
namespace Go.Proofs.Ytfjjckaiopbbkaa
open Go.Abs
set_option maxRecDepth 20000
set_option linter.unusedSimpArgs false
set_option linter.unusedVariables false
set_option maxHeartbeats 1000000
attribute [local irreducible] vc vcOps vcStep vcGuard prK hrK gK gsK brK callK ElemK SeqK BlockK ScopeK OpsK CallK LoopK LoopGo finPost ACall PCall PCallE BCall vqOps vqStep vqGuard qrK heK pcK gqK gqsK QOpsK qcallK DrawK
abbrev zeroFlow : DFlow := ⟨⟨#[]⟩, [], [], [], []⟩
abbrev zeroEq : DPlain := ⟨0, [], 0, [], [], 0, false, ⟨⟨#[]⟩, 0⟩, []⟩
def flowF (f : DFlow) : DFlow × Bool := if (orderF (namesP f) (hangsP f)).2 = true then (⟨f.Name, f.Ins, f.Outs, f.Vars, (orderF (namesP f) (hangsP f)).1.map fun i => f.Eqs.getD i zeroEq⟩, true) else (zeroFlow, false)
abbrev flowA (p : DFlow × Bool) : AV := .tup [p.1.enc, .b p.2]
theorem pure_flowA (p : DFlow × Bool) : Go.Abs.Pure (flowA p) := .tup _ (pure_cons (DFlow.pure _) (pure_cons (.raw _) pure_nil))
theorem order_lt (f : DFlow) : ∀ j ∈ (orderF (namesP f) (hangsP f)).1, j < f.Eqs.length := by
  rw [← len_names f]
  exact order_lens _ _ _ (by simp)
theorem order_le (f : DFlow) : (orderF (namesP f) (hangsP f)).1.length ≤ f.Eqs.length := by
  have := order_len (N := namesP f) (H := hangsP f) (namesP f).length (List.replicate (namesP f).length false) []
  rw [len_names] at this
  simpa [orderF, len_names] using this
theorem map_snocP (l : List DPlain) (x : DPlain) : l.map DPlain.enc ++ [x.enc] = (l ++ [x]).map DPlain.enc := by simp

def okEqs (f : DFlow) (out : List Nat) (i : Nat) (acc : List DPlain) : Prop := acc = (out.take i).map (fun i => f.Eqs.getD i zeroEq) ∧ acc.length ≤ i
theorem okEqs.zero {f : DFlow} {out : List Nat} : okEqs f out 0 [] := ⟨by simp, by simp⟩
theorem okEqs.next {f : DFlow} {out : List Nat} {i e : Nat} {acc : List DPlain} {x : DPlain} (h : okEqs f out i acc) (he : out[((i : Nat) : Int).toNat]? = some e) (hx : f.Eqs[((e : Nat) : Int).toNat]? = some x) : okEqs f out (i + 1) (acc ++ [x]) := by
  refine ⟨?_, by have := h.2; simp; omega⟩
  rw [Int.toNat_natCast] at hx
  rw [take_mapS he, h.1, List.getD_eq_getElem?_getD, hx]
  rfl
theorem okEqs.done {f : DFlow} {out : List Nat} {i : Nat} {acc : List DPlain} (h : okEqs f out i acc) (hi : ¬ (i : Int) < out.length) : out.map (fun i => f.Eqs.getD i zeroEq) = acc := by
  rw [h.1, List.take_of_length_le (by omega)]
theorem weak_noF {p : DFlow × Bool} : Weak (.tup [.agg [.raw (.string ⟨#[]⟩), .raw (.slice none 0 0), .raw (.slice none 0 0), .raw (.slice none 0 0), .raw (.slice none 0 0)], .b false]) (flowA (if false = true then p else (zeroFlow, false))) := by
  rw [if_neg (by decide)]
  show Weak _ (.tup [zeroFlow.enc, .b false])
  rw [DFlow.enc_eq]
  exact Weak.tups2 ⟨Weak.aggs ⟨.refl _, .nil _, .nil _, .nil _, .nil _, trivial⟩, .refl _, trivial⟩
theorem weak_okF (f : DFlow) (acc : List DPlain) (k : Nat) : Weak (.tup [.agg [.s f.Name, .lst 5 (f.Ins.map DVar.enc) none, .lst 5 (f.Outs.map DVar.enc) none, .lst 5 (f.Vars.map DVar.enc) none, .lst 10 (acc.map DPlain.enc) (some k)], .b true]) (flowA (if true = true then (⟨f.Name, f.Ins, f.Outs, f.Vars, acc⟩, true) else (zeroFlow, false))) := by
  rw [if_pos rfl]
  show Weak _ (.tup [DFlow.enc _, .b true])
  rw [DFlow.enc_eq]
  exact Weak.tups2 ⟨Weak.aggs ⟨.refl _, .refl _, .refl _, .refl _, .tok _ _ _, trivial⟩, .refl _, trivial⟩

theorem mono_app : ∀ (h r : List Blk), MonoH h (h ++ r)
  | [], _ => trivial
  | x :: h, r => ⟨by cases x <;> trivial, mono_app h r⟩
theorem n31 : (Try.f31.name == "runtime.NumGoroutine") = false := by kernel_rfl
theorem flow31 (f : DFlow) (hf : okFlow f) : PCall Try.prog 31 [f.enc] (flowA (flowF f)) := by
  have hlt := order_lt f
  have hle := order_le f
  have hn := hf.1
  have h29 := order29 f hf
  unfold flowF
  generalize orderF (namesP f) (hangsP f) = R at hlt hle h29 ⊢
  obtain ⟨out, ok⟩ := R
  dsimp only at hlt hle
  refine pcall_of_vc tabOK Try.func31 n31 rfl (by repeat' first | exact pure_nil | refine pure_cons ?_ ?_ | exact .raw _ | exact pure_enc _ | exact pure_lst _ | exact pure_strs _ | exact pure_ints _ | exact DTy.pure _ | exact DTy.pures _ | exact DEnum.pure _ | exact DEnum.pures _ | exact DDecl.pure _ | exact DDecl.pures _ | exact DEq.pure _ | exact DEq.pures _ | exact DNode.pure _ | exact DNode.pures _ | exact DProg.pure _ | exact DProg.pures _ | exact DCond.pure _ | exact DCond.pures _ | exact DAtom.pure _ | exact DAtom.pures _ | exact DPlain.pure _ | exact DPlain.pures _ | exact DVar.pure _ | exact DVar.pures _ | exact DFlow.pure _ | exact DFlow.pures _ | exact DFlows.pure _ | exact DFlows.pures _ | exact DAsked.pure _ | exact DAsked.pures _ | exact DFault.pure _ | exact DFault.pures _ | exact DCell.pure _ | exact DCell.pures _ | exact DReply.pure _ | exact DReply.pures _ | exact DAsk.pure _ | exact DAsk.pures _ | exact DOp.pure _ | exact DOp.pures _ | exact pure_list (fun x => DDecl.pures x) _ | exact .fn _ _ _ pure_nil pure_nil | refine .agg _ ?_ | refine .tup _ ?_ | assumption) (pure_flowA _) (n := 38) rfl (rs := [.cell 2 54, .tmp 3]) rfl ?_
  simp only [go_sem, Nat.reduceAdd, Nat.reduceSub, Nat.reduceMul, Nat.reduceLT, Nat.reduceLeDiff, Nat.reduceEqDiff, Nat.reduceBEq, Nat.reduceBNe, Nat.reducePow, Int.reduceEq, Int.reduceNe, Int.reduceLT, Int.reduceLE, Int.reduceGT, Int.reduceGE, Int.reduceAdd, Int.reduceSub, Int.reduceNeg, Int.reduceMul, not_true_eq_false, not_false_eq_true, true_and, and_true, Int.reduceToNat]
  refine PCall.call h29 ?_
  cases ok
  · simp only [go_sem, Nat.reduceAdd, Nat.reduceSub, Nat.reduceMul, Nat.reduceLT, Nat.reduceLeDiff, Nat.reduceEqDiff, Nat.reduceBEq, Nat.reduceBNe, Nat.reducePow, Int.reduceEq, Int.reduceNe, Int.reduceLT, Int.reduceLE, Int.reduceGT, Int.reduceGE, Int.reduceAdd, Int.reduceSub, Int.reduceNeg, Int.reduceMul, not_true_eq_false, not_false_eq_true, true_and, and_true, Int.reduceToNat]
    exact ⟨_, rfl, false, weak_noF⟩
  · repeat' first
    | exact finB rfl
    | exact finI rfl
    | exact finP rfl
    | exact absurd rfl (by assumption)
    | simp only [go_sem, Nat.reduceAdd, Nat.reduceSub, Nat.reduceMul, Nat.reduceLT, Nat.reduceLeDiff, Nat.reduceEqDiff, Nat.reduceBEq, Nat.reduceBNe, Nat.reducePow, Int.reduceEq, Int.reduceNe, Int.reduceLT, Int.reduceLE, Int.reduceGT, Int.reduceGE, Int.reduceAdd, Int.reduceSub, Int.reduceNeg, Int.reduceMul, not_true_eq_false, not_false_eq_true, true_and, and_true, Int.reduceToNat]
    | (intro _)
    | refine brK_dec (fun _ => ?_) (fun _ => ?_)
    | refine brK_any ?_ ?_
    | refine gK_dec (fun _ => ?_) (fun _ => ?_)
    | refine gK_any ?_ ?_
    | refine gqK_dec (fun _ => ?_) (fun _ => ?_)
    | refine ⟨by omega, ?_⟩
    | refine elemHave (by omega) (by assumption) ?_
    | ((fail_if_success (clear he)); refine elemMap (by omega) (by omega) (fun e he => ?_))
    | refine elemMap (by omega) (by omega) (fun x hx => ?_)
    | refine drawK mo (by kernel_rfl) ?_
    | (simp only [map_snocP])
    | ((fail_if_success (clear hel)); have hel := hlt e (List.mem_of_getElem? he))
    | (refine ⟨by have := hpi.2; simp; omega, ?_⟩)
    | (refine ⟨mono_app _ _, ?_⟩)
    | (rw [hpi.done (by assumption)]; exact ⟨_, rfl, false, weak_okF _ _ _⟩)
    | exact loopFr _ (by omega) ⟨i + 1, acc ++ [x], _, by omega, rfl, hpi.next he hx, rfl, (by first | rfl | (simp; done) | (simp; rfl))⟩ (.next rfl (by omega) (.cons (by first | rfl | (simp; done) | (simp; rfl)) .nil)) rfl
    | (refine loop_fr [6, 8, 22, 23, 24, 25, 26, 27, 28, 29, 30, 31, 32, 33, 34] (fun mm_ CC_ hh_ => ∃ (i : Nat) (acc : List DPlain) (r_ : List Blk), i ≤ out.length ∧ mm_ = out.length - i ∧ (okEqs f out i acc) ∧ CC_ = [(22, .raw (.int .i64 ((i : Nat) : Int))), (6, .lst 10 (acc.map DPlain.enc) (some 2))] ∧ hh_ = flowB f :: .cells 54 [.raw (.string ⟨#[]⟩), .raw (.slice none 0 0), .raw (.slice none 0 0), .raw (.slice none 0 0), .raw (.slice none 0 0)] :: .tok 100 10 (acc.map DPlain.enc).length :: r_) (out.length) _ ⟨0, [], _, by omega, by omega, .zero, rfl, (by first | rfl | (simp; done) | (simp; rfl))⟩ (.cons (by first | rfl | (simp; done) | (simp; rfl)) (.cons (by first | rfl | (simp; done) | (simp; rfl)) .nil)) ?_; rintro mm_ CC_ ji hh_ ⟨i, acc, ri, hi, rfl, hpi, rfl, rfl⟩)

theorem n32 : (Try.f32.name == "runtime.NumGoroutine") = false := by kernel_rfl
theorem flow32 (f : DFlow) (hf : okFlow f) : PCall Try.prog 32 [f.enc] (flowA (flowF f)) := by
  have hlt := order_lt f
  have hle := order_le f
  have hn := hf.1
  have h29 := order30 f hf
  unfold flowF
  generalize orderF (namesP f) (hangsP f) = R at hlt hle h29 ⊢
  obtain ⟨out, ok⟩ := R
  dsimp only at hlt hle
  refine pcall_of_vc tabOK Try.func32 n32 rfl (by repeat' first | exact pure_nil | refine pure_cons ?_ ?_ | exact .raw _ | exact pure_enc _ | exact pure_lst _ | exact pure_strs _ | exact pure_ints _ | exact DTy.pure _ | exact DTy.pures _ | exact DEnum.pure _ | exact DEnum.pures _ | exact DDecl.pure _ | exact DDecl.pures _ | exact DEq.pure _ | exact DEq.pures _ | exact DNode.pure _ | exact DNode.pures _ | exact DProg.pure _ | exact DProg.pures _ | exact DCond.pure _ | exact DCond.pures _ | exact DAtom.pure _ | exact DAtom.pures _ | exact DPlain.pure _ | exact DPlain.pures _ | exact DVar.pure _ | exact DVar.pures _ | exact DFlow.pure _ | exact DFlow.pures _ | exact DFlows.pure _ | exact DFlows.pures _ | exact DAsked.pure _ | exact DAsked.pures _ | exact DFault.pure _ | exact DFault.pures _ | exact DCell.pure _ | exact DCell.pures _ | exact DReply.pure _ | exact DReply.pures _ | exact DAsk.pure _ | exact DAsk.pures _ | exact DOp.pure _ | exact DOp.pures _ | exact pure_list (fun x => DDecl.pures x) _ | exact .fn _ _ _ pure_nil pure_nil | refine .agg _ ?_ | refine .tup _ ?_ | assumption) (pure_flowA _) (n := 37) rfl (rs := [.cell 2 54, .tmp 3]) rfl ?_
  simp only [go_sem, Nat.reduceAdd, Nat.reduceSub, Nat.reduceMul, Nat.reduceLT, Nat.reduceLeDiff, Nat.reduceEqDiff, Nat.reduceBEq, Nat.reduceBNe, Nat.reducePow, Int.reduceEq, Int.reduceNe, Int.reduceLT, Int.reduceLE, Int.reduceGT, Int.reduceGE, Int.reduceAdd, Int.reduceSub, Int.reduceNeg, Int.reduceMul, not_true_eq_false, not_false_eq_true, true_and, and_true, Int.reduceToNat]
  refine PCall.call h29 ?_
  cases ok
  · simp only [go_sem, Nat.reduceAdd, Nat.reduceSub, Nat.reduceMul, Nat.reduceLT, Nat.reduceLeDiff, Nat.reduceEqDiff, Nat.reduceBEq, Nat.reduceBNe, Nat.reducePow, Int.reduceEq, Int.reduceNe, Int.reduceLT, Int.reduceLE, Int.reduceGT, Int.reduceGE, Int.reduceAdd, Int.reduceSub, Int.reduceNeg, Int.reduceMul, not_true_eq_false, not_false_eq_true, true_and, and_true, Int.reduceToNat]
    exact ⟨_, rfl, false, weak_noF⟩
  · repeat' first
    | exact finB rfl
    | exact finI rfl
    | exact finP rfl
    | exact absurd rfl (by assumption)
    | simp only [go_sem, Nat.reduceAdd, Nat.reduceSub, Nat.reduceMul, Nat.reduceLT, Nat.reduceLeDiff, Nat.reduceEqDiff, Nat.reduceBEq, Nat.reduceBNe, Nat.reducePow, Int.reduceEq, Int.reduceNe, Int.reduceLT, Int.reduceLE, Int.reduceGT, Int.reduceGE, Int.reduceAdd, Int.reduceSub, Int.reduceNeg, Int.reduceMul, not_true_eq_false, not_false_eq_true, true_and, and_true, Int.reduceToNat]
    | (intro _)
    | refine brK_dec (fun _ => ?_) (fun _ => ?_)
    | refine brK_any ?_ ?_
    | refine gK_dec (fun _ => ?_) (fun _ => ?_)
    | refine gK_any ?_ ?_
    | refine gqK_dec (fun _ => ?_) (fun _ => ?_)
    | refine ⟨by omega, ?_⟩
    | refine elemHave (by omega) (by assumption) ?_
    | ((fail_if_success (clear he)); refine elemMap (by omega) (by omega) (fun e he => ?_))
    | refine elemMap (by omega) (by omega) (fun x hx => ?_)
    | refine drawK mo (by kernel_rfl) ?_
    | (simp only [map_snocP])
    | ((fail_if_success (clear hel)); have hel := hlt e (List.mem_of_getElem? he))
    | (refine ⟨by have := hpi.2; simp; omega, ?_⟩)
    | (refine ⟨mono_app _ _, ?_⟩)
    | (rw [hpi.done (by assumption)]; exact ⟨_, rfl, false, weak_okF _ _ _⟩)
    | exact loopFr _ (by omega) ⟨i + 1, acc ++ [x], _, by omega, rfl, hpi.next he hx, rfl, (by first | rfl | (simp; done) | (simp; rfl))⟩ (.next rfl (by omega) (.cons (by first | rfl | (simp; done) | (simp; rfl)) .nil)) rfl
    | (refine loop_fr [6, 7, 17, 18, 19, 20, 21, 22, 23, 24, 25, 26, 27, 28, 29, 30, 31, 32, 33] (fun mm_ CC_ hh_ => ∃ (i : Nat) (acc : List DPlain) (r_ : List Blk), i ≤ out.length ∧ mm_ = out.length - i ∧ (okEqs f out i acc) ∧ CC_ = [(7, .raw (.int .i64 ((i : Nat) : Int))), (6, .lst 10 (acc.map DPlain.enc) (some 2))] ∧ hh_ = flowB f :: .cells 54 [.raw (.string ⟨#[]⟩), .raw (.slice none 0 0), .raw (.slice none 0 0), .raw (.slice none 0 0), .raw (.slice none 0 0)] :: .tok 100 10 (acc.map DPlain.enc).length :: r_) (out.length) _ ⟨0, [], _, by omega, by omega, .zero, rfl, (by first | rfl | (simp; done) | (simp; rfl))⟩ (.cons (by first | rfl | (simp; done) | (simp; rfl)) (.cons (by first | rfl | (simp; done) | (simp; rfl)) .nil)) ?_; rintro mm_ CC_ ji hh_ ⟨i, acc, ri, hi, rfl, hpi, rfl, rfl⟩)

theorem n67 : (Try.f67.name == "runtime.NumGoroutine") = false := by kernel_rfl
theorem few67_ok (f : DFlow) : PCallE Try.prog 67 [f.enc] (fun r => ∃ b : Bool, r = .b b ∧ (b = true → okFlow f)) := by
  refine pcallE_of_vc tabOK Try.func67 n67 rfl (by repeat' first | exact pure_nil | refine pure_cons ?_ ?_ | exact .raw _ | exact pure_enc _ | exact pure_lst _ | exact pure_strs _ | exact pure_ints _ | exact DTy.pure _ | exact DTy.pures _ | exact DEnum.pure _ | exact DEnum.pures _ | exact DDecl.pure _ | exact DDecl.pures _ | exact DEq.pure _ | exact DEq.pures _ | exact DNode.pure _ | exact DNode.pures _ | exact DProg.pure _ | exact DProg.pures _ | exact DCond.pure _ | exact DCond.pures _ | exact DAtom.pure _ | exact DAtom.pures _ | exact DPlain.pure _ | exact DPlain.pures _ | exact DVar.pure _ | exact DVar.pures _ | exact DFlow.pure _ | exact DFlow.pures _ | exact DFlows.pure _ | exact DFlows.pures _ | exact DAsked.pure _ | exact DAsked.pures _ | exact DFault.pure _ | exact DFault.pures _ | exact DCell.pure _ | exact DCell.pures _ | exact DReply.pure _ | exact DReply.pures _ | exact DAsk.pure _ | exact DAsk.pures _ | exact DOp.pure _ | exact DOp.pures _ | exact pure_list (fun x => DDecl.pures x) _ | exact .fn _ _ _ pure_nil pure_nil | refine .agg _ ?_ | refine .tup _ ?_ | assumption) (n := 43) rfl (rs := [.tmp 2]) rfl ?_
  repeat' first
    | exact finB rfl
    | exact finI rfl
    | exact finP rfl
    | exact absurd rfl (by assumption)
    | simp only [go_sem, Nat.reduceAdd, Nat.reduceSub, Nat.reduceMul, Nat.reduceLT, Nat.reduceLeDiff, Nat.reduceEqDiff, Nat.reduceBEq, Nat.reduceBNe, Nat.reducePow, Int.reduceEq, Int.reduceNe, Int.reduceLT, Int.reduceLE, Int.reduceGT, Int.reduceGE, Int.reduceAdd, Int.reduceSub, Int.reduceNeg, Int.reduceMul, not_true_eq_false, not_false_eq_true, true_and, and_true, Int.reduceToNat]
    | (intro _)
    | refine brK_dec (fun _ => ?_) (fun _ => ?_)
    | refine brK_any ?_ ?_
    | refine gK_dec (fun _ => ?_) (fun _ => ?_)
    | refine gK_any ?_ ?_
    | refine gqK_dec (fun _ => ?_) (fun _ => ?_)
    | refine ⟨by omega, ?_⟩
    | refine elemHave (by omega) (by assumption) ?_
    | ((fail_if_success (clear hq)); refine elemMap (by omega) (by omega) (fun q hq => ?_))
    | refine elemMap (by omega) (by omega) (fun x hx => ?_)
    | refine drawK mo (by kernel_rfl) ?_
    | (exact finBk (b := false) rfl (fun h => by cases h))
    | (exact finBk rfl (fun h => ⟨by have := of_decide_eq_true h; omega, take_full hpi (by omega)⟩))
    | exact loopFrH _ (by omega) ⟨i + 1, by omega, rfl, take_all hpi (by simpa using hq) (by omega), rfl⟩ (.next rfl (by omega) .nil) rfl
    | (refine loop_frH [2, 3, 4, 5, 6, 7, 8, 9, 10, 11, 12, 13, 14, 15, 16, 17, 18, 19, 20, 21, 22, 23, 24, 25, 26, 27, 28, 29, 30, 31, 32, 33, 34, 35, 36, 37, 38] (fun mm_ CC_ => ∃ (i : Nat), i ≤ f.Eqs.length ∧ mm_ = f.Eqs.length - i ∧ ((∀ q ∈ f.Eqs.take i, q.Names.length ≤ 10 ∧ q.Args.length ≤ 10 ∧ q.On.length ≤ 10)) ∧ CC_ = [(3, .raw (.int .i64 ((i : Nat) : Int)))]) (f.Eqs.length) _ ⟨0, by omega, by omega, by simp, rfl⟩ (.cons rfl .nil) ?_; rintro mm_ CC_ ji ⟨i, hi, rfl, hpi, rfl⟩)

theorem n27 : (Try.f27.name == "runtime.NumGoroutine") = false := by kernel_rfl
theorem few27 (f : DFlow) : PCallE Try.prog 27 [f.enc] (fun r => ∃ b : Bool, r = .b b ∧ (b = true → okFlow f)) := by
  refine pcallE_of_vc tabOK Try.func27 n27 rfl (by repeat' first | exact pure_nil | refine pure_cons ?_ ?_ | exact .raw _ | exact pure_enc _ | exact pure_lst _ | exact pure_strs _ | exact pure_ints _ | exact DTy.pure _ | exact DTy.pures _ | exact DEnum.pure _ | exact DEnum.pures _ | exact DDecl.pure _ | exact DDecl.pures _ | exact DEq.pure _ | exact DEq.pures _ | exact DNode.pure _ | exact DNode.pures _ | exact DProg.pure _ | exact DProg.pures _ | exact DCond.pure _ | exact DCond.pures _ | exact DAtom.pure _ | exact DAtom.pures _ | exact DPlain.pure _ | exact DPlain.pures _ | exact DVar.pure _ | exact DVar.pures _ | exact DFlow.pure _ | exact DFlow.pures _ | exact DFlows.pure _ | exact DFlows.pures _ | exact DAsked.pure _ | exact DAsked.pures _ | exact DFault.pure _ | exact DFault.pures _ | exact DCell.pure _ | exact DCell.pures _ | exact DReply.pure _ | exact DReply.pures _ | exact DAsk.pure _ | exact DAsk.pures _ | exact DOp.pure _ | exact DOp.pures _ | exact pure_list (fun x => DDecl.pures x) _ | exact .fn _ _ _ pure_nil pure_nil | refine .agg _ ?_ | refine .tup _ ?_ | assumption) (n := 5) rfl (rs := [.tmp 2]) rfl ?_
  repeat' first
    | exact finB rfl
    | exact finI rfl
    | exact finP rfl
    | exact absurd rfl (by assumption)
    | simp only [go_sem, Nat.reduceAdd, Nat.reduceSub, Nat.reduceMul, Nat.reduceLT, Nat.reduceLeDiff, Nat.reduceEqDiff, Nat.reduceBEq, Nat.reduceBNe, Nat.reducePow, Int.reduceEq, Int.reduceNe, Int.reduceLT, Int.reduceLE, Int.reduceGT, Int.reduceGE, Int.reduceAdd, Int.reduceSub, Int.reduceNeg, Int.reduceMul, not_true_eq_false, not_false_eq_true, true_and, and_true, Int.reduceToNat]
    | (intro _)
    | refine brK_dec (fun _ => ?_) (fun _ => ?_)
    | refine brK_any ?_ ?_
    | refine gK_dec (fun _ => ?_) (fun _ => ?_)
    | refine gK_any ?_ ?_
    | refine gqK_dec (fun _ => ?_) (fun _ => ?_)
    | refine ⟨by omega, ?_⟩
    | refine elemHave (by omega) (by assumption) ?_
    | refine elemMap (by omega) (by omega) (fun x hx => ?_)
    | refine drawK mo (by kernel_rfl) ?_
    | (refine PCallE.call (few67_ok f) (fun r hr => ?_); obtain ⟨b, rfl, hb⟩ := hr)
    | (exact finBk rfl hb)

abbrev liveP1 : DPlain := ⟨1, [⟨#[97]⟩], 0, [⟨⟨#[98]⟩, 0⟩], [], 0, false, ⟨⟨#[]⟩, 0⟩, []⟩
abbrev liveP2 : DPlain := ⟨5, [⟨#[98]⟩], 0, [⟨⟨#[97]⟩, 0⟩], [0], 0, false, ⟨⟨#[]⟩, 0⟩, []⟩
abbrev liveF : DFlow := ⟨⟨#[]⟩, [], [], [], [liveP1, liveP2]⟩
theorem live_order : orderF (namesP liveF) (hangsP liveF) = ([1, 0], true) := by decide +kernel
theorem live_ok : okFlow liveF := ⟨by decide, by intro q hq; simp at hq; rcases hq with rfl | rfl <;> decide⟩

end Go.Proofs.Ytfjjckaiopbbkaa
