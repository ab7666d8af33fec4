import Derived.Test.YtfjjckaiopbbkaaSched1
import Derived.Test.YtfjjckaiopbbkaaAbsW
namespace Go.Proofs.Ytfjjckaiopbbkaa
open Go.Abs
set_option maxRecDepth 20000
set_option linter.unusedSimpArgs false
set_option linter.unusedVariables false
set_option maxHeartbeats 1000000
attribute [local irreducible] vc vcOps vcStep vcGuard prK hrK gK gsK brK callK ElemK SeqK BlockK ScopeK OpsK CallK LoopK LoopGo finPost ACall PCall PCallE BCall vqOps vqStep vqGuard qrK heK pcK gqK gqsK QOpsK qcallK DrawK
def okArgs (q : DPlain) (i : Nat) (acc : List ByteArray) : Prop := acc = (if q.Kind = 5 then [] else (q.Args.take i).map DAtom.Var)
theorem okArgs.zero {q : DPlain} : okArgs q 0 [] := by simp [okArgs]
theorem okArgs.next {q : DPlain} {i : Nat} {acc : List ByteArray} {x : DAtom} (h : okArgs q i acc) (hk : ¬ q.Kind = 5) (hx : q.Args[((i : Nat) : Int).toNat]? = some x) : okArgs q (i + 1) (acc ++ [x.Var]) := by
  unfold okArgs at h ⊢
  rw [if_neg hk] at h ⊢
  rw [take_mapS hx, h]
theorem okArgs.done {q : DPlain} {i : Nat} {acc : List ByteArray} (h : okArgs q i acc) (hi : i ≤ q.Args.length) (he : ¬ (i : Int) < q.Args.length ∨ ¬ q.Kind ≠ 5) : acc = argsP q := by
  unfold okArgs at h
  unfold argsP
  rw [h]
  by_cases e : q.Kind = 5
  · rw [if_pos e, if_pos e]
  · rw [if_neg e, if_neg e, List.take_of_length_le (by omega)]
def okOn (q : DPlain) (i : Nat) (acc : List ByteArray) : Prop := acc = argsP q ++ ((if q.Reset = true then [q.Every.Var] else []) ++ (q.On.take i).map DCond.Var)
theorem okOn.zeroT {q : DPlain} {i : Nat} {acc : List ByteArray} (h : okArgs q i acc) (hi : i ≤ q.Args.length) (he : ¬ (i : Int) < q.Args.length ∨ ¬ q.Kind ≠ 5) (hr : q.Reset = true) : okOn q 0 (acc ++ [q.Every.Var]) := by
  rw [okOn, h.done hi he, if_pos hr]; simp
theorem okOn.zeroF {q : DPlain} {i : Nat} {acc : List ByteArray} (h : okArgs q i acc) (hi : i ≤ q.Args.length) (he : ¬ (i : Int) < q.Args.length ∨ ¬ q.Kind ≠ 5) (hr : q.Reset = false) : okOn q 0 acc := by
  rw [okOn, h.done hi he, hr]; simp
theorem okOn.next {q : DPlain} {i : Nat} {acc : List ByteArray} {x : DCond} (h : okOn q i acc) (hx : q.On[((i : Nat) : Int).toNat]? = some x) : okOn q (i + 1) (acc ++ [x.Var]) := by
  unfold okOn at h ⊢
  rw [take_mapS hx, h]
  simp [List.append_assoc]
theorem okOn.done {q : DPlain} {i : Nat} {acc : List ByteArray} (h : okOn q i acc) (hi : ¬ (i : Int) < q.On.length) : acc = rawP q := by
  rw [h, List.take_of_length_le (by omega)]
  rfl

def okF (l : List ByteArray) (k : Nat) (out : List ByteArray) : Prop := out = (l.take k).filter (fun s => decide (¬ s = ⟨#[]⟩)) ∧ out.length ≤ k
theorem okF.zero {l : List ByteArray} : okF l 0 [] := ⟨by simp, by simp⟩
theorem okF.next {l : List ByteArray} {k : Nat} {out : List ByteArray} {x : ByteArray} (h : okF l k out) (hx : l[((k : Nat) : Int).toNat]? = some x) (hn : ¬ x = ⟨#[]⟩) : okF l (k + 1) (out ++ [x]) :=
  ⟨by rw [take_filtT hx (by simpa using hn), h.1], by have := h.2; simp; omega⟩
theorem okF.skip {l : List ByteArray} {k : Nat} {out : List ByteArray} {x : ByteArray} (h : okF l k out) (hx : l[((k : Nat) : Int).toNat]? = some x) (hn : ¬ ¬ x = ⟨#[]⟩) : okF l (k + 1) out :=
  ⟨by rw [take_filtF hx (by simpa using hn), h.1], by have := h.2; omega⟩
theorem okF.done {l : List ByteArray} {k : Nat} {out : List ByteArray} {q : DPlain} (h : okF l k out) (hk : ¬ (k : Int) < l.length) (hl : l = rawP q) : readsP q = out := by
  rw [h.1, List.take_of_length_le (by omega), hl]
  rfl

abbrev plainB (q : DPlain) : Blk := .cells 100 [.i q.Kind, .lst 1 (q.Names.map AV.s) none, .i q.Op, .lst 2 (q.Args.map DAtom.enc) none, .lst 1 (q.Init.map AV.i) none, .i q.Node, .b q.Reset, .s q.Every.Var, .i q.Every.N, .lst 2 (q.On.map DCond.enc) none]

theorem n109 : (Try.f109.name == "runtime.NumGoroutine") = false := by kernel_rfl
theorem reads109 (q : DPlain) (hl : q.Args.length + q.On.length ≤ 100000) : PCall Try.prog 109 [q.enc] (.lst 1 ((readsP q).map AV.s) none) := by
  refine pcall_of_vc tabOK Try.func109 n109 rfl (by repeat' first | exact pure_nil | refine pure_cons ?_ ?_ | exact .raw _ | exact pure_enc _ | exact pure_lst _ | exact pure_strs _ | exact pure_ints _ | exact DTy.pure _ | exact DTy.pures _ | exact DEnum.pure _ | exact DEnum.pures _ | exact DDecl.pure _ | exact DDecl.pures _ | exact DEq.pure _ | exact DEq.pures _ | exact DNode.pure _ | exact DNode.pures _ | exact DProg.pure _ | exact DProg.pures _ | exact DCond.pure _ | exact DCond.pures _ | exact DAtom.pure _ | exact DAtom.pures _ | exact DPlain.pure _ | exact DPlain.pures _ | exact DVar.pure _ | exact DVar.pures _ | exact DFlow.pure _ | exact DFlow.pures _ | exact DFlows.pure _ | exact DFlows.pures _ | exact DAsked.pure _ | exact DAsked.pures _ | exact DFault.pure _ | exact DFault.pures _ | exact DCell.pure _ | exact DCell.pures _ | exact DReply.pure _ | exact DReply.pures _ | exact DAsk.pure _ | exact DAsk.pures _ | exact DOp.pure _ | exact DOp.pures _ | exact pure_list (fun x => DDecl.pures x) _ | exact .fn _ _ _ pure_nil pure_nil | refine .agg _ ?_ | refine .tup _ ?_ | assumption) (by repeat' first | exact pure_nil | refine pure_cons ?_ ?_ | exact .raw _ | exact pure_enc _ | exact pure_lst _ | exact pure_strs _ | exact pure_ints _ | exact DTy.pure _ | exact DTy.pures _ | exact DEnum.pure _ | exact DEnum.pures _ | exact DDecl.pure _ | exact DDecl.pures _ | exact DEq.pure _ | exact DEq.pures _ | exact DNode.pure _ | exact DNode.pures _ | exact DProg.pure _ | exact DProg.pures _ | exact DCond.pure _ | exact DCond.pures _ | exact DAtom.pure _ | exact DAtom.pures _ | exact DPlain.pure _ | exact DPlain.pures _ | exact DVar.pure _ | exact DVar.pures _ | exact DFlow.pure _ | exact DFlow.pures _ | exact DFlows.pure _ | exact DFlows.pures _ | exact DAsked.pure _ | exact DAsked.pures _ | exact DFault.pure _ | exact DFault.pures _ | exact DCell.pure _ | exact DCell.pures _ | exact DReply.pure _ | exact DReply.pures _ | exact DAsk.pure _ | exact DAsk.pures _ | exact DOp.pure _ | exact DOp.pures _ | exact pure_list (fun x => DDecl.pures x) _ | exact .fn _ _ _ pure_nil pure_nil | refine .agg _ ?_ | refine .tup _ ?_ | assumption) (n := 74) rfl (rs := [.tmp 2]) rfl ?_
  repeat' first
    | exact finB rfl
    | exact finI rfl
    | exact finP rfl
    | exact absurd rfl (by assumption)
    | simp only [go_sem, Nat.reduceAdd, Nat.reduceSub, Nat.reduceMul, Nat.reduceLT, Nat.reduceLeDiff, Nat.reduceEqDiff, Nat.reduceBEq, Nat.reduceBNe, Nat.reducePow, Int.reduceEq, Int.reduceNe, Int.reduceLT, Int.reduceLE, Int.reduceGT, Int.reduceGE, Int.reduceAdd, Int.reduceSub, Int.reduceNeg, Int.reduceMul, not_true_eq_false, not_false_eq_true, true_and, and_true, Int.reduceToNat]
    | (intro _)
    | refine brK_dec (fun _ => ?_) (fun _ => ?_)
    | refine brK_split (fun hb_ => ?_) (fun hb_ => ?_)
    | refine gK_dec (fun _ => ?_) (fun _ => ?_)
    | refine gK_split (fun hb_ => ?_) (fun hb_ => ?_)
    | refine gqK_dec (fun _ => ?_) (fun _ => ?_)
    | refine ⟨by omega, ?_⟩
    | refine elemHave (by omega) (by assumption) ?_
    | refine elemMap (by omega) (by omega) (fun x hx => ?_)
    | refine drawK mo (by kernel_rfl) ?_
    | (simp only [map_snoc])
    | (simp only [go_sem, Nat.reduceAdd, Nat.reduceSub, Nat.reduceMul, Nat.reduceLT, Nat.reduceLeDiff, Nat.reduceEqDiff, Nat.reduceBEq, Nat.reduceBNe, Nat.reducePow, Int.reduceEq, Int.reduceNe, Int.reduceLT, Int.reduceLE, Int.reduceGT, Int.reduceGE, Int.reduceAdd, Int.reduceSub, Int.reduceNeg, Int.reduceMul, not_true_eq_false, not_false_eq_true, true_and, and_true, Int.reduceToNat, at_app0, set_app0])
    | (refine ⟨by first | omega | (simp only [List.length_append, List.length_map, List.length_cons, List.length_nil]; omega), ?_⟩)
    | ((fail_if_success (clear hraw)); have hraw := okOn.done hpj.1 (by assumption); have hrl := raw_le q; rw [← hraw] at hrl)
    | exact loopFr _ (by omega) ⟨i + 1, acc ++ [x.Var], _, by omega, rfl, ⟨hpi.1.next (by assumption) (by assumption), by simp <;> omega⟩, rfl, (by first | rfl | (simp; done) | (simp; rfl))⟩ (.next rfl (by omega) (.cons (by first | rfl | (simp; done) | (simp; rfl)) .nil)) rfl
    | (refine loop_fr [3, 4, 9, 10, 11, 12, 13, 14, 15, 16, 17, 18, 19, 20, 21, 22, 23, 24, 25, 26, 27, 28, 29] (fun mm_ CC_ hh_ => ∃ (i : Nat) (acc : List ByteArray) (r_ : List Blk), i ≤ q.Args.length ∧ mm_ = q.Args.length - i ∧ (okArgs q i acc ∧ acc.length ≤ i) ∧ CC_ = [(4, .raw (.int .i64 ((i : Nat) : Int))), (3, .lst 1 (acc.map AV.s) (some 1))] ∧ hh_ = plainB q :: .tok 9 1 (acc.map AV.s).length :: r_) (q.Args.length) _ ⟨0, [], _, by omega, by omega, ⟨.zero, by simp⟩, rfl, (by first | rfl | (simp; done) | (simp; rfl))⟩ (.cons (by first | rfl | (simp; done) | (simp; rfl)) (.cons (by first | rfl | (simp; done) | (simp; rfl)) .nil)) ?_; rintro mm_ CC_ ji hh_ ⟨i, acc, ri, hi, rfl, hpi, rfl, rfl⟩)
    | exact loopFr _ (by omega) ⟨j + 1, ac2 ++ [x.Var], _, by omega, rfl, ⟨hpj.1.next (by assumption), by simp <;> omega⟩, rfl, (by first | rfl | (simp; done) | (simp; rfl))⟩ (.next rfl (by omega) (.cons (by first | rfl | (simp; done) | (simp; rfl)) .nil)) rfl
    | (refine loop_fr [3, 5, 38, 39, 40, 41, 42, 43, 44, 45, 46, 47, 48, 49, 50, 51, 52, 53] (fun mm_ CC_ hh_ => ∃ (j : Nat) (ac2 : List ByteArray) (r_ : List Blk), j ≤ q.On.length ∧ mm_ = q.On.length - j ∧ (okOn q j ac2 ∧ ac2.length ≤ q.Args.length + 1 + j) ∧ CC_ = [(5, .raw (.int .i64 ((j : Nat) : Int))), (3, .lst 1 (ac2.map AV.s) (some 1))] ∧ hh_ = plainB q :: .tok 9 1 (ac2.map AV.s).length :: r_) (q.On.length) _ ⟨0, acc ++ [q.Every.Var], _, by omega, by omega, ⟨.zeroT hpi.1 hi (by first | exact .inl (by assumption) | exact .inr (by assumption)) hb_, by simp <;> omega⟩, rfl, (by first | rfl | (simp; done) | (simp; rfl))⟩ (.cons (by first | rfl | (simp; done) | (simp; rfl)) (.cons (by first | rfl | (simp; done) | (simp; rfl)) .nil)) ?_; rintro mm_ CC_ jj hh_ ⟨j, ac2, rj, hj, rfl, hpj, rfl, rfl⟩)
    | exact loopFr _ (by omega) ⟨j + 1, ac2 ++ [x.Var], _, by omega, rfl, ⟨hpj.1.next (by assumption), by simp <;> omega⟩, rfl, (by first | rfl | (simp; done) | (simp; rfl))⟩ (.next rfl (by omega) (.cons (by first | rfl | (simp; done) | (simp; rfl)) .nil)) rfl
    | (refine loop_fr [3, 5, 38, 39, 40, 41, 42, 43, 44, 45, 46, 47, 48, 49, 50, 51, 52, 53] (fun mm_ CC_ hh_ => ∃ (j : Nat) (ac2 : List ByteArray) (r_ : List Blk), j ≤ q.On.length ∧ mm_ = q.On.length - j ∧ (okOn q j ac2 ∧ ac2.length ≤ q.Args.length + 1 + j) ∧ CC_ = [(5, .raw (.int .i64 ((j : Nat) : Int))), (3, .lst 1 (ac2.map AV.s) (some 1))] ∧ hh_ = plainB q :: .tok 9 1 (ac2.map AV.s).length :: r_) (q.On.length) _ ⟨0, acc, _, by omega, by omega, ⟨.zeroF hpi.1 hi (by first | exact .inl (by assumption) | exact .inr (by assumption)) hb_, by omega⟩, rfl, (by first | rfl | (simp; done) | (simp; rfl))⟩ (.cons (by first | rfl | (simp; done) | (simp; rfl)) (.cons (by first | rfl | (simp; done) | (simp; rfl)) .nil)) ?_; rintro mm_ CC_ jj hh_ ⟨j, ac2, rj, hj, rfl, hpj, rfl, rfl⟩)
    | (refine ⟨by have := hpk.2; omega, ?_⟩)
    | (rw [hpk.done (by assumption) hraw]; exact ⟨_, rfl, false, .tok _ _ _⟩)
    | exact loopFr _ (by omega) ⟨k + 1, out ++ [x], _, by omega, rfl, hpk.next (by assumption) (by assumption), rfl, (by first | rfl | (simp; done) | (simp; rfl))⟩ (.next rfl (by omega) (.cons (by first | rfl | (simp; done) | (simp; rfl)) .nil)) rfl
    | (refine loop_fr [6, 7, 55, 56, 57, 58, 59, 60, 61, 62, 63, 64, 65, 66, 67, 68, 69, 70, 71, 72] (fun mm_ CC_ hh_ => ∃ (k : Nat) (out : List ByteArray) (r_ : List Blk), k ≤ ac2.length ∧ mm_ = ac2.length - k ∧ (okF ac2 k out) ∧ CC_ = [(7, .raw (.int .i64 ((k : Nat) : Int))), (6, .lst 1 (out.map AV.s) (some (rj.length + 1 + 1)))] ∧ hh_ = plainB q :: .tok 9 1 (ac2.map AV.s).length :: (rj ++ .tok 9 1 (out.map AV.s).length :: r_)) (ac2.length) _ ⟨0, [], _, by omega, by omega, .zero, rfl, (by first | rfl | (simp; done) | (simp; rfl))⟩ (.cons (by first | rfl | (simp; done) | (simp; rfl)) (.cons (by first | rfl | (simp; done) | (simp; rfl)) .nil)) ?_; rintro mm_ CC_ jk hh_ ⟨k, out, rk, hk, rfl, hpk, rfl, rfl⟩)
    | exact loopFr _ (by omega) ⟨k + 1, out, _, by omega, rfl, hpk.skip (by assumption) (by assumption), rfl, (by first | rfl | (simp; done) | (simp; rfl))⟩ (.next rfl (by omega) (.cons (by first | rfl | (simp; done) | (simp; rfl)) .nil)) rfl
    | (refine loop_fr [6, 7, 55, 56, 57, 58, 59, 60, 61, 62, 63, 64, 65, 66, 67, 68, 69, 70, 71, 72] (fun mm_ CC_ hh_ => ∃ (k : Nat) (out : List ByteArray) (r_ : List Blk), k ≤ ac2.length ∧ mm_ = ac2.length - k ∧ (okF ac2 k out) ∧ CC_ = [(7, .raw (.int .i64 ((k : Nat) : Int))), (6, .lst 1 (out.map AV.s) (some (rj.length + 1 + 1)))] ∧ hh_ = plainB q :: .tok 9 1 (ac2.map AV.s).length :: (rj ++ .tok 9 1 (out.map AV.s).length :: r_)) (ac2.length) _ ⟨0, [], _, by omega, by omega, .zero, rfl, (by first | rfl | (simp; done) | (simp; rfl))⟩ (.cons (by first | rfl | (simp; done) | (simp; rfl)) (.cons (by first | rfl | (simp; done) | (simp; rfl)) .nil)) ?_; rintro mm_ CC_ jk hh_ ⟨k, out, rk, hk, rfl, hpk, rfl, rfl⟩)
end Go.Proofs.Ytfjjckaiopbbkaa
