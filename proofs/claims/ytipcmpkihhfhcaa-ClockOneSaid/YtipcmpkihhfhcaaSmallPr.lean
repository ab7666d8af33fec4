import Derived.Test.YtipcmpkihhfhcaaSmallE
import Derived.Test.YtipcmpkihhfhcaaData
import Derived.Test.YtipcmpkihhfhcaaAbsZ
namespace Go.Proofs.Ytipcmpkihhfhcaa
open Go.Abs
set_option maxRecDepth 20000
set_option linter.unusedSimpArgs false
set_option linter.unusedVariables false
set_option maxHeartbeats 1000000
attribute [local irreducible] vc vcOps vcStep vcGuard prK hrK gK gsK brK callK ElemK SeqK BlockK ScopeK OpsK CallK LoopK LoopGo finPost ACall PCall PCallE BCall vqOps vqStep vqGuard qrK heK pcK gqK gqsK QOpsK qcallK DrawK
abbrev fewD (l : List DDecl) : Prop := l.length ≤ 20 ∧ ∀ d ∈ l, d.Name.size ≤ 100 ∧ d.On.size ≤ 100 ∧ d.Ctor.size ≤ 100
abbrev okEnum (e : DEnum) : Prop := e.Ctors.length ≤ 12 ∧ e.Name.size ≤ 100 ∧ ∀ c ∈ e.Ctors, c.size ≤ 100
abbrev okEnums (l : List DEnum) : Prop := l.length ≤ 8 ∧ ∀ e ∈ l, okEnum e
abbrev okEq (x : DEq) : Prop := x.Names.length ≤ 20 ∧ okE x.E ∧ ∀ s ∈ x.Names, s.size ≤ 100
abbrev okNode (n : DNode) : Prop := fewD n.Ins ∧ fewD n.Outs ∧ fewD n.Vars ∧ n.Eqs.length ≤ 30 ∧ n.Name.size ≤ 100 ∧ ∀ x ∈ n.Eqs, okEq x
abbrev okProg (p : DProg) : Prop := okEnums p.Enums ∧ p.Nodes.length ≤ 10 ∧ ∀ n ∈ p.Nodes, okNode n

theorem n13 : (Try.f13.name == "runtime.NumGoroutine") = false := by kernel_rfl
theorem few_d (l : List DDecl) : PCallE Try.prog 13 [.lst 6 (l.map DDecl.enc) none] (fun r => ∃ b : Bool, r = .b b ∧ (b = true → fewD l)) := by
  refine pcallE_of_vc tabOK Try.func13 n13 rfl (by repeat' first | exact pure_nil | refine pure_cons ?_ ?_ | exact .raw _ | exact pure_enc _ | exact pure_lst _ | exact pure_strs _ | exact pure_ints _ | exact DTy.pure _ | exact DTy.pures _ | exact DEnum.pure _ | exact DEnum.pures _ | exact DDecl.pure _ | exact DDecl.pures _ | exact DEq.pure _ | exact DEq.pures _ | exact DNode.pure _ | exact DNode.pures _ | exact DProg.pure _ | exact DProg.pures _ | exact DCond.pure _ | exact DCond.pures _ | exact DAtom.pure _ | exact DAtom.pures _ | exact DPlain.pure _ | exact DPlain.pures _ | exact DVar.pure _ | exact DVar.pures _ | exact DFlow.pure _ | exact DFlow.pures _ | exact DFlows.pure _ | exact DFlows.pures _ | exact DAsked.pure _ | exact DAsked.pures _ | exact DFault.pure _ | exact DFault.pures _ | exact DCell.pure _ | exact DCell.pures _ | exact DReply.pure _ | exact DReply.pures _ | exact DAsk.pure _ | exact DAsk.pures _ | exact DOp.pure _ | exact DOp.pures _ | exact pure_list (fun x => DDecl.pures x) _ | exact .fn _ _ _ pure_nil pure_nil | refine .agg _ ?_ | refine .tup _ ?_ | assumption) (n := 38) rfl (rs := [.tmp 2]) rfl ?_
  repeat' first
    | exact finB rfl
    | exact finI rfl
    | exact finP rfl
    | exact absurd rfl (by assumption)
    | simp only [go_sem, Nat.reduceAdd, Nat.reduceSub, Nat.reduceMul, Nat.reduceLT, Nat.reduceLeDiff, Nat.reduceEqDiff, Nat.reduceBEq, Nat.reduceBNe, Nat.reducePow, Int.reduceEq, Int.reduceNe, Int.reduceLT, Int.reduceLE, Int.reduceGT, Int.reduceGE, Int.reduceAdd, Int.reduceSub, Int.reduceNeg, Int.reduceMul, not_true_eq_false, not_false_eq_true, true_and, and_true, Int.reduceToNat]
    | (intro _)
    | refine brK_dec (fun _ => ?_) (fun _ => ?_)
    | refine brK_any ?_ ?_
    | refine gK_dec (fun _ => ?_) (fun _ => ?_)
    | refine gK_any ?_ ?_
    | refine gqK_dec (fun _ => ?_) (fun _ => ?_)
    | refine ⟨by omega, ?_⟩
    | refine elemHave (by omega) (by assumption) ?_
    | refine elemMap (by omega) (by omega) (fun x hx => ?_)
    | refine drawK mo (by kernel_rfl) ?_
    | (exact finBk (K := fun b => b = true → fewD l) rfl (fun h => Bool.noConfusion h))
    | (exact finBk (K := fun b => b = true → fewD l) rfl (fun hb => ⟨by have := of_decide_eq_true hb; omega, take_full hpi (by omega)⟩))
    | exact loopFrH _ (by omega) ⟨i + 1, by omega, rfl, take_all hpi (by assumption) ⟨by omega, by omega, by omega⟩, rfl⟩ (.next rfl (by omega) .nil) rfl
    | (refine loop_frH [2, 3, 4, 5, 6, 7, 8, 9, 10, 11, 12, 13, 14, 15, 16, 17, 18, 19, 20, 21, 22, 23, 24, 25, 26, 27, 28, 29, 30, 31, 32, 33, 34] (fun mm_ CC_ => ∃ (i : Nat), i ≤ l.length ∧ mm_ = l.length - i ∧ (∀ d ∈ l.take i, d.Name.size ≤ 100 ∧ d.On.size ≤ 100 ∧ d.Ctor.size ≤ 100) ∧ CC_ = [(3, .raw (.int .i64 ((i : Nat) : Int)))]) (l.length) _ ⟨0, by omega, by omega, by simp, rfl⟩ (.cons rfl .nil) ?_; rintro mm_ CC_ ji ⟨i, hi, rfl, hpi, rfl⟩)

theorem n12 : (Try.f12.name == "runtime.NumGoroutine") = false := by kernel_rfl
theorem small_en (l : List DEnum) : PCallE Try.prog 12 [.lst 2 (l.map DEnum.enc) none] (fun r => ∃ b : Bool, r = .b b ∧ (b = true → okEnums l)) := by
  refine pcallE_of_vc tabOK Try.func12 n12 rfl (by repeat' first | exact pure_nil | refine pure_cons ?_ ?_ | exact .raw _ | exact pure_enc _ | exact pure_lst _ | exact pure_strs _ | exact pure_ints _ | exact DTy.pure _ | exact DTy.pures _ | exact DEnum.pure _ | exact DEnum.pures _ | exact DDecl.pure _ | exact DDecl.pures _ | exact DEq.pure _ | exact DEq.pures _ | exact DNode.pure _ | exact DNode.pures _ | exact DProg.pure _ | exact DProg.pures _ | exact DCond.pure _ | exact DCond.pures _ | exact DAtom.pure _ | exact DAtom.pures _ | exact DPlain.pure _ | exact DPlain.pures _ | exact DVar.pure _ | exact DVar.pures _ | exact DFlow.pure _ | exact DFlow.pures _ | exact DFlows.pure _ | exact DFlows.pures _ | exact DAsked.pure _ | exact DAsked.pures _ | exact DFault.pure _ | exact DFault.pures _ | exact DCell.pure _ | exact DCell.pures _ | exact DReply.pure _ | exact DReply.pures _ | exact DAsk.pure _ | exact DAsk.pures _ | exact DOp.pure _ | exact DOp.pures _ | exact pure_list (fun x => DDecl.pures x) _ | exact .fn _ _ _ pure_nil pure_nil | refine .agg _ ?_ | refine .tup _ ?_ | assumption) (n := 50) rfl (rs := [.tmp 2]) rfl ?_
  repeat' first
    | exact finB rfl
    | exact finI rfl
    | exact finP rfl
    | exact absurd rfl (by assumption)
    | simp only [go_sem, Nat.reduceAdd, Nat.reduceSub, Nat.reduceMul, Nat.reduceLT, Nat.reduceLeDiff, Nat.reduceEqDiff, Nat.reduceBEq, Nat.reduceBNe, Nat.reducePow, Int.reduceEq, Int.reduceNe, Int.reduceLT, Int.reduceLE, Int.reduceGT, Int.reduceGE, Int.reduceAdd, Int.reduceSub, Int.reduceNeg, Int.reduceMul, not_true_eq_false, not_false_eq_true, true_and, and_true, Int.reduceToNat]
    | (intro _)
    | refine brK_dec (fun _ => ?_) (fun _ => ?_)
    | refine brK_any ?_ ?_
    | refine gK_dec (fun _ => ?_) (fun _ => ?_)
    | refine gK_any ?_ ?_
    | refine gqK_dec (fun _ => ?_) (fun _ => ?_)
    | refine ⟨by omega, ?_⟩
    | refine elemHave (by omega) (by assumption) ?_
    | refine elemMap (by omega) (by omega) (fun x hx => ?_)
    | refine drawK mo (by kernel_rfl) ?_
    | (exact finBk (K := fun b => b = true → okEnums l) rfl (fun h => Bool.noConfusion h))
    | (exact finBk (K := fun b => b = true → okEnums l) rfl (fun hb => ⟨by omega, take_full hpi (by omega)⟩))
    | exact loopFrH _ (by omega) ⟨k + 1, by omega, rfl, take_all hpk (by assumption) (by omega), rfl⟩ (.next rfl (by omega) .nil) rfl
    | (refine loop_frH [2, 4, 30, 31, 32, 33, 34, 35, 36, 37, 38, 39, 40, 41, 42, 43, 44, 45, 46, 47, 48, 49] (fun mm_ CC_ => ∃ (k : Nat), k ≤ x.Ctors.length ∧ mm_ = x.Ctors.length - k ∧ (∀ c ∈ x.Ctors.take k, c.size ≤ 100) ∧ CC_ = [(4, .raw (.int .i64 ((k : Nat) : Int)))]) (x.Ctors.length) _ ⟨0, by omega, by omega, by simp, rfl⟩ (.cons rfl .nil) ?_; rintro mm_ CC_ jk ⟨k, hk, rfl, hpk, rfl⟩)
    | exact loopFrH _ (by omega) ⟨i + 1, by omega, rfl, take_all hpi (by assumption) ⟨by omega, by omega, take_full hpk (by omega)⟩, rfl⟩ (.next rfl (by omega) .nil) rfl
    | (refine loop_frH [2, 3, 4, 8, 9, 10, 11, 12, 13, 14, 15, 16, 17, 18, 19, 20, 21, 22, 23, 24, 25, 26, 27, 28, 29, 30, 31, 32, 33, 34, 35, 36, 37, 38, 39, 40, 41, 42, 43, 44, 45, 46, 47, 48, 49] (fun mm_ CC_ => ∃ (i : Nat), i ≤ l.length ∧ mm_ = l.length - i ∧ (∀ e ∈ l.take i, okEnum e) ∧ CC_ = [(3, .raw (.int .i64 ((i : Nat) : Int)))]) (l.length) _ ⟨0, by omega, by omega, by simp, rfl⟩ (.cons rfl .nil) ?_; rintro mm_ CC_ ji ⟨i, hi, rfl, hpi, rfl⟩)

theorem n4 : (Try.f4.name == "runtime.NumGoroutine") = false := by kernel_rfl
theorem small_p (p : DProg) : PCallE Try.prog 4 [p.enc] (fun r => ∃ b : Bool, r = .b b ∧ (b = true → okProg p)) := by
  refine pcallE_of_vc tabOK Try.func4 n4 rfl (by repeat' first | exact pure_nil | refine pure_cons ?_ ?_ | exact .raw _ | exact pure_enc _ | exact pure_lst _ | exact pure_strs _ | exact pure_ints _ | exact DTy.pure _ | exact DTy.pures _ | exact DEnum.pure _ | exact DEnum.pures _ | exact DDecl.pure _ | exact DDecl.pures _ | exact DEq.pure _ | exact DEq.pures _ | exact DNode.pure _ | exact DNode.pures _ | exact DProg.pure _ | exact DProg.pures _ | exact DCond.pure _ | exact DCond.pures _ | exact DAtom.pure _ | exact DAtom.pures _ | exact DPlain.pure _ | exact DPlain.pures _ | exact DVar.pure _ | exact DVar.pures _ | exact DFlow.pure _ | exact DFlow.pures _ | exact DFlows.pure _ | exact DFlows.pures _ | exact DAsked.pure _ | exact DAsked.pures _ | exact DFault.pure _ | exact DFault.pures _ | exact DCell.pure _ | exact DCell.pures _ | exact DReply.pure _ | exact DReply.pures _ | exact DAsk.pure _ | exact DAsk.pures _ | exact DOp.pure _ | exact DOp.pures _ | exact pure_list (fun x => DDecl.pures x) _ | exact .fn _ _ _ pure_nil pure_nil | refine .agg _ ?_ | refine .tup _ ?_ | assumption) (n := 94) rfl (rs := [.tmp 2]) rfl ?_
  repeat' first
    | exact finB rfl
    | exact finI rfl
    | exact finP rfl
    | exact absurd rfl (by assumption)
    | simp only [go_sem, Nat.reduceAdd, Nat.reduceSub, Nat.reduceMul, Nat.reduceLT, Nat.reduceLeDiff, Nat.reduceEqDiff, Nat.reduceBEq, Nat.reduceBNe, Nat.reducePow, Int.reduceEq, Int.reduceNe, Int.reduceLT, Int.reduceLE, Int.reduceGT, Int.reduceGE, Int.reduceAdd, Int.reduceSub, Int.reduceNeg, Int.reduceMul, not_true_eq_false, not_false_eq_true, true_and, and_true, Int.reduceToNat]
    | (intro _)
    | refine brK_dec (fun _ => ?_) (fun _ => ?_)
    | refine brK_any ?_ ?_
    | refine gK_dec (fun _ => ?_) (fun _ => ?_)
    | refine gK_any ?_ ?_
    | refine gqK_dec (fun _ => ?_) (fun _ => ?_)
    | refine ⟨by omega, ?_⟩
    | refine elemHave (by omega) (by assumption) ?_
    | refine elemMap (by omega) (by omega) (fun x hx => ?_)
    | refine drawK mo (by kernel_rfl) ?_
    | (exact finBk (K := fun b => b = true → okProg p) rfl (fun hb => ⟨hbe, by omega, take_full hpi (by omega)⟩))
    | (exact finBk (K := fun b => b = true → okProg p) rfl (fun h => Bool.noConfusion h))
    | (refine PCallE.call (small_en _) (fun r hr => ?_); obtain ⟨b, rfl, hbe⟩ := hr; cases b <;> (try replace hbe := hbe rfl))
    | (refine PCallE.call (few_d _) (fun r hr => ?_); obtain ⟨b, rfl, hbd⟩ := hr; cases b <;> (try replace hbd := hbd rfl))
    | (refine PCallE.call (small_e _) (fun r hr => ?_); obtain ⟨b, rfl, hbx⟩ := hr; cases b <;> (try replace hbx := hbx rfl))
    | exact loopFrH _ (by omega) ⟨j + 1, by omega, rfl, take_all hpj (by assumption) (by omega), rfl⟩ (.next rfl (by omega) .nil) rfl
    | (refine loop_frH [2, 7, 80, 81, 82, 83, 84, 85, 86, 87, 88, 89, 90, 91, 92, 93] (fun mm_ CC_ => ∃ (j : Nat), j ≤ x.Names.length ∧ mm_ = x.Names.length - j ∧ (∀ s ∈ x.Names.take j, s.size ≤ 100) ∧ CC_ = [(7, .raw (.int .i64 ((j : Nat) : Int)))]) (x.Names.length) _ ⟨0, by omega, by omega, by simp, rfl⟩ (.cons rfl .nil) ?_; rintro mm_ CC_ jj ⟨j, hj, rfl, hpj, rfl⟩)
    | exact loopFrX _ (by omega) _ ⟨k + 1, by omega, rfl, take_all hpk (by assumption) ⟨by omega, by assumption, take_full hpj (by omega)⟩, rfl⟩ (.next rfl (by omega) .nil) rfl (by first | rfl | (simp only [List.append_assoc, List.cons_append, List.nil_append]; rfl))
    | (refine loop_frX [2, 5, 6, 7, 58, 59, 60, 61, 62, 63, 64, 65, 66, 67, 68, 69, 70, 71, 72, 73, 74, 75, 76, 77, 78, 79, 80, 81, 82, 83, 84, 85, 86, 87, 88, 89, 90, 91, 92, 93] (fun mm_ CC_ => ∃ (k : Nat), k ≤ x.Eqs.length ∧ mm_ = x.Eqs.length - k ∧ (∀ q ∈ x.Eqs.take k, okEq q) ∧ CC_ = [(5, .raw (.int .i64 ((k : Nat) : Int)))]) (x.Eqs.length) _ ⟨0, by omega, by omega, by simp, rfl⟩ (.cons rfl .nil) ?_; rintro mm_ CC_ jk rk ⟨k, hk, rfl, hpk, rfl⟩)
    | exact loopFrX _ (by omega) _ ⟨i + 1, by omega, rfl, take_all hpi (by assumption) ⟨by assumption, by assumption, by assumption, by omega, by omega, take_full hpk (by omega)⟩, rfl⟩ (.next rfl (by omega) .nil) rfl (by first | rfl | (simp only [List.append_assoc, List.cons_append, List.nil_append]; rfl))
    | (refine loop_frX [2, 3, 4, 5, 6, 7, 18, 19, 20, 21, 22, 23, 24, 25, 26, 27, 28, 29, 30, 31, 32, 33, 34, 35, 36, 37, 38, 39, 40, 41, 42, 43, 44, 45, 46, 47, 48, 49, 50, 51, 52, 53, 54, 55, 56, 57, 58, 59, 60, 61, 62, 63, 64, 65, 66, 67, 68, 69, 70, 71, 72, 73, 74, 75, 76, 77, 78, 79, 80, 81, 82, 83, 84, 85, 86, 87, 88, 89, 90, 91, 92, 93] (fun mm_ CC_ => ∃ (i : Nat), i ≤ p.Nodes.length ∧ mm_ = p.Nodes.length - i ∧ (∀ n ∈ p.Nodes.take i, okNode n) ∧ CC_ = [(3, .raw (.int .i64 ((i : Nat) : Int)))]) (p.Nodes.length) _ ⟨0, by omega, by omega, by simp, rfl⟩ (.cons rfl .nil) ?_; rintro mm_ CC_ ji ri ⟨i, hi, rfl, hpi, rfl⟩)
end Go.Proofs.Ytipcmpkihhfhcaa
