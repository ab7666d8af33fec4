/- For every input the law ScopeArms returns true: the tied card, by way of its row. No further condition. -/
import Derived.Test.YtipcmpkihhfhcaaDoorRows
import Derived.Test.YtipcmpkihhfhcaaDoorCards
import Derived.Test.YtipcmpkihhfhcaaDoorTie
import Derived.ProofKit
import Derived.OpenShut
import Derived.LaidMore
import Derived.Lay
import Derived.SevenTiedAt
import Derived.Stop.Joined
import Derived.Test.YtipcmpkihhfhcaaDoorBunA
import Derived.Test.YtipcmpkihhfhcaaDoorBunB
import Derived.Test.YtipcmpkihhfhcaaDoorBunC
import Derived.Test.YtipcmpkihhfhcaaDoorBunD
namespace Go.Proofs.YtipcmpkihhfhcaaDoor
open Go.Abs
set_option maxRecDepth 20000
set_option linter.unusedSimpArgs false
set_option linter.unusedVariables false
set_option maxHeartbeats 1000000
attribute [local irreducible] vc vcOps vcStep vcGuard prK hrK gK gsK brK callK ElemK SeqK BlockK ScopeK OpsK CallK LoopK LoopGo finPost ACall PCall PCallE BCall vqOps vqStep vqGuard qrK heK pcK gqK gqsK QOpsK qcallK DrawK
open Go.ChangeShapes Go.WideShapes Go.ChangeAt Go.RowKit
theorem n4 : (Tryd.f4.name == "runtime.NumGoroutine") = false := by kernel_rfl
theorem law_arms (l : List DEnum) (s : ByteArray) : PCall Tryd.prog 4 [.lst 2 (l.map DEnum.enc) none, .s s] (.b true) := by
  refine pcall_of_vc tabOK Tryd.func4 n4 rfl (by repeat' first | exact pure_nil | refine pure_cons ?_ ?_ | exact .raw _ | exact pure_enc _ | exact pure_lst _ | exact pure_strs _ | exact pure_ints _ | exact DTy.pure _ | exact DTy.pures _ | exact DEnum.pure _ | exact DEnum.pures _ | exact DDecl.pure _ | exact DDecl.pures _ | exact DEq.pure _ | exact DEq.pures _ | exact DNode.pure _ | exact DNode.pures _ | exact DProg.pure _ | exact DProg.pures _ | exact DCond.pure _ | exact DCond.pures _ | exact DAtom.pure _ | exact DAtom.pures _ | exact DPlain.pure _ | exact DPlain.pures _ | exact DVar.pure _ | exact DVar.pures _ | exact DFlow.pure _ | exact DFlow.pures _ | exact DFlows.pure _ | exact DFlows.pures _ | exact DAsked.pure _ | exact DAsked.pures _ | exact DFault.pure _ | exact DFault.pures _ | exact DCell.pure _ | exact DCell.pures _ | exact DReply.pure _ | exact DReply.pures _ | exact DAsk.pure _ | exact DAsk.pures _ | exact DOp.pure _ | exact DOp.pures _ | exact pure_list (fun x => DDecl.pures x) _ | exact .fn _ _ _ pure_nil pure_nil | refine .agg _ ?_ | refine .tup _ ?_ | assumption) (by repeat' first | exact pure_nil | refine pure_cons ?_ ?_ | exact .raw _ | exact pure_enc _ | exact pure_lst _ | exact pure_strs _ | exact pure_ints _ | exact DTy.pure _ | exact DTy.pures _ | exact DEnum.pure _ | exact DEnum.pures _ | exact DDecl.pure _ | exact DDecl.pures _ | exact DEq.pure _ | exact DEq.pures _ | exact DNode.pure _ | exact DNode.pures _ | exact DProg.pure _ | exact DProg.pures _ | exact DCond.pure _ | exact DCond.pures _ | exact DAtom.pure _ | exact DAtom.pures _ | exact DPlain.pure _ | exact DPlain.pures _ | exact DVar.pure _ | exact DVar.pures _ | exact DFlow.pure _ | exact DFlow.pures _ | exact DFlows.pure _ | exact DFlows.pures _ | exact DAsked.pure _ | exact DAsked.pures _ | exact DFault.pure _ | exact DFault.pures _ | exact DCell.pure _ | exact DCell.pures _ | exact DReply.pure _ | exact DReply.pures _ | exact DAsk.pure _ | exact DAsk.pures _ | exact DOp.pure _ | exact DOp.pures _ | exact pure_list (fun x => DDecl.pures x) _ | exact .fn _ _ _ pure_nil pure_nil | refine .agg _ ?_ | refine .tup _ ?_ | assumption) (n := 50) rfl (rs := [.tmp 4]) rfl ?_
  repeat' first
    | exact finB rfl
    | exact finI rfl
    | exact finP rfl
    | exact absurd rfl (by assumption)
    | simp only [go_sem, Nat.reduceAdd, Nat.reduceSub, Nat.reduceMul, Nat.reduceLT, Nat.reduceLeDiff, Nat.reduceEqDiff, Nat.reduceBEq, Nat.reduceBNe, Nat.reducePow, Int.reduceEq, Int.reduceNe, Int.reduceLT, Int.reduceLE, Int.reduceGT, Int.reduceGE, Int.reduceAdd, Int.reduceSub, Int.reduceNeg, Int.reduceMul, not_true_eq_false, not_false_eq_true, true_and, and_true, Int.reduceToNat]
    | (intro _)
    | refine brK_dec (fun _ => ?_) (fun _ => ?_)
    | refine brK_split (fun hb_ => ?_) (fun hb_ => ?_)
    | refine gK_dec (fun _ => ?_) (fun _ => ?_)
    | refine gK_split (fun hb_ => ?_) (fun hb_ => ?_)
    | refine gqK_dec (fun _ => ?_) (fun _ => ?_)
    | refine ⟨by omega, ?_⟩
    | refine elemHave (by omega) (by assumption) ?_
    | refine elemMap (by omega) (by omega) (fun x hx => ?_)
    | refine drawK mo (by kernel_rfl) ?_
    | ((fail_if_success (clear hb)); refine PCallE.call (small_en _) (fun r hr => ?_); obtain ⟨b, rfl, hb⟩ := hr; cases b <;> (try replace hb := hb rfl))
    | (refine PCall.call live14 ?_)
    | (refine pcK_of live14 ?_)
    | (refine PCall.call (arm146 l s) ?_; generalize hq : armF l s = q; obtain ⟨t, v, ok⟩ := q)
    | (refine PCall.call (arm91 l s) ?_; rw [hq])
    | (exact absurd rfl (by assumption))
    | (simp only [beq_self_eq_true])
    | (exact finBq rfl (by simp))
theorem law_arms_ty (xs : List AV) (h : TyAll ti Tryd.f4.params.toList xs) : PCall Tryd.prog 4 xs (.raw (.bool true)) := by
  obtain ⟨n, a, r, rfl, ha, n', a', r', rfl, ha', rfl⟩ := h
  obtain ⟨l, rfl, _⟩ := tys_DEnum ha
  obtain ⟨s, rfl, _⟩ := ty_s ha'
  exact law_arms l s
set_option maxRecDepth 100000 in
theorem lifted_scopeArms (os : Os) (started : os.Started) (H : Type) (enc : TypeId × Value → H) :
    ReturnsInHanded {} Tryd.checked os 4 .any (fun w args => (Rows.scopeArmsSpec.pre enc Tryd.prog Tryd.f4 Rows.scopeArmsRow.domain false w args ∧ laidMetH Tryd.prog Rows.scopeArmsRow.laid w) ∧ sizedMet enc Tryd.prog Tryd.f4 (OpenSpec.ofChange Rows.scopeArmsSpec) false w args)
      (Rows.scopeArmsSpec.post enc Tryd.prog Tryd.f4 false true false false) := by
  refine returnsInHanded_of_change_and (C := Tryd.checked) (X := fun w _ => laidMetH Tryd.prog Rows.scopeArmsRow.laid w) (fun _ _ _ hh h => h.of_heap hh) (by kernel_rfl) started (by kernel_rfl) Tryd.func4
    (ChangeSpec.witness_shaped (enc := enc) (C := Tryd.checked) (os := os) (X := fun w _ => laidMetH Tryd.prog Rows.scopeArmsRow.laid w) false (World.laidAll Tryd.prog os Rows.scopeArmsRow.laid) #[.slice none 0 0, .string ⟨#[]⟩] 40 (World.laidAll_os _ _ _)
      (World.shaped_of_ZipB (by kernel_rfl) (by kernel_rfl)) (by kernel_rfl) (by kernel_rfl) (by kernel_rfl)
      (by rw [MakeChecks.laidMetH_plain _ _ _ (by kernel_rfl)]; exact laidMet_laidAll _ (by kernel_rfl) (by kernel_rfl))) ?_
  intro W base args ds gs before hval hW _ _ _ _
  exact law_contract (ts := dataTypes) (tb := 4) tabOK dataClosed (by kernel_rfl) (by kernel_rfl) (by kernel_rfl) (by kernel_rfl) rfl (fun ds h => by exact match ds, h with | [d0, d1], _ => ⟨rfl, rfl, rfl⟩) law_arms_ty W base args ds gs before hval hW

theorem scopeArms_row : Rows.ScopeArmsSaid :=
  OpenClaim.holds_of_wide 4 Tryd.f4 rfl rfl rfl rfl rfl rfl rfl ⟨rfl, rfl, rfl, rfl, rfl⟩ rfl rfl rfl rfl rfl (by kernel_rfl) Tryd.func4 (by kernel_rfl)
    (of_decide_eq_true (by kernel_rfl)) (by unfold Func.isWrapper; first | (rw [if_pos (by decide +kernel)]; kernel_rfl) | (rw [if_neg (by decide +kernel)]; exact ⟨rfl, rfl⟩))
    (fun os started H enc _ => lifted_scopeArms os started H enc)
theorem scopeArms_plain (f : FuncId) (fn : Func) (hf : Tryd.pinned.checked.prog.funcNamed Rows.scopeArmsRow.func = some f) (hfn : Tryd.pinned.checked.prog.funcs[f]? = some fn) :
    false = Tryd.pinned.checked.prog.looks [] ∧ ∀ (j : Nat) t, fn.params[j]? = some t → Tryd.pinned.checked.prog.wantsStandIn t = false := by
  obtain rfl : f = 4 := Option.some.inj ((show Tryd.prog.funcNamed Rows.scopeArmsRow.func = some 4 by kernel_rfl).symm.trans hf) |>.symm
  obtain rfl : fn = Tryd.f4 := (Option.some.inj (Tryd.func4.symm.trans hfn)).symm
  refine ⟨by kernel_rfl, fun j t ht => ?_⟩
  rw [Tryd.params4] at ht
  have hm : t ∈ #[34, 9] := Array.mem_of_getElem? ht
  have hall : (#[34, 9].all fun u => !Tryd.prog.wantsStandIn u) = true := by kernel_rfl
  exact (show Tryd.prog.wantsStandIn t = false by simpa using Array.all_eq_true_iff_forall_mem.1 hall t hm)
theorem scopeArmsCard_holds : Rows.ScopeArmsCardSaid :=
  Claim7.holds_tied_plain_at .later [] _ _ _ _ scopeArms_row (fun _ h => by cases h) (by kernel_rfl) (fun _ h => by cases h) scopeArms_row_tie rfl ⟨rfl, rfl⟩ (by kernel_rfl) rfl scopeArms_plain (by kernel_rfl)
#print axioms scopeArmsCard_holds

end Go.Proofs.YtipcmpkihhfhcaaDoor
