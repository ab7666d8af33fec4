/- For every input the law TypesOf returns true: the tied card, by way of its row. No further condition. -/
import Derived.Test.YtidjmcmfgimbfaaGreatDoorRows
import Derived.Test.YtidjmcmfgimbfaaGreatDoorCards
import Derived.Test.YtidjmcmfgimbfaaGreatDoorTie
import Derived.ProofKit
import Derived.OpenShut
import Derived.LaidMore
import Derived.Lay
import Derived.SevenTiedAt
import Derived.Stop.Joined
import Derived.Test.YtidjmcmfgimbfaaGreatDoorBunA
import Derived.Test.YtidjmcmfgimbfaaGreatDoorBunB
import Derived.Test.YtidjmcmfgimbfaaGreatDoorBunC
import Derived.Test.YtidjmcmfgimbfaaGreatDoorBunD
namespace Go.Proofs.YtidjmcmfgimbfaaGreatDoor
open Go.Abs
set_option maxRecDepth 20000
set_option linter.unusedSimpArgs false
set_option linter.unusedVariables false
set_option maxHeartbeats 1000000
attribute [local irreducible] vc vcOps vcStep vcGuard prK hrK gK gsK brK callK ElemK SeqK BlockK ScopeK OpsK CallK LoopK LoopGo finPost ACall PCall PCallE BCall vqOps vqStep vqGuard qrK heK pcK gqK gqsK QOpsK qcallK DrawK
open Go.ChangeShapes Go.WideShapes Go.ChangeAt Go.RowKit
theorem zeroF : (AV.agg [.raw (.int .i64 0), .raw (.int .i64 0), .raw (.int .i64 0)]) = (⟨0, 0, 0⟩ : DFault).enc := by rw [DFault.enc_eq]
theorem n3 : (Tryz.f3.name == "runtime.NumGoroutine") = false := by kernel_rfl
theorem law_of (p : DProg) (k : Int) (e : Ex) : PCall Tryz.prog 3 [p.enc, .i k, e.enc] (.b true) := by
  refine pcall_of_vc tabOK Tryz.func3 n3 rfl (by repeat' first | exact pure_nil | refine pure_cons ?_ ?_ | exact .raw _ | exact pure_enc _ | exact pure_lst _ | exact pure_strs _ | exact pure_ints _ | exact DTy.pure _ | exact DTy.pures _ | exact DEnum.pure _ | exact DEnum.pures _ | exact DDecl.pure _ | exact DDecl.pures _ | exact DEq.pure _ | exact DEq.pures _ | exact DNode.pure _ | exact DNode.pures _ | exact DProg.pure _ | exact DProg.pures _ | exact DCond.pure _ | exact DCond.pures _ | exact DAtom.pure _ | exact DAtom.pures _ | exact DPlain.pure _ | exact DPlain.pures _ | exact DFault.pure _ | exact DFault.pures _ | exact pure_list (fun x => DDecl.pures x) _ | exact .fn _ _ _ pure_nil pure_nil | refine .agg _ ?_ | refine .tup _ ?_ | assumption) (by repeat' first | exact pure_nil | refine pure_cons ?_ ?_ | exact .raw _ | exact pure_enc _ | exact pure_lst _ | exact pure_strs _ | exact pure_ints _ | exact DTy.pure _ | exact DTy.pures _ | exact DEnum.pure _ | exact DEnum.pures _ | exact DDecl.pure _ | exact DDecl.pures _ | exact DEq.pure _ | exact DEq.pures _ | exact DNode.pure _ | exact DNode.pures _ | exact DProg.pure _ | exact DProg.pures _ | exact DCond.pure _ | exact DCond.pures _ | exact DAtom.pure _ | exact DAtom.pures _ | exact DPlain.pure _ | exact DPlain.pures _ | exact DFault.pure _ | exact DFault.pures _ | exact pure_list (fun x => DDecl.pures x) _ | exact .fn _ _ _ pure_nil pure_nil | refine .agg _ ?_ | refine .tup _ ?_ | assumption) (n := 56) rfl (rs := [.tmp 6]) rfl ?_
  repeat' first
    | exact finB rfl
    | exact finI rfl
    | exact finP rfl
    | exact absurd rfl (by assumption)
    | simp only [go_sem]
    | (intro _)
    | refine brK_dec (fun _ => ?_) (fun _ => ?_)
    | refine brK_split (fun hb_ => ?_) (fun hb_ => ?_)
    | refine gK_dec (fun _ => ?_) (fun _ => ?_)
    | refine gK_split (fun hb_ => ?_) (fun hb_ => ?_)
    | refine gqK_dec (fun _ => ?_) (fun _ => ?_)
    | refine ⟨by omega, ?_⟩
    | refine elemHave (by omega) (by assumption) ?_
    | refine elemMap (by omega) (by omega) (fun x hx => ?_)
    | refine drawK mo (by kernel_rfl) ?_
    | ((fail_if_success (clear hb)); refine PCallE.call (small_p _) (fun r hr => ?_); obtain ⟨b, rfl, hb⟩ := hr; cases b <;> (try replace hb := hb rfl))
    | ((fail_if_success (clear he)); refine PCallE.call (small_e _) (fun r hr => ?_); obtain ⟨b, rfl, he⟩ := hr; cases b <;> (try replace he := he rfl))
    | (refine PCall.call (right17x e he) ?_; generalize hr : rightE e = q; cases q)
    | (refine PCall.call (scopeX p hb) ?_)
    | (rw [zeroF])
    | (refine PCall.call live23 ?_)
    | (refine pcK_of live23 ?_)
    | ((fail_if_success (clear hz)); have hz : scopeF p = ⟨0, 0, 0⟩ := (by first | assumption | exact Classical.not_not.1 (by assumption)); have hty := tyOK_of hb (scope_check hz))
    | (refine PCall.call (OfPk p k e hty (right_parts hr) he) ?_; generalize hq : ofN p k e = q; obtain ⟨t, ok⟩ := q)
    | (refine PCall.call (OfXk p k e hty (right_parts hr) he) ?_; rw [hq])
    | (exact absurd rfl (by assumption))
    | (simp only [beq_self_eq_true])
    | (exact finBq rfl (by simp))
theorem law_of_ty (xs : List AV) (h : TyAll ti Tryz.f3.params.toList xs) : PCall Tryz.prog 3 xs (.raw (.bool true)) := by
  obtain ⟨n, a, r, rfl, ha, n', a', r', rfl, ha', n'', a'', r'', rfl, ha'', rfl⟩ := h
  obtain ⟨p, hp, _⟩ := ty_DProg ha
  rw [show mkT (ti 25) a = p.enc from hp]
  obtain ⟨k, rfl, _⟩ := ty_i ha'
  obtain ⟨e, he, _⟩ := ty_ex ha''
  rw [show mkT (ti 29) a'' = e.enc from he]
  exact law_of p k e
set_option maxRecDepth 100000 in
theorem lifted_typesOf (os : Os) (started : os.Started) (H : Type) (enc : TypeId × Value → H) :
    ReturnsInHanded {} Tryz.checked os 3 .any (fun w args => (Rows.typesOfSpec.pre enc Tryz.prog Tryz.f3 Rows.typesOfRow.domain false w args ∧ laidMetH Tryz.prog Rows.typesOfRow.laid w) ∧ sizedMet enc Tryz.prog Tryz.f3 (OpenSpec.ofChange Rows.typesOfSpec) false w args)
      (Rows.typesOfSpec.post enc Tryz.prog Tryz.f3 false true false false) := by
  refine returnsInHanded_of_change_and (C := Tryz.checked) (X := fun w _ => laidMetH Tryz.prog Rows.typesOfRow.laid w) (fun _ _ _ hh h => h.of_heap hh) (by kernel_rfl) started (by kernel_rfl) Tryz.func3
    (ChangeSpec.witness_shaped (enc := enc) (C := Tryz.checked) (os := os) (X := fun w _ => laidMetH Tryz.prog Rows.typesOfRow.laid w) false (World.laidAll Tryz.prog os Rows.typesOfRow.laid) #[.agg #[.slice none 0 0, .slice none 0 0], .int .i64 0, .agg #[.int .i64 0, .int .i64 0, .string ⟨#[]⟩, .int .i64 0, .slice none 0 0, .slice none 0 0]] 40 (World.laidAll_os _ _ _)
      (World.shaped_of_ZipB (by kernel_rfl) (by kernel_rfl)) (by kernel_rfl) (by kernel_rfl) (by kernel_rfl)
      (by rw [MakeChecks.laidMetH_plain _ _ _ (by kernel_rfl)]; exact laidMet_laidAll _ (by kernel_rfl) (by kernel_rfl))) ?_
  intro W base args ds gs before hval hW _ _ _ _
  exact law_contract (ts := dataTypes) (tb := 4) tabOK dataClosed (by kernel_rfl) (by kernel_rfl) (by kernel_rfl) (by kernel_rfl) rfl (fun ds h => by exact match ds, h with | [d0, d1, d2], _ => ⟨rfl, rfl, rfl⟩) law_of_ty W base args ds gs before hval hW

theorem typesOf_row : Rows.TypesOfSaid :=
  OpenClaim.holds_of_wide 3 Tryz.f3 rfl rfl rfl rfl rfl rfl rfl ⟨rfl, rfl, rfl, rfl, rfl⟩ rfl rfl rfl rfl rfl (by kernel_rfl) Tryz.func3 (by kernel_rfl)
    (of_decide_eq_true (by kernel_rfl)) (by unfold Func.isWrapper; first | (rw [if_pos (by decide +kernel)]; kernel_rfl) | (rw [if_neg (by decide +kernel)]; exact ⟨rfl, rfl⟩))
    (fun os started H enc _ => lifted_typesOf os started H enc)
theorem typesOf_plain (f : FuncId) (fn : Func) (hf : Tryz.pinned.checked.prog.funcNamed Rows.typesOfRow.func = some f) (hfn : Tryz.pinned.checked.prog.funcs[f]? = some fn) :
    false = Tryz.pinned.checked.prog.looks [] ∧ ∀ (j : Nat) t, fn.params[j]? = some t → Tryz.pinned.checked.prog.wantsStandIn t = false := by
  obtain rfl : f = 3 := Option.some.inj ((show Tryz.prog.funcNamed Rows.typesOfRow.func = some 3 by kernel_rfl).symm.trans hf) |>.symm
  obtain rfl : fn = Tryz.f3 := (Option.some.inj (Tryz.func3.symm.trans hfn)).symm
  refine ⟨by kernel_rfl, fun j t ht => ?_⟩
  rw [Tryz.params3] at ht
  have hm : t ∈ #[25, 3, 29] := Array.mem_of_getElem? ht
  have hall : (#[25, 3, 29].all fun u => !Tryz.prog.wantsStandIn u) = true := by kernel_rfl
  exact (show Tryz.prog.wantsStandIn t = false by simpa using Array.all_eq_true_iff_forall_mem.1 hall t hm)
theorem typesOfCard_holds : Rows.TypesOfCardSaid :=
  Claim7.holds_tied_plain_at .later [] _ _ _ _ typesOf_row (fun _ h => by cases h) (by kernel_rfl) (fun _ h => by cases h) typesOf_row_tie rfl ⟨rfl, rfl⟩ (by kernel_rfl) rfl typesOf_plain (by kernel_rfl)
#print axioms typesOfCard_holds

end Go.Proofs.YtidjmcmfgimbfaaGreatDoor
