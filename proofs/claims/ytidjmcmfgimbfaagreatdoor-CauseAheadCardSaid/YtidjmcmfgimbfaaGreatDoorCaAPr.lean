/- For every input the law CauseAhead returns true: the tied card, by way of its row. No further condition. -/
import Derived.Test.YtidjmcmfgimbfaaGreatDoorRows
import Derived.Test.YtidjmcmfgimbfaaGreatDoorCards
import Derived.Test.YtidjmcmfgimbfaaGreatDoorTie
import Derived.ProofKit
import Derived.OpenShut
import Derived.LaidMore
import Derived.Lay
import Derived.SevenTiedAt
import Derived.Stop.Joined
import Derived.Test.YtidjmcmfgimbfaaGreatDoorUniA
import Derived.Test.YtidjmcmfgimbfaaGreatDoorUniB
import Derived.Test.YtidjmcmfgimbfaaGreatDoorUniC
import Derived.Test.YtidjmcmfgimbfaaGreatDoorUniD
import Derived.Test.YtidjmcmfgimbfaaGreatDoorUniE
import Derived.Test.YtidjmcmfgimbfaaGreatDoorUniF
import Derived.Test.YtidjmcmfgimbfaaGreatDoorUniG
import Derived.Test.YtidjmcmfgimbfaaGreatDoorUniH
import Derived.Test.YtidjmcmfgimbfaaGreatDoorUniI
namespace Go.Proofs.YtidjmcmfgimbfaaGreatDoor
open Go.Abs
set_option maxRecDepth 20000
set_option linter.unusedSimpArgs false
set_option linter.unusedVariables false
set_option maxHeartbeats 1000000
attribute [local irreducible] vc vcOps vcStep vcGuard prK hrK gK gsK brK callK ElemK SeqK BlockK ScopeK OpsK CallK LoopK LoopGo finPost ACall PCall PCallE BCall vqOps vqStep vqGuard qrK heK pcK gqK gqsK QOpsK qcallK DrawK
open Go.ChangeShapes Go.WideShapes Go.ChangeAt Go.RowKit
theorem law_ahead_ty (xs : List AV) (h : TyAll ti Tryz.f9.params.toList xs) : PCall Tryz.prog 9 xs (.raw (.bool true)) := by
  obtain ⟨n, a, r, rfl, ha, rfl⟩ := h
  obtain ⟨p, hp, _⟩ := ty_DProg ha
  rw [show mkT (ti 25) a = p.enc from hp]
  exact law_ahead p
set_option maxRecDepth 100000 in
theorem lifted_causeAhead (os : Os) (started : os.Started) (H : Type) (enc : TypeId × Value → H) :
    ReturnsInHanded {} Tryz.checked os 9 .any (fun w args => (Rows.causeAheadSpec.pre enc Tryz.prog Tryz.f9 Rows.causeAheadRow.domain false w args ∧ laidMetH Tryz.prog Rows.causeAheadRow.laid w) ∧ sizedMet enc Tryz.prog Tryz.f9 (OpenSpec.ofChange Rows.causeAheadSpec) false w args)
      (Rows.causeAheadSpec.post enc Tryz.prog Tryz.f9 false true false false) := by
  refine returnsInHanded_of_change_and (C := Tryz.checked) (X := fun w _ => laidMetH Tryz.prog Rows.causeAheadRow.laid w) (fun _ _ _ hh h => h.of_heap hh) (by kernel_rfl) started (by kernel_rfl) Tryz.func9
    (ChangeSpec.witness_shaped (enc := enc) (C := Tryz.checked) (os := os) (X := fun w _ => laidMetH Tryz.prog Rows.causeAheadRow.laid w) false (World.laidAll Tryz.prog os Rows.causeAheadRow.laid) #[.agg #[.slice none 0 0, .slice none 0 0]] 40 (World.laidAll_os _ _ _)
      (World.shaped_of_ZipB (by kernel_rfl) (by kernel_rfl)) (by kernel_rfl) (by kernel_rfl) (by kernel_rfl)
      (by rw [MakeChecks.laidMetH_plain _ _ _ (by kernel_rfl)]; exact laidMet_laidAll _ (by kernel_rfl) (by kernel_rfl))) ?_
  intro W base args ds gs before hval hW _ _ _ _
  exact law_contract (ts := dataTypes) (tb := 4) tabOK dataClosed (by kernel_rfl) (by kernel_rfl) (by kernel_rfl) (by kernel_rfl) rfl (fun ds h => by exact match ds, h with | [d0], _ => ⟨rfl, rfl, rfl⟩) law_ahead_ty W base args ds gs before hval hW

theorem causeAhead_row : Rows.CauseAheadSaid :=
  OpenClaim.holds_of_wide 9 Tryz.f9 rfl rfl rfl rfl rfl rfl rfl ⟨rfl, rfl, rfl, rfl, rfl⟩ rfl rfl rfl rfl rfl (by kernel_rfl) Tryz.func9 (by kernel_rfl)
    (of_decide_eq_true (by kernel_rfl)) (by unfold Func.isWrapper; first | (rw [if_pos (by decide +kernel)]; kernel_rfl) | (rw [if_neg (by decide +kernel)]; exact ⟨rfl, rfl⟩))
    (fun os started H enc _ => lifted_causeAhead os started H enc)
theorem causeAhead_plain (f : FuncId) (fn : Func) (hf : Tryz.pinned.checked.prog.funcNamed Rows.causeAheadRow.func = some f) (hfn : Tryz.pinned.checked.prog.funcs[f]? = some fn) :
    false = Tryz.pinned.checked.prog.looks [] ∧ ∀ (j : Nat) t, fn.params[j]? = some t → Tryz.pinned.checked.prog.wantsStandIn t = false := by
  obtain rfl : f = 9 := Option.some.inj ((show Tryz.prog.funcNamed Rows.causeAheadRow.func = some 9 by kernel_rfl).symm.trans hf) |>.symm
  obtain rfl : fn = Tryz.f9 := (Option.some.inj (Tryz.func9.symm.trans hfn)).symm
  refine ⟨by kernel_rfl, fun j t ht => ?_⟩
  rw [Tryz.params9] at ht
  have hm : t ∈ #[25] := Array.mem_of_getElem? ht
  have hall : (#[25].all fun u => !Tryz.prog.wantsStandIn u) = true := by kernel_rfl
  exact (show Tryz.prog.wantsStandIn t = false by simpa using Array.all_eq_true_iff_forall_mem.1 hall t hm)
theorem causeAheadCard_holds : Rows.CauseAheadCardSaid :=
  Claim7.holds_tied_plain_at .later [] _ _ _ _ causeAhead_row (fun _ h => by cases h) (by kernel_rfl) (fun _ h => by cases h) causeAhead_row_tie rfl ⟨rfl, rfl⟩ (by kernel_rfl) rfl causeAhead_plain (by kernel_rfl)
#print axioms causeAheadCard_holds

end Go.Proofs.YtidjmcmfgimbfaaGreatDoor
