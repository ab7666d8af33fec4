/- For every input the law PrintNodes returns true: the tied card, by way of its row. No further condition. -/
import Derived.Test.YtkjfhhioomnbfaaGreatDoorRows
import Derived.Test.YtkjfhhioomnbfaaGreatDoorCards
import Derived.Test.YtkjfhhioomnbfaaGreatDoorTie
import Derived.ProofKit
import Derived.OpenShut
import Derived.LaidMore
import Derived.Lay
import Derived.SevenTiedAt
import Derived.Stop.Joined
import Derived.Test.YtkjfhhioomnbfaaGreatDoorUniA
import Derived.Test.YtkjfhhioomnbfaaGreatDoorUniB
import Derived.Test.YtkjfhhioomnbfaaGreatDoorUniC
import Derived.Test.YtkjfhhioomnbfaaGreatDoorUniD
namespace Go.Proofs.YtkjfhhioomnbfaaGreatDoor
open Go.Abs
set_option maxRecDepth 20000
set_option linter.unusedSimpArgs false
set_option linter.unusedVariables false
set_option maxHeartbeats 1000000
attribute [local irreducible] vc vcOps vcStep vcGuard prK hrK gK gsK brK callK ElemK SeqK BlockK ScopeK OpsK CallK LoopK LoopGo finPost ACall PCall PCallE BCall vqOps vqStep vqGuard qrK heK pcK gqK gqsK QOpsK qcallK DrawK
open Go.ChangeShapes Go.WideShapes Go.ChangeAt Go.RowKit
theorem law_nodes13_ty (xs : List AV) (h : TyAll ti Tryz.f5.params.toList xs) : PCall Tryz.prog 5 xs (.raw (.bool true)) := by
  obtain ⟨n, a, r, rfl, ha, rfl⟩ := h
  obtain ⟨p, hp, hr⟩ := ty_DProg ha
  rw [show mkT (ti 25) a = p.enc from hp]
  exact law_nodes13 p hr
set_option maxRecDepth 100000 in
theorem lifted_printNodes (os : Os) (started : os.Started) (H : Type) (enc : TypeId × Value → H) :
    ReturnsInHanded {} Tryz.checked os 5 .any (fun w args => (Rows.printNodesSpec.pre enc Tryz.prog Tryz.f5 Rows.printNodesRow.domain false w args ∧ laidMetH Tryz.prog Rows.printNodesRow.laid w) ∧ sizedMet enc Tryz.prog Tryz.f5 (OpenSpec.ofChange Rows.printNodesSpec) false w args)
      (Rows.printNodesSpec.post enc Tryz.prog Tryz.f5 false true false false) := by
  refine returnsInHanded_of_change_and (C := Tryz.checked) (X := fun w _ => laidMetH Tryz.prog Rows.printNodesRow.laid w) (fun _ _ _ hh h => h.of_heap hh) (by kernel_rfl) started (by kernel_rfl) Tryz.func5
    (ChangeSpec.witness_shaped (enc := enc) (C := Tryz.checked) (os := os) (X := fun w _ => laidMetH Tryz.prog Rows.printNodesRow.laid w) false (World.laidAll Tryz.prog os Rows.printNodesRow.laid) #[.agg #[.slice none 0 0, .slice none 0 0]] 40 (World.laidAll_os _ _ _)
      (World.shaped_of_ZipB (by kernel_rfl) (by kernel_rfl)) (by kernel_rfl) (by kernel_rfl) (by kernel_rfl)
      (by rw [MakeChecks.laidMetH_plain _ _ _ (by kernel_rfl)]; exact laidMet_laidAll _ (by kernel_rfl) (by kernel_rfl))) ?_
  intro W base args ds gs before hval hW _ _ hX _
  exact law_contract (ts := dataTypes) (tb := 4) tabOK dataClosed (by kernel_rfl) (by kernel_rfl) (by kernel_rfl) (by kernel_rfl) rfl (fun ds h => by exact match ds, h with | [d0], _ => ⟨rfl, rfl, rfl⟩) law_nodes13_ty W base args ds gs before hval hW (tab_of _ (by kernel_rfl) (by kernel_rfl) hX)

theorem printNodes_row : Rows.PrintNodesSaid :=
  OpenClaim.holds_of_wide 5 Tryz.f5 rfl rfl rfl rfl rfl rfl rfl ⟨rfl, rfl, rfl, rfl, rfl⟩ rfl rfl rfl rfl rfl (by kernel_rfl) Tryz.func5 (by kernel_rfl)
    (of_decide_eq_true (by kernel_rfl)) (by unfold Func.isWrapper; first | (rw [if_pos (by decide +kernel)]; kernel_rfl) | (rw [if_neg (by decide +kernel)]; exact ⟨rfl, rfl⟩))
    (fun os started H enc _ => lifted_printNodes os started H enc)
theorem printNodes_plain (f : FuncId) (fn : Func) (hf : Tryz.pinned.checked.prog.funcNamed Rows.printNodesRow.func = some f) (hfn : Tryz.pinned.checked.prog.funcs[f]? = some fn) :
    Rows.printNodesCard.stood.looks = Tryz.pinned.checked.prog.looks [] ∧ ∀ (j : Nat) t, fn.params[j]? = some t → Tryz.pinned.checked.prog.wantsStandIn t = false := by
  obtain rfl : f = 5 := Option.some.inj ((show Tryz.prog.funcNamed Rows.printNodesRow.func = some 5 by kernel_rfl).symm.trans hf) |>.symm
  obtain rfl : fn = Tryz.f5 := (Option.some.inj (Tryz.func5.symm.trans hfn)).symm
  refine ⟨by kernel_rfl, fun j t ht => ?_⟩
  rw [Tryz.params5] at ht
  have hm : t ∈ #[25] := Array.mem_of_getElem? ht
  have hall : (#[25].all fun u => !Tryz.prog.wantsStandIn u) = true := by kernel_rfl
  exact (show Tryz.prog.wantsStandIn t = false by simpa using Array.all_eq_true_iff_forall_mem.1 hall t hm)
theorem printNodesCard_holds : Rows.PrintNodesCardSaid :=
  Claim7.holds_tied_plain_at .later [] _ _ _ _ printNodes_row (fun _ h => by cases h) (by kernel_rfl) (fun _ h => by cases h) printNodes_row_tie rfl ⟨rfl, rfl⟩ (by kernel_rfl) rfl printNodes_plain (by kernel_rfl)
#print axioms printNodesCard_holds

end Go.Proofs.YtkjfhhioomnbfaaGreatDoor
