/- For every input the law PrintApart returns true: the tied card, by way of its row. No further condition. -/
import Derived.Test.YtkjfhhioomnbfaaGreatDoorRows
import Derived.Test.YtkjfhhioomnbfaaGreatDoorCards
import Derived.Test.YtkjfhhioomnbfaaGreatDoorTie
import Derived.ProofKit
import Derived.OpenShut
import Derived.LaidMore
import Derived.Lay
import Derived.SevenTiedAt
import Derived.Stop.Joined
import Derived.Test.YtkjfhhioomnbfaaGreatDoorUniA
import Derived.Test.YtkjfhhioomnbfaaGreatDoorUniB
import Derived.Test.YtkjfhhioomnbfaaGreatDoorUniC
import Derived.Test.YtkjfhhioomnbfaaGreatDoorUniD
import Derived.Test.YtkjfhhioomnbfaaGreatDoorUniE
namespace Go.Proofs.YtkjfhhioomnbfaaGreatDoor
open Go.Abs
set_option maxRecDepth 20000
set_option linter.unusedSimpArgs false
set_option linter.unusedVariables false
set_option maxHeartbeats 1000000
attribute [local irreducible] vc vcOps vcStep vcGuard prK hrK gK gsK brK callK ElemK SeqK BlockK ScopeK OpsK CallK LoopK LoopGo finPost ACall PCall PCallE BCall vqOps vqStep vqGuard qrK heK pcK gqK gqsK QOpsK qcallK DrawK
open Go.ChangeShapes Go.WideShapes Go.ChangeAt Go.RowKit
theorem law_apart13_ty (xs : List AV) (h : TyAll ti Tryz.f4.params.toList xs) : PCall Tryz.prog 4 xs (.raw (.bool true)) := by
  obtain ⟨n1, a1, r1, rfl, ha1, h⟩ := h
  obtain ⟨n2, a2, r2, rfl, ha2, rfl⟩ := h
  obtain ⟨p, hp, hrp⟩ := ty_DProg ha1
  obtain ⟨q, hq, hrq⟩ := ty_DProg ha2
  rw [show mkT (ti 25) a1 = p.enc from hp, show mkT (ti 25) a2 = q.enc from hq]
  exact law_apart13 p q hrp hrq
set_option maxRecDepth 100000 in
theorem lifted_printApart (os : Os) (started : os.Started) (H : Type) (enc : TypeId × Value → H) :
    ReturnsInHanded {} Tryz.checked os 4 .any (fun w args => (Rows.printApartSpec.pre enc Tryz.prog Tryz.f4 Rows.printApartRow.domain false w args ∧ laidMetH Tryz.prog Rows.printApartRow.laid w) ∧ sizedMet enc Tryz.prog Tryz.f4 (OpenSpec.ofChange Rows.printApartSpec) false w args)
      (Rows.printApartSpec.post enc Tryz.prog Tryz.f4 false true false false) := by
  refine returnsInHanded_of_change_and (C := Tryz.checked) (X := fun w _ => laidMetH Tryz.prog Rows.printApartRow.laid w) (fun _ _ _ hh h => h.of_heap hh) (by kernel_rfl) started (by kernel_rfl) Tryz.func4
    (ChangeSpec.witness_shaped (enc := enc) (C := Tryz.checked) (os := os) (X := fun w _ => laidMetH Tryz.prog Rows.printApartRow.laid w) false (World.laidAll Tryz.prog os Rows.printApartRow.laid) #[.agg #[.slice none 0 0, .slice none 0 0], .agg #[.slice none 0 0, .slice none 0 0]] 40 (World.laidAll_os _ _ _)
      (World.shaped_of_ZipB (by kernel_rfl) (by kernel_rfl)) (by kernel_rfl) (by kernel_rfl) (by kernel_rfl)
      (by rw [MakeChecks.laidMetH_plain _ _ _ (by kernel_rfl)]; exact laidMet_laidAll _ (by kernel_rfl) (by kernel_rfl))) ?_
  intro W base args ds gs before hval hW _ _ hX _
  exact law_contract (ts := dataTypes) (tb := 4) tabOK dataClosed (by kernel_rfl) (by kernel_rfl) (by kernel_rfl) (by kernel_rfl) rfl (fun ds h => by exact match ds, h with | [d0, d1], _ => ⟨rfl, rfl, rfl⟩) law_apart13_ty W base args ds gs before hval hW (tab_of _ (by kernel_rfl) (by kernel_rfl) hX)

theorem printApart_row : Rows.PrintApartSaid :=
  OpenClaim.holds_of_wide 4 Tryz.f4 rfl rfl rfl rfl rfl rfl rfl ⟨rfl, rfl, rfl, rfl, rfl⟩ rfl rfl rfl rfl rfl (by kernel_rfl) Tryz.func4 (by kernel_rfl)
    (of_decide_eq_true (by kernel_rfl)) (by unfold Func.isWrapper; first | (rw [if_pos (by decide +kernel)]; kernel_rfl) | (rw [if_neg (by decide +kernel)]; exact ⟨rfl, rfl⟩))
    (fun os started H enc _ => lifted_printApart os started H enc)
theorem printApart_plain (f : FuncId) (fn : Func) (hf : Tryz.pinned.checked.prog.funcNamed Rows.printApartRow.func = some f) (hfn : Tryz.pinned.checked.prog.funcs[f]? = some fn) :
    Rows.printApartCard.stood.looks = Tryz.pinned.checked.prog.looks [] ∧ ∀ (j : Nat) t, fn.params[j]? = some t → Tryz.pinned.checked.prog.wantsStandIn t = false := by
  obtain rfl : f = 4 := Option.some.inj ((show Tryz.prog.funcNamed Rows.printApartRow.func = some 4 by kernel_rfl).symm.trans hf) |>.symm
  obtain rfl : fn = Tryz.f4 := (Option.some.inj (Tryz.func4.symm.trans hfn)).symm
  refine ⟨by kernel_rfl, fun j t ht => ?_⟩
  rw [Tryz.params4] at ht
  have hm : t ∈ #[25, 25] := Array.mem_of_getElem? ht
  have hall : (#[25, 25].all fun u => !Tryz.prog.wantsStandIn u) = true := by kernel_rfl
  exact (show Tryz.prog.wantsStandIn t = false by simpa using Array.all_eq_true_iff_forall_mem.1 hall t hm)
theorem printApartCard_holds : Rows.PrintApartCardSaid :=
  Claim7.holds_tied_plain_at .later [] _ _ _ _ printApart_row (fun _ h => by cases h) (by kernel_rfl) (fun _ h => by cases h) printApart_row_tie rfl ⟨rfl, rfl⟩ (by kernel_rfl) rfl printApart_plain (by kernel_rfl)
#print axioms printApartCard_holds

end Go.Proofs.YtkjfhhioomnbfaaGreatDoor
