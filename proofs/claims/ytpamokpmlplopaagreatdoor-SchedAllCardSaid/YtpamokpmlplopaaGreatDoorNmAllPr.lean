/- For every input the law SchedAll returns true: the tied card, by way of its row. No further condition. -/
import Derived.Test.YtpamokpmlplopaaGreatDoorRows
import Derived.Test.YtpamokpmlplopaaGreatDoorCards
import Derived.Test.YtpamokpmlplopaaGreatDoorTie
import Derived.ProofKit
import Derived.OpenShut
import Derived.LaidMore
import Derived.Lay
import Derived.SevenTiedAt
import Derived.Stop.Joined
import Derived.Test.YtpamokpmlplopaaGreatDoorUniAj
import Derived.Test.YtpamokpmlplopaaGreatDoorUniBn
namespace Go.Proofs.YtpamokpmlplopaaGreatDoor
open Go.Abs
set_option maxRecDepth 20000
set_option linter.unusedSimpArgs false
set_option linter.unusedVariables false
set_option maxHeartbeats 1000000
attribute [local irreducible] vc vcOps vcStep vcGuard prK hrK gK gsK brK callK ElemK SeqK BlockK ScopeK OpsK CallK LoopK LoopGo finPost ACall PCall PCallE BCall vqOps vqStep vqGuard qrK heK pcK gqK gqsK QOpsK qcallK DrawK
open Go.ChangeShapes Go.WideShapes Go.ChangeAt Go.RowKit
theorem law_all22_ty (xs : List AV) (h : TyAll ti Tryz.f7.params.toList xs) : PCall Tryz.prog 7 xs (.raw (.bool true)) := by
  obtain ⟨n, a, r, rfl, ha, rfl⟩ := h
  obtain ⟨p, hp, _⟩ := ty_DProg ha
  rw [show mkT (ti 25) a = p.enc from hp]
  exact law_all22 p
set_option maxRecDepth 100000 in
theorem lifted_schedAll (os : Os) (started : os.Started) (H : Type) (enc : TypeId × Value → H) :
    ReturnsInHanded {} Tryz.checked os 7 .any (fun w args => (Rows.schedAllSpec.pre enc Tryz.prog Tryz.f7 Rows.schedAllRow.domain false w args ∧ laidMetH Tryz.prog Rows.schedAllRow.laid w) ∧ sizedMet enc Tryz.prog Tryz.f7 (OpenSpec.ofChange Rows.schedAllSpec) false w args)
      (Rows.schedAllSpec.post enc Tryz.prog Tryz.f7 false true false false) := by
  refine returnsInHanded_of_change_and (C := Tryz.checked) (X := fun w _ => laidMetH Tryz.prog Rows.schedAllRow.laid w) (fun _ _ _ hh h => h.of_heap hh) (by kernel_rfl) started (by kernel_rfl) Tryz.func7
    (ChangeSpec.witness_shaped (enc := enc) (C := Tryz.checked) (os := os) (X := fun w _ => laidMetH Tryz.prog Rows.schedAllRow.laid w) false (World.laidAll Tryz.prog os Rows.schedAllRow.laid) #[.agg #[.slice none 0 0, .slice none 0 0]] 40 (World.laidAll_os _ _ _)
      (World.shaped_of_ZipB (by kernel_rfl) (by kernel_rfl)) (by kernel_rfl) (by kernel_rfl) (by kernel_rfl)
      (by rw [MakeChecks.laidMetH_plain _ _ _ (by kernel_rfl)]; exact laidMet_laidAll _ (by kernel_rfl) (by kernel_rfl))) ?_
  intro W base args ds gs before hval hW _ _ hX _
  exact law_contract (ts := dataTypes) (tb := 4) tabOK dataClosed (by kernel_rfl) (by kernel_rfl) (by kernel_rfl) (by kernel_rfl) rfl (fun ds h => by exact match ds, h with | [d0], _ => ⟨rfl, rfl, rfl⟩) law_all22_ty W base args ds gs before hval hW (fun x hx => by cases hx)

theorem schedAll_kA : (Rows.schedAllRow.inPlace == Tryz.pinned.checked.prog.inPlace 7) = true := by kernel_rfl
theorem schedAll_kB : (Rows.schedAllRow.unfollowed == Tryz.pinned.checked.prog.unfollowed 7) = true := by kernel_rfl
theorem schedAll_kC : (Rows.schedAllRow.recurses == Tryz.pinned.checked.prog.recurses 7) = true := by kernel_rfl
theorem schedAll_kD : (Rows.schedAllRow.named == Tryz.pinned.checked.prog.varsNamed 7) = true := by kernel_rfl
theorem schedAll_closed : joinedFacts Tryz.pinned.checked.prog 7 Tryz.f7 Rows.schedAllSpec Rows.schedAllRow = true := by
  simp only [joinedFacts, Bool.and_eq_true]
  refine ⟨⟨⟨⟨⟨⟨⟨⟨⟨⟨⟨⟨⟨⟨⟨⟨⟨⟨⟨⟨⟨⟨⟨⟨⟨⟨⟨⟨⟨⟨⟨by kernel_rfl, by kernel_rfl⟩, by kernel_rfl⟩, by kernel_rfl⟩, by kernel_rfl⟩, by kernel_rfl⟩, by kernel_rfl⟩, by kernel_rfl⟩, by kernel_rfl⟩, schedAll_kA⟩, schedAll_kB⟩, schedAll_kC⟩, schedAll_kD⟩, by kernel_rfl⟩, by kernel_rfl⟩, by kernel_rfl⟩, by kernel_rfl⟩, by kernel_rfl⟩, by kernel_rfl⟩, by kernel_rfl⟩, by kernel_rfl⟩, by kernel_rfl⟩, by kernel_rfl⟩, by kernel_rfl⟩, by kernel_rfl⟩, by kernel_rfl⟩, by kernel_rfl⟩, by kernel_rfl⟩, by kernel_rfl⟩, by kernel_rfl⟩, by kernel_rfl⟩, by kernel_rfl⟩
theorem schedAll_inst : Tryz.f7.isInstance Tryz.pinned.checked.prog Rows.schedAllRow.origin Rows.schedAllRow.targs := of_decide_eq_true (by kernel_rfl)
theorem schedAll_wrap : Tryz.f7.isWrapper Tryz.pinned.checked.prog Rows.schedAllRow.wrapper Rows.schedAllRow.mainSum := by unfold Func.isWrapper; first | (rw [if_pos (by decide +kernel)]; kernel_rfl) | (rw [if_neg (by decide +kernel)]; exact ⟨rfl, rfl⟩)
theorem schedAll_row : Rows.SchedAllSaid :=
  OpenClaim.holds_of_wide 7 Tryz.f7 rfl rfl rfl rfl rfl rfl rfl ⟨rfl, rfl, rfl, rfl, rfl⟩ rfl rfl rfl rfl rfl (by kernel_rfl) Tryz.func7 schedAll_closed schedAll_inst schedAll_wrap
    (fun os started H enc _ => lifted_schedAll os started H enc)
theorem schedAll_plain (f : FuncId) (fn : Func) (hf : Tryz.pinned.checked.prog.funcNamed Rows.schedAllRow.func = some f) (hfn : Tryz.pinned.checked.prog.funcs[f]? = some fn) :
    Rows.schedAllCard.stood.looks = Tryz.pinned.checked.prog.looks [] ∧ ∀ (j : Nat) t, fn.params[j]? = some t → Tryz.pinned.checked.prog.wantsStandIn t = false := by
  obtain rfl : f = 7 := Option.some.inj ((show Tryz.prog.funcNamed Rows.schedAllRow.func = some 7 by kernel_rfl).symm.trans hf) |>.symm
  obtain rfl : fn = Tryz.f7 := (Option.some.inj (Tryz.func7.symm.trans hfn)).symm
  refine ⟨by kernel_rfl, fun j t ht => ?_⟩
  rw [Tryz.params7] at ht
  have hm : t ∈ #[25] := Array.mem_of_getElem? ht
  have hall : (#[25].all fun u => !Tryz.prog.wantsStandIn u) = true := by kernel_rfl
  exact (show Tryz.prog.wantsStandIn t = false by simpa using Array.all_eq_true_iff_forall_mem.1 hall t hm)
theorem schedAllCard_holds : Rows.SchedAllCardSaid :=
  Claim7.holds_tied_plain_at .later [] _ _ _ _ schedAll_row (fun _ h => by cases h) (by kernel_rfl) (fun _ h => by cases h) schedAll_row_tie rfl ⟨rfl, rfl⟩ (by kernel_rfl) rfl schedAll_plain (by kernel_rfl)
#print axioms schedAllCard_holds

end Go.Proofs.YtpamokpmlplopaaGreatDoor
