/- For every input the law NormOnce returns true: the tied card, by way of its row. No further condition. -/
import Derived.Test.YtpamokpmlplopaaGreatDoorRows
import Derived.Test.YtpamokpmlplopaaGreatDoorCards
import Derived.Test.YtpamokpmlplopaaGreatDoorTie
import Derived.ProofKit
import Derived.OpenShut
import Derived.LaidMore
import Derived.Lay
import Derived.SevenTiedAt
import Derived.Stop.Joined
import Derived.Test.YtpamokpmlplopaaGreatDoorBunA
import Derived.Test.YtpamokpmlplopaaGreatDoorBunB
import Derived.Test.YtpamokpmlplopaaGreatDoorBunC
import Derived.Test.YtpamokpmlplopaaGreatDoorBunD
import Derived.Test.YtpamokpmlplopaaGreatDoorBunE
namespace Go.Proofs.YtpamokpmlplopaaGreatDoor
open Go.Abs
set_option maxRecDepth 20000
set_option linter.unusedSimpArgs false
set_option linter.unusedVariables false
set_option maxHeartbeats 1000000
attribute [local irreducible] vc vcOps vcStep vcGuard prK hrK gK gsK brK callK ElemK SeqK BlockK ScopeK OpsK CallK LoopK LoopGo finPost ACall PCall PCallE BCall vqOps vqStep vqGuard qrK heK pcK gqK gqsK QOpsK qcallK DrawK
open Go.ChangeShapes Go.WideShapes Go.ChangeAt Go.RowKit
theorem law_once21_ty (xs : List AV) (h : TyAll ti Tryz.f4.params.toList xs) : PCall Tryz.prog 4 xs (.raw (.bool true)) := by
  obtain ⟨n, a, r, rfl, ha, rfl⟩ := h
  obtain ⟨p, hp, _⟩ := ty_DProg ha
  rw [show mkT (ti 25) a = p.enc from hp]
  exact law_once21 p
set_option maxRecDepth 100000 in
theorem lifted_normOnce (os : Os) (started : os.Started) (H : Type) (enc : TypeId × Value → H) :
    ReturnsInHanded {} Tryz.checked os 4 .any (fun w args => (Rows.normOnceSpec.pre enc Tryz.prog Tryz.f4 Rows.normOnceRow.domain false w args ∧ laidMetH Tryz.prog Rows.normOnceRow.laid w) ∧ sizedMet enc Tryz.prog Tryz.f4 (OpenSpec.ofChange Rows.normOnceSpec) false w args)
      (Rows.normOnceSpec.post enc Tryz.prog Tryz.f4 false true false false) := by
  refine returnsInHanded_of_change_and (C := Tryz.checked) (X := fun w _ => laidMetH Tryz.prog Rows.normOnceRow.laid w) (fun _ _ _ hh h => h.of_heap hh) (by kernel_rfl) started (by kernel_rfl) Tryz.func4
    (ChangeSpec.witness_shaped (enc := enc) (C := Tryz.checked) (os := os) (X := fun w _ => laidMetH Tryz.prog Rows.normOnceRow.laid w) false (World.laidAll Tryz.prog os Rows.normOnceRow.laid) #[.agg #[.slice none 0 0, .slice none 0 0]] 40 (World.laidAll_os _ _ _)
      (World.shaped_of_ZipB (by kernel_rfl) (by kernel_rfl)) (by kernel_rfl) (by kernel_rfl) (by kernel_rfl)
      (by rw [MakeChecks.laidMetH_plain _ _ _ (by kernel_rfl)]; exact laidMet_laidAll _ (by kernel_rfl) (by kernel_rfl))) ?_
  intro W base args ds gs before hval hW _ _ hX _
  exact law_contract (ts := dataTypes) (tb := 4) tabOK dataClosed (by kernel_rfl) (by kernel_rfl) (by kernel_rfl) (by kernel_rfl) rfl (fun ds h => by exact match ds, h with | [d0], _ => ⟨rfl, rfl, rfl⟩) law_once21_ty W base args ds gs before hval hW (fun x hx => by cases hx)

theorem normOnce_kA : (Rows.normOnceRow.inPlace == Tryz.pinned.checked.prog.inPlace 4) = true := by kernel_rfl
theorem normOnce_kB : (Rows.normOnceRow.unfollowed == Tryz.pinned.checked.prog.unfollowed 4) = true := by kernel_rfl
theorem normOnce_kC : (Rows.normOnceRow.recurses == Tryz.pinned.checked.prog.recurses 4) = true := by kernel_rfl
theorem normOnce_kD : (Rows.normOnceRow.named == Tryz.pinned.checked.prog.varsNamed 4) = true := by kernel_rfl
theorem normOnce_closed : joinedFacts Tryz.pinned.checked.prog 4 Tryz.f4 Rows.normOnceSpec Rows.normOnceRow = true := by
  simp only [joinedFacts, Bool.and_eq_true]
  refine ⟨⟨⟨⟨⟨⟨⟨⟨⟨⟨⟨⟨⟨⟨⟨⟨⟨⟨⟨⟨⟨⟨⟨⟨⟨⟨⟨⟨⟨⟨⟨by kernel_rfl, by kernel_rfl⟩, by kernel_rfl⟩, by kernel_rfl⟩, by kernel_rfl⟩, by kernel_rfl⟩, by kernel_rfl⟩, by kernel_rfl⟩, by kernel_rfl⟩, normOnce_kA⟩, normOnce_kB⟩, normOnce_kC⟩, normOnce_kD⟩, by kernel_rfl⟩, by kernel_rfl⟩, by kernel_rfl⟩, by kernel_rfl⟩, by kernel_rfl⟩, by kernel_rfl⟩, by kernel_rfl⟩, by kernel_rfl⟩, by kernel_rfl⟩, by kernel_rfl⟩, by kernel_rfl⟩, by kernel_rfl⟩, by kernel_rfl⟩, by kernel_rfl⟩, by kernel_rfl⟩, by kernel_rfl⟩, by kernel_rfl⟩, by kernel_rfl⟩, by kernel_rfl⟩
theorem normOnce_inst : Tryz.f4.isInstance Tryz.pinned.checked.prog Rows.normOnceRow.origin Rows.normOnceRow.targs := of_decide_eq_true (by kernel_rfl)
theorem normOnce_wrap : Tryz.f4.isWrapper Tryz.pinned.checked.prog Rows.normOnceRow.wrapper Rows.normOnceRow.mainSum := by unfold Func.isWrapper; first | (rw [if_pos (by decide +kernel)]; kernel_rfl) | (rw [if_neg (by decide +kernel)]; exact ⟨rfl, rfl⟩)
theorem normOnce_row : Rows.NormOnceSaid :=
  OpenClaim.holds_of_wide 4 Tryz.f4 rfl rfl rfl rfl rfl rfl rfl ⟨rfl, rfl, rfl, rfl, rfl⟩ rfl rfl rfl rfl rfl (by kernel_rfl) Tryz.func4 normOnce_closed normOnce_inst normOnce_wrap
    (fun os started H enc _ => lifted_normOnce os started H enc)
theorem normOnce_plain (f : FuncId) (fn : Func) (hf : Tryz.pinned.checked.prog.funcNamed Rows.normOnceRow.func = some f) (hfn : Tryz.pinned.checked.prog.funcs[f]? = some fn) :
    Rows.normOnceCard.stood.looks = Tryz.pinned.checked.prog.looks [] ∧ ∀ (j : Nat) t, fn.params[j]? = some t → Tryz.pinned.checked.prog.wantsStandIn t = false := by
  obtain rfl : f = 4 := Option.some.inj ((show Tryz.prog.funcNamed Rows.normOnceRow.func = some 4 by kernel_rfl).symm.trans hf) |>.symm
  obtain rfl : fn = Tryz.f4 := (Option.some.inj (Tryz.func4.symm.trans hfn)).symm
  refine ⟨by kernel_rfl, fun j t ht => ?_⟩
  rw [Tryz.params4] at ht
  have hm : t ∈ #[25] := Array.mem_of_getElem? ht
  have hall : (#[25].all fun u => !Tryz.prog.wantsStandIn u) = true := by kernel_rfl
  exact (show Tryz.prog.wantsStandIn t = false by simpa using Array.all_eq_true_iff_forall_mem.1 hall t hm)
theorem normOnceCard_holds : Rows.NormOnceCardSaid :=
  Claim7.holds_tied_plain_at .later [] _ _ _ _ normOnce_row (fun _ h => by cases h) (by kernel_rfl) (fun _ h => by cases h) normOnce_row_tie rfl ⟨rfl, rfl⟩ (by kernel_rfl) rfl normOnce_plain (by kernel_rfl)
#print axioms normOnceCard_holds

end Go.Proofs.YtpamokpmlplopaaGreatDoor
