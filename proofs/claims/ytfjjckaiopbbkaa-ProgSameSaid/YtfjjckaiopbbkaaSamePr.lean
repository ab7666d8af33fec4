/- For every input the law ProgSame returns true. No further condition. -/
import Derived.Test.YtfjjckaiopbbkaaRows
import Derived.Test.YtfjjckaiopbbkaaLaw8
import Derived.ProofKit
namespace Go.Proofs.Ytfjjckaiopbbkaa
open Go.Abs
set_option maxRecDepth 20000
set_option linter.unusedSimpArgs false
set_option linter.unusedVariables false
set_option maxHeartbeats 4000000
attribute [local irreducible] vc vcOps vcStep vcGuard prK hrK gK gsK brK callK ElemK SeqK BlockK ScopeK OpsK CallK LoopK LoopGo finPost ACall PCall PCallE BCall vqOps vqStep vqGuard qrK heK pcK gqK gqsK QOpsK qcallK DrawK
open Go.ChangeShapes Go.WideShapes Go.ChangeAt Go.RowKit

theorem law8_ty (xs : List AV) (h : TyAll ti Try.f8.params.toList xs) : PCall Try.prog 8 xs (.raw (.bool true)) := by
  obtain ⟨n, a, r, rfl, ha, n', a', r', rfl, ha', rfl⟩ := h
  obtain ⟨p, hp, ho⟩ := ty_DProg ha
  obtain ⟨q, hq, ho'⟩ := ty_DProg ha'
  rw [show mkT (ti 35) a = p.enc from hp, show mkT (ti 35) a' = q.enc from hq]
  exact law8 p q
set_option maxRecDepth 100000 in
theorem lifted_progSame (os : Os) (started : os.Started) (H : Type) (enc : TypeId × Value → H) :
    ReturnsInHanded {} Try.checked os 8 .any (Rows.progSameSpec.pre6 enc Try.prog Try.f8 Rows.progSameRow.domain false) (Rows.progSameSpec.post enc Try.prog Try.f8 false true false false) := by
  refine returnsInHanded_of_change (C := Try.checked) (by kernel_rfl) started (by kernel_rfl) Try.func8
    (ChangeSpec.witness6 (enc := enc) (C := Try.checked) false ⟨#[], #[.agg #[.slice none 0 0, .slice none 0 0], .agg #[.slice none 0 0, .slice none 0 0]], []⟩ 40 (by kernel_rfl) (by kernel_rfl) (by kernel_rfl) (by kernel_rfl)) ?_
  intro W base args ds gs before hval hW hcnd _
  exact law_contract (ts := dataTypes) (tb := 4) tabOK dataClosed (by kernel_rfl) (by kernel_rfl) (by kernel_rfl) (by kernel_rfl) rfl (fun ds h => by exact match ds, h with | [d0, d1], _ => ⟨rfl, rfl, rfl⟩) law8_ty W base args ds gs before hval hW

theorem progSame_holds : Rows.ProgSameSaid :=
  OpenClaim.holds_of_wide 8 Try.f8 rfl rfl rfl rfl rfl rfl rfl ⟨rfl, rfl, rfl, rfl, rfl⟩ rfl rfl rfl rfl rfl (by kernel_rfl) Try.func8 (by kernel_rfl)
    (of_decide_eq_true (by kernel_rfl)) (by unfold Func.isWrapper; first | (rw [if_pos (by decide +kernel)]; kernel_rfl) | (rw [if_neg (by decide +kernel)]; exact ⟨rfl, rfl⟩))
    (fun os started H enc _ => lifted_progSame os started H enc)
#print axioms progSame_holds

end Go.Proofs.Ytfjjckaiopbbkaa
