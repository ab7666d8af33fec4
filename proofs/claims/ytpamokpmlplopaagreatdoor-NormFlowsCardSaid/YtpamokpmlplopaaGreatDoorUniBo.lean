/-
  NmFL: put together.
-/
import Derived.Test.YtpamokpmlplopaaGreatDoorUniAj
import Derived.Test.YtpamokpmlplopaaGreatDoorUniBg
import Derived.Test.YtpamokpmlplopaaGreatDoorUniBh
namespace Go.Proofs.YtpamokpmlplopaaGreatDoor
open Go.Abs
set_option maxRecDepth 20000
set_option linter.unusedSimpArgs false
set_option linter.unusedVariables false
set_option maxHeartbeats 1000000
attribute [local irreducible] vc vcOps vcStep vcGuard prK hrK gK gsK brK callK ElemK SeqK BlockK ScopeK OpsK CallK LoopK LoopGo finPost ACall PCall PCallE BCall vqOps vqStep vqGuard qrK heK pcK gqK gqsK QOpsK qcallK DrawK
theorem pure_zeroFs:Weak (.agg [.raw (.slice none 0 0),.raw (.slice none 0 0)]) (⟨[],[]⟩:DFlows).enc:=by
 rw[DFlows.enc_eq]
 exact Weak.aggs ⟨.nil _,.nil _,trivial⟩
theorem law_flows21 (p:DProg):PCall Tryz.prog 3 [p.enc] (.b true):=by
 refine pcall_of_vc tabOK Tryz.func3 (by kernel_rfl) rfl (by first|exact pureL|exact pureI) (.raw _) (n:=46) rfl (rs:=[.tmp 2]) rfl ?_
 simp only[go_sem]
 refine PCallE.call (small_p p) ?_
 rintro _ ⟨b,rfl,hb⟩
 cases b with
 | false =>
  simp only[go_sem]
  refine PCall.call live21 ?_
  simp only[go_sem]
  exact finBq rfl rfl
 | true =>
 have h1:=flows10 p (hb rfl)
 have h2:=flowsX11 p (hb rfl)
 generalize normF p=R at h1 h2
 obtain⟨f,ok⟩:=R
 simp only[go_sem]
 refine PCall.call h1 ?_
 simp only[go_sem]
 refine PCall.call h2 ?_
 simp only[go_sem]
 refine drawK mo (by kernel_rfl) ?_
 have hs1:=same12 f f
 have hs2:=same13 f f
 have hs3:=same13 f ⟨[],[]⟩
 have hs4:=same12 f ⟨[],[]⟩
 rw[eqB_eq rfl] at hs1 hs2
 generalize eqB f (⟨[],[]⟩:DFlows)=e at hs3 hs4
 cases ok<;>cases e<;>(repeat' first
  | simp only[go_sem]
  | simp only[beq_self_eq_true]
  | refine pcK_of hs1 ?_
  | refine pcK_of hs2 ?_
  | refine pcK_ofW hs3 ⟨.refl _,pure_zeroFs,trivial⟩ ?_
  | refine pcK_ofW hs4 ⟨.refl _,pure_zeroFs,trivial⟩ ?_
  | refine pcK_of live21 ?_
  | refine gqK_dec (fun _=>?_) (fun _=>?_)
  | exact finBq rfl rfl
  | (exfalso;simp at *;done))
end Go.Proofs.YtpamokpmlplopaaGreatDoor
