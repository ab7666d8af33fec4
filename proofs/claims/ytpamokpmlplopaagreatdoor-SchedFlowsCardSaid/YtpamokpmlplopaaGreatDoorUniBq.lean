/-
  NmSG, NmSL, NmSH: put together.
-/
import Derived.Test.YtpamokpmlplopaaGreatDoorUniAj
import Derived.Test.YtpamokpmlplopaaGreatDoorUniBe
import Derived.Test.YtpamokpmlplopaaGreatDoorUniBg
import Derived.Test.YtpamokpmlplopaaGreatDoorUniBi
import Derived.Test.YtpamokpmlplopaaGreatDoorUniBj
namespace Go.Proofs.YtpamokpmlplopaaGreatDoor
open Go.Abs
set_option maxRecDepth 20000
set_option linter.unusedSimpArgs false
set_option linter.unusedVariables false
set_option maxHeartbeats 1000000
attribute [local irreducible] vc vcOps vcStep vcGuard prK hrK gK gsK brK callK ElemK SeqK BlockK ScopeK OpsK CallK LoopK LoopGo finPost ACall PCall PCallE BCall vqOps vqStep vqGuard qrK heK pcK gqK gqsK QOpsK qcallK DrawK
theorem schedX24 (p:DProg) (hp:okProg p) (hN:(normF p).1.Flows.length≤10) (hok:∀ f∈(normF p).1.Flows,okFlow f):PCall Tryz.prog 24 [p.enc] (flowsA (schedF p)):=by
 have hx:=flowsX11 p hp
 unfold schedF
 generalize normF p=x at hx hN hok ⊢
 obtain⟨⟨E,N⟩,b⟩:=x
 dsimp only at hx hN hok ⊢
 refine pcall_of_vc tabOK Tryz.func24 (by kernel_rfl) rfl (by first|exact pureL|exact pureI) (pure_flowsA _) (n:=47) rfl (rs:=[.cell 2 30,.tmp 3]) rfl ?_
 simp only[go_sem]
 refine PCall.call hx ?_
 cases b
 ·
  simp only[go_sem,DFlows.enc_cells]
  exact⟨_,rfl,false,by rw[if_neg (by simp)];exact weak_noFs⟩
 ·
  simp only[go_sem,DFlows.enc_cells]
  refine loop_ghost (ghost_cell (t:=30) (cs:=[.lst 2 (E.map DEnum.enc) none,.raw (.slice none 0 0)]) 3 1 37 5 (by rfl) (by rfl)) ?_
  simp only[go_sem]
  refine loop_fr [3,7,8,9,21,22,23,24,25,26,27,28,29,30,31,32,33,34,35,36,37,38,39,40,41,42,43,44,45] (fun mm C hh=>∃(i:Nat) (r':List Blk),i≤N.length∧schedB (N.take i)=true∧mm=N.length-i∧C=[(7,.raw (.int .i64 (i:Nat)))] ∧
   hh=.cells 25 [.lst 2 (p.Enums.map DEnum.enc) none,.lst 5 (p.Nodes.map DNode.enc) none]::.cells 30 [.raw (.slice none 0 0),.raw (.slice none 0 0)]::.cells 30 [.lst 2 (E.map DEnum.enc) none,.lst 5 (N.map DFlow.enc) none] ::
    .cells 30 [.lst 2 (E.map DEnum.enc) none,.lst 5 ((schedN (N.take i)).map DFlow.enc) (some 4)]::.tok 37 5 i::r') N.length _ ⟨0,[],by omega,rfl,by omega,rfl,rfl⟩ (.cons rfl .nil) ?_
  rintro mm C j hh ⟨i,r',hi,hB,rfl,rfl,rfl⟩
  simp only[go_sem]
  intro _
  refine brK_dec (fun hlt=>?_) (fun hge=>?_)
  ·
   obtain⟨f,hf⟩:∃ f,N[i]?=some f:=⟨_,List.getElem?_eq_getElem (by omega)⟩
   have hof:=hok f (List.mem_of_getElem? hf)
   have h32:=flow32 f hof
   have hnb:=schedB_next hf
   have hnx:=schedN_next hf
   have hno:=schedB_no hf
   have hsl:(schedN (N.take i)).length=i:=by unfold schedN;rw[List.length_map,List.length_take];omega
   generalize flowF f=g at h32 hnb hnx hno
   obtain⟨g,gb⟩:=g
   simp only[go_sem]
   refine elemHave (x:=f) (by omega) (by simpa using hf) ?_
   simp only[go_sem]
   refine PCall.call h32 ?_
   cases gb
   ·
    simp only[go_sem]
    exact⟨_,rfl,false,by rw[if_neg (fun h=>hno rfl h)];exact weak_noFs⟩
   ·
    simp only[go_sem]
    refine And.intro (by omega) ?_
    exact loopFr _ (by omega) ⟨i+1,_,by omega,by rw[hnb,hB];rfl,rfl,rfl,by rw[hnx];simp;exact⟨by omega,rfl⟩⟩ (.next rfl (by omega) .nil) rfl
  ·
   obtain rfl:i=N.length:=by omega
   rw[List.take_length] at hB ⊢
   rw[if_pos hB]
   simp only[go_sem]
   refine⟨_,rfl,false,?_⟩
   show Weak (.tup [.agg [.lst 2 (E.map DEnum.enc) none,.lst 5 ((schedN N).map DFlow.enc) (some 4)],.b true]) (.tup [DFlows.enc _,.b true])
   rw[DFlows.enc_eq]
   exact Weak.tups2 ⟨Weak.aggs ⟨.refl _,.tok _ _ _,trivial⟩,.refl _,trivial⟩
theorem law_schedW (h9:∀ p,okProg p→PCall Tryz.prog 23 [p.enc] (flowsA (schedF p))) (p:DProg):PCall Tryz.prog 6 [p.enc] (.b true):=by
 refine pcall_of_vc tabOK Tryz.func6 (by kernel_rfl) rfl (by first|exact pureL|exact pureI) (.raw _) (n:=32) rfl (rs:=[.tmp 2]) rfl ?_
 simp only[go_sem]
 refine PCallE.call (small_p p) ?_
 rintro _ ⟨b,rfl,hb⟩
 cases b with
 | false =>
  simp only[go_sem]
  refine PCall.call live28 ?_
  simp only[go_sem]
  exact finBq rfl rfl
 | true =>
 have hok:=norm_okF p (hb rfl)
 have h1:=h9 p (hb rfl)
 have h2:=schedX24 p (hb rfl) hok.1 hok.2
 generalize schedF p=R at h1 h2
 obtain⟨f,ok⟩:=R
 simp only[go_sem]
 refine PCall.call h1 ?_
 simp only[go_sem]
 refine PCall.call h2 ?_
 simp only[go_sem]
 have hs1:=same12 f f
 rw[eqB_eq rfl] at hs1
 cases ok<;>(repeat' first
  | simp only[go_sem]
  | simp only[beq_self_eq_true]
  | refine PCall.call hs1 ?_
  | refine PCall.call live28 ?_
  | refine pcK_of hs1 ?_
  | refine pcK_of live28 ?_
  | refine gqK_dec (fun _=>?_) (fun _=>?_)
  | exact finBq rfl rfl
  | (exfalso;simp at *;done))
theorem law_sched28 (p:DProg):PCall Tryz.prog 6 [p.enc] (.b true):=law_schedW flows9 p
end Go.Proofs.YtpamokpmlplopaaGreatDoor
