/-
  NmSAL, NmAllW: put together.
-/
import Derived.Test.YtpamokpmlplopaaGreatDoorUniBj
import Derived.Test.YtpamokpmlplopaaGreatDoorUniBm
namespace Go.Proofs.YtpamokpmlplopaaGreatDoor
open Go.Abs
set_option maxRecDepth 20000
set_option linter.unusedSimpArgs false
set_option linter.unusedVariables false
set_option maxHeartbeats 1000000
attribute [local irreducible] vc vcOps vcStep vcGuard prK hrK gK gsK brK callK ElemK SeqK BlockK ScopeK OpsK CallK LoopK LoopGo finPost ACall PCall PCallE BCall vqOps vqStep vqGuard qrK heK pcK gqK gqsK QOpsK qcallK DrawK
theorem law_allW (h9:∀ p,okProg p→PCall Tryz.prog 23 [p.enc] (flowsA (schedF p))) (p:DProg):PCall Tryz.prog 7 [p.enc] (.b true):=by
 refine pcall_of_vc tabOK Tryz.func7 (by kernel_rfl) rfl (by first|exact pureL|exact pureI) (.raw _) (n:=91) rfl (rs:=[.tmp 2]) rfl ?_
 simp only[go_sem]
 refine PCallE.call (small_p p) ?_
 rintro _ ⟨b,rfl,hb⟩
 cases b with
 | false =>
  simp only[go_sem]
  refine PCall.call live28 ?_
  simp only[go_sem]
  exact finBq rfl rfl
 | true =>
 have hp:=hb rfl
 have h1:=h9 p hp
 have hx:=startX p hp
 have hth:=schedF_there (p:=p)
 have hsz:=schedF_sz hp
 have hz:structAV ti 61 .eql (startF p).enc (AV.agg [AV.raw (Value.int IntKind.i64 0),AV.raw (Value.int IntKind.i64 0),AV.raw (Value.int IntKind.i64 0)])=.ok (.raw (.bool (decide (startF p=⟨0,0,0⟩)))):=by
  have:=eql_DFault (startF p) ⟨0,0,0⟩
  rwa[DFault.enc_eq ⟨0,0,0⟩] at this
 by_cases h0:(startF p).Err=0
 ·
  have hok:=norm_okF p hp
  rw[(start_zero h0).1] at hx hz
  have he:=schedF_ok h0
  have hfl:(schedF p).1.Flows.length≤10:=by
   rw[he]
   rw[norm_ok h0] at hok
   simpa[schedN] using hok.1
  have hb1:(schedF p).2=true:=by rw[he]
  generalize schedF p=R at h1 hth hsz hfl hb1
  obtain⟨⟨E,N⟩,ok⟩:=R
  dsimp only at hth hsz hfl hb1
  subst hb1
  simp only[go_sem]
  refine PCall.call h1 ?_
  simp only[go_sem,DFlows.enc_cells]
  refine PCall.call hx ?_
  simp only[go_sem,hz,beq_self_eq_true,Bool.not_true]
  refine loop_fr [2,5,6,7,8,9,10,11,27,28,29,30,31,32,33,34,35,36,37,38,39,40,41,42,43,44,45,46,47,48,49,50,51,52,53,54,55,56,57,58,59,60,61,62,63,64,65,66,67,68,69,70,71,72,73,74,75,76,77,78,79,80,81,82,83,84,85,86,87,88,89] (fun mm C hh=>∃(i:Nat) (r':List Blk),i≤N.length∧mm=N.length-i∧C=[(5,.raw (.int .i64 (i:Nat)))] ∧
   hh=.cells 25 [.lst 2 (p.Enums.map DEnum.enc) none,.lst 5 (p.Nodes.map DNode.enc) none]::.cells 30 [.lst 2 (E.map DEnum.enc) none,.lst 5 (N.map DFlow.enc) none]::r') N.length _ ⟨0,[],by omega,by omega,rfl,rfl⟩ (.cons rfl .nil) ?_
  rintro mm C j hh ⟨i,r',hi,rfl,rfl,rfl⟩
  simp only[go_sem]
  intro _
  refine brK_dec (fun hlt=>?_) (fun hge=>?_)
  ·
   obtain⟨f,hf⟩:∃ f,N[i]?=some f:=⟨_,List.getElem?_eq_getElem (by omega)⟩
   have htf:=hth f (List.mem_of_getElem? hf)
   obtain⟨g1,g2,g3⟩:=hsz f (List.mem_of_getElem? hf)
   simp only[go_sem]
   refine elemHave (x:=f) (by omega) (by simpa using hf) ?_
   simp only[go_sem,DFlow.enc_cells]
   refine loop_fr [7,8,40,41,42,43,44,45,46,47,48,49,50,51,52,53,54,55] (fun mm C hh=>∃(k:Nat) (r2:List Blk),k≤f.Ins.length∧mm=f.Ins.length-k∧C=[(8,.raw (.int .i64 (k:Nat))),(7,.lst 1 (((f.Ins.take k).map DVar.Name).map AV.s) (some (r'.length+3)))] ∧
    hh=.cells 25 [.lst 2 (p.Enums.map DEnum.enc) none,.lst 5 (p.Nodes.map DNode.enc) none]::.cells 30 [.lst 2 (E.map DEnum.enc) none,.lst 5 (N.map DFlow.enc) none]::(r'++.cells 37 [.s f.Name,.lst 5 (f.Ins.map DVar.enc) none,.lst 5 (f.Outs.map DVar.enc) none,.lst 5 (f.Vars.map DVar.enc) none,.lst 10 (f.Eqs.map DPlain.enc) none]::.tok 9 1 k::r2)) f.Ins.length _ ⟨0,[],by omega,by omega,rfl,rfl⟩ (.cons rfl (.cons rfl .nil)) ?_
   rintro mm C j2 hh ⟨k,r2,hk,rfl,rfl,rfl⟩
   simp only[go_sem]
   intro _
   refine brK_dec (fun hlt2=>?_) (fun hge2=>?_)
   ·
    obtain⟨x,hx⟩:∃ x,f.Ins[k]?=some x:=⟨_,List.getElem?_eq_getElem (by omega)⟩
    have hnx:((f.Ins.take (k+1)).map DVar.Name).map AV.s=((f.Ins.take k).map DVar.Name).map AV.s++[.s x.Name]:=by
     rw[List.take_add_one,hx]
     simp
    simp only[go_sem]
    refine elemHave (x:=x) (by omega) (by simpa using hx) ?_
    simp only[go_sem]
    refine And.intro (by first|omega|(simp;done)|(simp;omega)) ?_
    exact loopFr _ (by omega) ⟨k+1,_,by omega,rfl,rfl,by simp;exact⟨by omega,rfl⟩⟩ (.next rfl (by omega) (.cons (by rw[hnx];rfl) .nil)) rfl
   ·
    obtain rfl:k=f.Ins.length:=by omega
    rw[List.take_length,← there_zero f]
    simp only[go_sem]
    refine loop_fr [2,7,9,10,11,56,57,58,59,60,61,62,63,64,65,66,67,68,69,70,71,72,73,74,75,76,77,78,79,80,81,82,83,84,85,86,87,88,89] (fun mm C hh=>∃(k:Nat) (r3:List Blk),k≤f.Eqs.length∧mm=f.Eqs.length-k∧C=[(9,.raw (.int .i64 (k:Nat))),(7,.lst 1 ((thereL f k).map AV.s) (some (r'.length+3)))] ∧
     hh=.cells 25 [.lst 2 (p.Enums.map DEnum.enc) none,.lst 5 (p.Nodes.map DNode.enc) none]::.cells 30 [.lst 2 (E.map DEnum.enc) none,.lst 5 (N.map DFlow.enc) none]::(r'++.cells 37 [.s f.Name,.lst 5 (f.Ins.map DVar.enc) none,.lst 5 (f.Outs.map DVar.enc) none,.lst 5 (f.Vars.map DVar.enc) none,.lst 10 (f.Eqs.map DPlain.enc) none]::.tok 9 1 (thereL f k).length::r3)) f.Eqs.length _ ⟨0,r2,by omega,by omega,rfl,by rw[there_zero,List.length_map]⟩ (.cons rfl (.cons rfl .nil)) ?_
    rintro mm C j3 hh ⟨k,r3,hk,rfl,rfl,rfl⟩
    simp only[go_sem]
    intro _
    refine brK_dec (fun hlt3=>?_) (fun hge3=>?_)
    ·
     obtain⟨q,hq⟩:∃ q,f.Eqs[k]?=some q:=⟨_,List.getElem?_eq_getElem (by omega)⟩
     have hqm:=List.mem_of_getElem? hq
     obtain⟨q1,q2,q3⟩:=g3 q hqm
     have hrl:=reads_leA q
     have hr:=reads109 q (by omega)
     have hin:=htf k q hq
     have htl:=there_len g1 g2 g3 k
     have htn:=there_next hq
     generalize readsP q=W at hr hin hrl
     generalize thereL f k=L at hin htl htn ⊢
     simp only[go_sem]
     refine elemHave (x:=q) (by omega) (by simpa using hq) ?_
     simp only[go_sem]
     refine PCall.call hr ?_
     simp only[go_sem]
     refine loop_frX [2,11,69,70,71,72,73,74,75,76,77,78,79,80,81] (fun mm C=>∃ j:Nat,j≤W.length∧mm=W.length-j∧C=[(11,.raw (.int .i64 (j:Nat)))]) W.length _ ⟨0,by omega,by omega,rfl⟩ (.cons rfl .nil) ?_
     rintro mm C j4 r4 ⟨i4,hi4,rfl,rfl⟩
     simp only[go_sem]
     intro _
     refine brK_dec (fun hlt4=>?_) (fun hge4=>?_)
     ·
      obtain⟨s,hs⟩:∃ s,W[i4]?=some s:=⟨_,List.getElem?_eq_getElem (by omega)⟩
      have hm:=has26 L s
      rw[memB_iff.2 (hin s (List.mem_of_getElem? hs))] at hm
      simp only[go_sem]
      refine elemHave (x:=s) (by omega) (by simpa using hs) ?_
      simp only[go_sem]
      refine PCall.callW hm ⟨.tok _ _ _,.refl _,trivial⟩ ?_
      simp only[go_sem]
      exact loopFrX _ (by omega) _ ⟨i4+1,by omega,rfl,rfl⟩ (.next rfl (by omega) .nil) rfl (by first|rfl|(simp only[List.append_assoc,List.cons_append,List.nil_append];rfl))
     ·
      simp only[go_sem]
      refine elemHave (x:=q) (by omega) (by simpa using hq) ?_
      simp only[go_sem]
      refine And.intro (by omega) ?_
      exact loopFr _ (by omega) ⟨k+1,r3++r4,by omega,rfl,rfl,by rw[htn];simp⟩ (.next rfl (by omega) (.cons (by rw[htn];simp) .nil)) rfl
    ·
     simp only[go_sem]
     exact loopFr _ (by omega) ⟨i+1,_,by omega,rfl,rfl,rfl⟩ (.next rfl (by omega) .nil) rfl
  ·
   simp only[go_sem]
   refine PCall.call live28 ?_
   simp only[go_sem]
   exact finBq rfl rfl
 ·
  rw[schedF_no h0] at h1
  have hnz:¬ startF p=⟨0,0,0⟩:=fun e=>h0 (by rw[e])
  rw[decide_eq_false hnz] at hz
  generalize startF p=F at hx h0 hz
  simp only[go_sem]
  refine PCall.call h1 ?_
  simp only[go_sem,DFlows.enc_cells]
  refine PCall.call hx ?_
  simp only[go_sem,hz,beq_self_eq_true,Bool.not_true]
  refine loop_fr [2,5,6,7,8,9,10,11,27,28,29,30,31,32,33,34,35,36,37,38,39,40,41,42,43,44,45,46,47,48,49,50,51,52,53,54,55,56,57,58,59,60,61,62,63,64,65,66,67,68,69,70,71,72,73,74,75,76,77,78,79,80,81,82,83,84,85,86,87,88,89] (fun mm C hh=>∃(r':List Blk),mm=0∧C=[(5,.raw (.int .i64 0))] ∧
   hh=.cells 25 [.lst 2 (p.Enums.map DEnum.enc) none,.lst 5 (p.Nodes.map DNode.enc) none]::.cells 30 [.lst 2 [] none,.lst 5 [] none]::r') 0 _ ⟨[],rfl,rfl,rfl⟩ (.cons rfl .nil) ?_
  rintro mm C j hh ⟨r',rfl,rfl,rfl⟩
  simp only[go_sem]
  intro _
  refine brK_dec (fun h=>absurd h (by decide)) (fun _=>?_)
  simp only[go_sem]
  refine PCall.call live28 ?_
  simp only[go_sem]
  exact finBq rfl rfl
theorem law_all22 (p:DProg):PCall Tryz.prog 7 [p.enc] (.b true):=law_allW flows9 p
end Go.Proofs.YtpamokpmlplopaaGreatDoor
