/-
  ScopeX3, Cause2, Cause3, Cause4, Cause5: put together.
-/
import Derived.Test.YtpamokpmlplopaaGreatDoorUniAo
import Derived.Test.YtpamokpmlplopaaGreatDoorUniAt
import Derived.Test.YtpamokpmlplopaaGreatDoorUniAu
namespace Go.Proofs.YtpamokpmlplopaaGreatDoor
open Go.Abs
set_option maxRecDepth 20000
set_option linter.unusedSimpArgs false
set_option linter.unusedVariables false
set_option maxHeartbeats 1000000
attribute [local irreducible] vc vcOps vcStep vcGuard prK hrK gK gsK brK callK ElemK SeqK BlockK ScopeK OpsK CallK LoopK LoopGo finPost ACall PCall PCallE BCall vqOps vqStep vqGuard qrK heK pcK gqK gqsK QOpsK qcallK DrawK
theorem fault47 (a b c:Int):PCall Tryz.prog 53 [.i a,.i b,.i c] (DFault.enc ⟨a,b,c⟩):=by
 refine pcall_of_vc tabOK Tryz.func53 (by kernel_rfl) rfl (by first|exact pureL|exact pureI) (by first|exact pureL|exact pureI) (n:=11) rfl (rs:=[.cell 6 61]) rfl ?_
 simp only[go_sem]
 rw[DFault.enc_eq]
 exact⟨_,rfl,false,.refl _⟩
theorem faultX_err {p:DProg} {a:Int} {n:DNode} (h:(allV n).all (clockedF p.Enums n)=false):nodeFault p a n=⟨a,-1,5⟩:=by unfold nodeFault;rw[if_neg (by rw[h];simp)]
theorem faultX_eq {p:DProg} {a:Int} {n:DNode} {e:Int × Int} (h:(allV n).all (clockedF p.Enums n)=true) (he:eqsErr p a n 0 [] n.Eqs=e) (h2:¬ e.2=0):nodeFault p a n=⟨a,e.1,e.2⟩:=by unfold nodeFault;rw[if_pos h,he,if_neg h2]
theorem faultX_def {p:DProg} {a:Int} {n:DNode} {e:Int × Int} (h:(allV n).all (clockedF p.Enums n)=true) (he:eqsErr p a n 0 [] n.Eqs=e) (h2:e.2=0) {b:Bool} (hb:allDef n=b):nodeFault p a n=if b=true then⟨0,0,0⟩ else⟨a,-1,5⟩:=by unfold nodeFault;rw[if_pos h,he,if_pos h2,hb]
theorem clk_no {L:List DEnum} {n:DNode} {d:DDecl} (h1:¬ d.On=⟨#[]⟩) (h2:isF n d.On=false∨armOk L d.Ctor=false):clockedF L n d=false:=by
 unfold clockedF
 rw[decide_eq_false h1]
 rcases h2 with h2|h2<;>simp[h2]
theorem clk_yes {L:List DEnum} {n:DNode} {d:DDecl} (h2:d.On=⟨#[]⟩∨(isF n d.On=true∧armOk L d.Ctor=true)):clockedF L n d=true:=by
 unfold clockedF
 rcases h2 with h2|h2
 ·
  rw[decide_eq_true h2];rfl
 ·
  simp[h2.1,h2.2]
theorem rest_at {n:DNode} {i:Nat} {d:DDecl} (h:(allV n)[i]?=some d) (hi:n.Ins.length≤i):(n.Outs++n.Vars)[i-n.Ins.length]?=some d:=by
 have e:allV n=n.Ins++(n.Outs++n.Vars):=by simp[allV]
 rw[e,List.getElem?_append_right hi] at h
 exact h
theorem node50 (p:DProg) (j:Nat) (n:DNode) (hj:p.Nodes[j]?=some n) (hn:okNode n):PCall Tryz.prog 190 [p.enc,.i (j:Int)] (nodeFault p (j:Int) n).enc:=by
 have hl:=okN_lenX hn
 have h4:=hn.2.2.2.1
 have hlen:(allV n).length=n.Ins.length+(n.Outs++n.Vars).length:=by simp[allV]
 refine pcall_of_vc tabOK Tryz.func190 (by kernel_rfl) rfl (by first|exact pureL|exact pureI) (by first|exact pureL|exact pureI) (n:=92) rfl (rs:=[.cell 4 61]) rfl ?_
 simp only[go_sem]
 refine elemHave (by omega) hj ?_
 simp only[go_sem]
 refine PCall.call (all66 n (by omega)) ?_
 simp only[go_sem]
 refine loop_frH [7,18,19,20,21,22,23,24,25,26,27,28,29,30,31,32,33,34,35,36,37,38,39,40,41,42,43,44,45,46,47,48,49,50,51] (fun m C=>∃ i:Nat,i≤(allV n).length∧m=(allV n).length-i∧(∀ d∈(allV n).take i,clockedF p.Enums n d=true)∧C=[(7,.raw (.int .i64 (i:Nat)))]) (allV n).length _ ⟨0,by omega,by omega,by simp,rfl⟩ (.cons rfl .nil) ?_
 rintro m C ja ⟨i,hi,rfl,hp,rfl⟩
 simp only[go_sem]
 intro _
 refine brK_dec (fun hlt=>?_) (fun hge=>?_)
 ·
  obtain⟨d,hd⟩:∃ d,(allV n)[i]?=some d:=⟨_,List.getElem?_eq_getElem (by omega)⟩
  repeat' first
   | (exfalso;omega)
   | simp only[go_sem]
   | (intro _)
   | refine brK_dec (fun _=>?_) (fun _=>?_)
   | refine gqK_dec (fun _=>?_) (fun _=>?_)
   | refine elemHave (by omega) hd ?_
   | refine drawK mo (by kernel_rfl) ?_
   | (refine pcK_of (is90 n d.On hl) ?_;generalize hix:isF n d.On=b;cases b)
   | (refine pcK_of (armX15 p d.Ctor) ?_;generalize hax:armOk p.Enums d.Ctor=b;cases b)
   | (refine PCall.call (fault47 _ _ _) ?_)
   | (have hz:¬ d.On=⟨#[]⟩:=(by assumption);have hc:=clk_no (L:=p.Enums) (n:=n) (d:=d) hz (.inl hix);rw[faultX_err (List.all_eq_false.2 ⟨d,List.mem_of_getElem? hd,by simp[hc]⟩)];exact⟨_,rfl,false,by rw[DFault.enc_eq];exact .refl _⟩)
   | (have hz:¬ d.On=⟨#[]⟩:=(by assumption);have hc:=clk_no (L:=p.Enums) (n:=n) (d:=d) hz (.inr hax);rw[faultX_err (List.all_eq_false.2 ⟨d,List.mem_of_getElem? hd,by simp[hc]⟩)];exact⟨_,rfl,false,by rw[DFault.enc_eq];exact .refl _⟩)
   | (have hc:=clk_yes (L:=p.Enums) (n:=n) (d:=d) (.inr ⟨hix,hax⟩);exact loopFrH _ (by omega) ⟨i+1,by omega,rfl,take_all hp hd hc,rfl⟩ (.next rfl (by omega) .nil) rfl)
   | (have hz:d.On=⟨#[]⟩:=(by first|assumption|exact Classical.not_not.1 (by assumption));have hc:=clk_yes (L:=p.Enums) (n:=n) (d:=d) (.inl hz);exact loopFrH _ (by omega) ⟨i+1,by omega,rfl,take_all hp hd hc,rfl⟩ (.next rfl (by omega) .nil) rfl)
 ·
  have hcl:(allV n).all (clockedF p.Enums n)=true:=List.all_eq_true.2 (take_full hp (by omega))
  generalize hE:eqsErr p (j:Int) n 0 [] n.Eqs=E
  simp only[go_sem]
  refine loop_frH [8,9,52,53,54,55,56,57,58,59,60,61,62,63,64,65,66,67,68] (fun m C=>∃ i:Nat,i≤n.Eqs.length∧m=n.Eqs.length-i∧eqsErr p (j:Int) n i ((n.Eqs.take i).flatMap DEq.Names) (n.Eqs.drop i)=E∧C=[(8,.raw (.int .i64 (i:Nat)))]) n.Eqs.length _ ⟨0,by omega,by omega,by simpa using hE,rfl⟩ (.cons rfl .nil) ?_
  rintro m C jb ⟨i2,hi2,rfl,hE',rfl⟩
  simp only[go_sem]
  intro _
  refine brK_dec (fun hlt=>?_) (fun hge2=>?_)
  ·
   obtain⟨q,hq⟩:∃ q,n.Eqs[i2]?=some q:=⟨_,List.getElem?_eq_getElem (by omega)⟩
   simp only[go_sem]
   refine PCall.call (eq92 p j n hj hn i2 q hq) ?_
   by_cases he:eqErr p (j:Int) n ((n.Eqs.take i2).flatMap DEq.Names) q=0
   ·
    have hE1:=eqs_next hE' (by simpa using hq) he
    rw[he]
    simp only[go_sem]
    exact loopFrH _ (by omega) ⟨i2+1,by omega,rfl,hE1,rfl⟩ (.next rfl (by omega) .nil) rfl
   ·
    have hE1:=eqs_at hE' (by simpa using hq) he
    rw[faultX_eq hcl hE (by rw[hE1];exact he),hE1]
    generalize eqErr p (j:Int) n ((n.Eqs.take i2).flatMap DEq.Names) q=ee at he
    simp only[go_sem]
    refine brK_dec (fun _=>?_) (fun hq=>absurd he hq)
    simp only[go_sem]
    refine PCall.call (fault47 _ _ _) ?_
    simp only[go_sem]
    exact⟨_,rfl,false,by rw[DFault.enc_eq];exact .refl _⟩
  ·
   have hE1:=eqs_0 hE' (by omega)
   generalize hb:allDef n=b
   rw[faultX_def hcl hE (by rw[hE1]) hb]
   simp only[go_sem]
   intro _
   refine loop_frH [10,72,73,74,75,76,77,78,79,80,81,82,83,84,85,86,87,88,89,90] (fun m C=>∃ i:Nat,n.Ins.length≤i∧i≤(allV n).length∧m=(allV n).length-i∧(∀ d∈(n.Outs++n.Vars).take (i-n.Ins.length),memB d.Name (n.Eqs.flatMap DEq.Names)=true)∧C=[(10,.raw (.int .i64 (i:Nat)))]) ((allV n).length-n.Ins.length) _ ⟨n.Ins.length,by omega,by omega,rfl,by simp,rfl⟩ (.cons rfl .nil) ?_
   rintro m C jc ⟨i3,hi3,hi3',rfl,hp3,rfl⟩
   simp only[go_sem]
   intro _
   refine brK_dec (fun hlt=>?_) (fun hge3=>?_)
   ·
    obtain⟨d,hd⟩:∃ d,(allV n)[i3]?=some d:=⟨_,List.getElem?_eq_getElem (by omega)⟩
    have hd2:=rest_at hd hi3
    simp only[go_sem]
    refine drawK mo (by kernel_rfl) ?_
    simp only[go_sem]
    refine elemHave (by omega) hd ?_
    simp only[go_sem]
    refine pcK_of (defined93 n hn d.Name n.Eqs.length (Nat.le_refl _)) ?_
    rw[List.take_length]
    simp only[go_sem]
    refine brK_dec (fun hz=>?_) (fun hz=>?_)
    ·
     have hno:memB d.Name (n.Eqs.flatMap DEq.Names)=false:=by
      cases hm:memB d.Name (n.Eqs.flatMap DEq.Names) with
      | false=>rfl
      | true=>have:=cntL_mem (memB_iff.1 hm);exfalso;omega
     have hbf:b=false:=by rw[← hb];unfold allDef;exact List.all_eq_false.2 ⟨d,List.mem_of_getElem? hd2,by simp[hno]⟩
     rw[hbf,if_neg (by simp)]
     simp only[go_sem]
     refine PCall.call (fault47 _ _ _) ?_
     simp only[go_sem]
     exact⟨_,rfl,false,by rw[DFault.enc_eq];exact .refl _⟩
    ·
     have hyes:memB d.Name (n.Eqs.flatMap DEq.Names)=true:=by
      cases hm:memB d.Name (n.Eqs.flatMap DEq.Names) with
      | true=>rfl
      | false =>
       have hnm:d.Name ∉ n.Eqs.flatMap DEq.Names:=fun h=>by rw[memB_iff.2 h] at hm;exact Bool.noConfusion hm
       exact absurd (by have:=cntL_zero hnm;omega) hz
     simp only[go_sem]
     exact loopFrH _ (by omega) ⟨i3+1,by omega,by omega,rfl,by rw[show i3+1-n.Ins.length=(i3-n.Ins.length)+1 by omega];exact take_all hp3 hd2 hyes,rfl⟩ (.next rfl (by omega) .nil) rfl
   ·
    have hbt:b=true:=by rw[← hb];unfold allDef;exact List.all_eq_true.2 (take_full hp3 (by omega))
    rw[hbt,if_pos rfl]
    simp only[go_sem]
    exact⟨_,rfl,false,by rw[DFault.enc_eq];exact .refl _⟩
theorem scopeX (p:DProg) (hp:okProg p):PCall Tryz.prog 150 [p.enc] (scopeF p).enc:=by
 refine pcall_of_vc tabOK Tryz.func150 (by kernel_rfl) rfl (by first|exact pureL|exact pureI) (by first|exact pureL|exact pureI) (n:=27) rfl (rs:=[.cell 2 61]) rfl ?_
 have hp6:=hp.2.1
 unfold scopeF
 simp only[go_sem]
 refine PCall.call (checkX p hp) ?_
 generalize checkF p=e
 simp only[go_sem]
 refine brK_dec (fun h0=>?_) (fun h0=>?_)
 ·
  rw[if_neg h0]
  simp only[go_sem]
  refine PCall.call (fault47 _ _ _) ?_
  simp only[go_sem]
  exact⟨_,rfl,false,by rw[DFault.enc_eq];exact .refl _⟩
 rw[if_pos (by simpa using h0)]
 generalize hE:nodesFault p 0 p.Nodes=E
 simp only[go_sem]
 refine loop_frX [4,5,12,13,14,15,16,17,18,19,20,21,22,23,24,25] (fun m C=>∃ i:Nat,i≤p.Nodes.length∧m=p.Nodes.length-i∧nodesFault p i (p.Nodes.drop i)=E∧C=[(4,.raw (.int .i64 (i:Nat)))]) p.Nodes.length _ ⟨0,by omega,by omega,hE,rfl⟩ (.cons rfl .nil) ?_
 rintro m C ja r ⟨i,hi,rfl,hE',rfl⟩
 simp only[go_sem]
 intro _
 refine brK_dec (fun hlt=>?_) (fun hge=>?_)
 ·
  obtain⟨n,hj⟩:∃ n,p.Nodes[i]?=some n:=⟨_,List.getElem?_eq_getElem (by omega)⟩
  have hn:=hp.2.2 n (List.mem_of_getElem? hj)
  simp only[go_sem]
  refine PCall.call (node50 p i n hj hn) ?_
  have hzz:(AV.agg [.raw (.int .i64 0),.raw (.int .i64 0),.raw (.int .i64 0)])=(⟨0,0,0⟩:DFault).enc:=by rw[DFault.enc_eq]
  by_cases hF:(nodeFault p (i:Int) n).Err=0
  ·
   have hE1:=nodes_next hE' (by simpa using hj) hF
   have hz:=nodeFault_zero hF
   rw[hz]
   simp only[go_sem]
   rw[hzz]
   simp only[go_sem]
   exact loopFrX _ (by omega) _ ⟨i+1,by omega,rfl,hE1,rfl⟩ (.next rfl (by omega) .nil) rfl (by first|rfl|(simp only[List.append_assoc,List.cons_append,List.nil_append];rfl))
  ·
   have hE1:=nodes_at hE' (by simpa using hj) hF
   rw[hE1]
   generalize nodeFault p (i:Int) n=F at hF
   simp only[go_sem]
   rw[hzz]
   simp only[go_sem]
   refine brK_dec (fun _=>?_) (fun hq=>absurd (by intro h;rw[h] at hF;exact hF rfl) hq)
   simp only[go_sem]
   exact⟨_,rfl,false,by rw[DFault.enc_eq];exact .refl _⟩
 ·
  have h0:=nodes_0 hE' (by omega)
  subst h0
  simp only[go_sem]
  exact⟨_,rfl,false,by rw[DFault.enc_eq];exact .refl _⟩
abbrev namesC (f:DNode):List (List ByteArray):=f.Eqs.map DEq.Names
abbrev hangsC (f:DNode):List (List ByteArray):=f.Eqs.map (hangsF f)
theorem len_namesC (f:DNode):(namesC f).length=f.Eqs.length:=List.length_map ..
def okC (f:DNode):Prop:=f.Eqs.length≤60∧∀ q∈f.Eqs,q.Names.length≤20∧okH f q
theorem okC.hang {f:DNode} {q:DEq} {i:Nat} (h:okC f) (hq:f.Eqs[i]?=some q):okH f q:=(h.2 q (List.mem_of_getElem? hq)).2
theorem okC.names {f:DNode} (h:okC f):(namesC f).flatten.length≤1200:=by
 have h1:=flat_le (N:=namesC f) (c:=20) fun l hl=>by
  obtain⟨q,hq,rfl⟩:=List.mem_map.1 hl
  exact(h.2 q hq).1
 have:=h.1
 rw[len_namesC] at h1
 omega
theorem waits126 (f:DNode) (pl:List Bool) (s:ByteArray) (hl:pl.length=f.Eqs.length) {h:List Blk} {k:Nat} {K:AV→List Blk→Prop} (hb:blkCells h k=some (pl.map AV.b)) (hK:K (.b (waitsF (namesC f) pl s)) h) :
  ACall Tryz.prog 154 [f.enc,.sl 1 k 0 pl.length,.s s] h K:=by
 obtain⟨t,hb⟩:=blk_at hb
 refine acall_of_vc tabOK Tryz.func154 (by kernel_rfl) rfl (n:=45) rfl (rs:=[.tmp 6]) rfl ?_
 repeat' first
  | exact finB rfl
  | exact finI rfl
  | exact finP rfl
  | exact absurd rfl (by assumption)
  | simp only[go_sem]
  | (intro _)
  | refine brK_dec (fun _=>?_) (fun _=>?_)
  | refine brK_any ?_ ?_
  | refine gK_dec (fun _=>?_) (fun _=>?_)
  | refine gK_any ?_ ?_
  | refine gqK_dec (fun _=>?_) (fun _=>?_)
  | refine⟨by omega,?_⟩
  | refine elemHave (by omega) (by assumption) ?_
  | refine elemMap (by omega) (by omega) (fun x hx=>?_)
  | refine drawK mo (by kernel_rfl) ?_
  | (simp only[go_sem,at_app0])
  | (rw[NoW.done hpi (by rw[List.length_map];omega)] at hK;exact finH0 _ rfl (.raw _) hK)
  | (rw[waits_yes (map_some hq) hpx (mem_eq hx (by assumption))] at hK;exact finH0 _ rfl (.raw _) hK)
  | ((fail_if_success (clear hq));obtain⟨q,hq⟩:∃ q,f.Eqs[((i:Nat):Int).toNat]?=some q:=⟨_,List.getElem?_eq_getElem (by rw[Int.toNat_natCast];omega)⟩;have hpx:pl[i]?=some pl[i]:=List.getElem?_eq_getElem (by omega);generalize pl[i]=b at hpx;cases b)
  | (simp only[go_sem,at_old hb,Nat.zero_add,Nat.mul_one,Int.toNat_natCast,dropB hpx])
  | exact loopFrH _ (by omega) ⟨i+1,by omega,rfl,NoW.step hpi (map_some hq) (not_take hpj (by omega)),rfl⟩ (.next rfl (by omega) .nil) rfl
  | (refine loop_frH [6,7,8,9,10,11,12,13,14,15,16,17,18,19,20,21,22,23,24,25,26,27,28,29,30,31,32,33,34,35,36,37,38,39,40,41,42,43,44] (fun mm_ CC_=>∃(i:Nat),i≤f.Eqs.length∧mm_=f.Eqs.length-i∧(NoW (namesC f) pl s i)∧CC_=[(7,.raw (.int .i64 ((i:Nat):Int)))]) (f.Eqs.length) _ ⟨0,by omega,by omega,NoW.zero,rfl⟩ (.cons rfl .nil) ?_;rintro mm_ CC_ ji ⟨i,hi,rfl,hpi,rfl⟩)
  | exact loopFrH _ (by omega) ⟨j+1,by omega,rfl,(by first|exact not_step hpj (by assumption) (fun _=>by assumption)|exact fun h=>absurd (hpx.symm.trans h) (by simp)),rfl⟩ (.next rfl (by omega) .nil) rfl
  | (refine loop_frH [6,8,16,17,18,19,20,21,22,23,24,25,26,27,28,29,30,31,32,33,34,35,36,37,38,39,40,41,42,43,44] (fun mm_ CC_=>∃(j:Nat),j≤q.Names.length∧mm_=q.Names.length-j∧(pl[i]?=some false→s ∉ q.Names.take j)∧CC_=[(8,.raw (.int .i64 ((j:Nat):Int)))]) (q.Names.length) _ ⟨0,by omega,by omega,by simp,rfl⟩ (.cons rfl .nil) ?_;rintro mm_ CC_ jj ⟨j,hj,rfl,hpj,rfl⟩)
theorem ready88 (f:DNode) (hf:okC f) (pl:List Bool) (i:Nat) (hl:pl.length=f.Eqs.length) (hi:i<f.Eqs.length) {h:List Blk} {k:Nat} {K:AV→List Blk→Prop} (hb:blkCells h k=some (pl.map AV.b)) (hK:K (.b (readyF (namesC f) (hangsC f) pl i)) h) :
  ACall Tryz.prog 119 [f.enc,.sl 1 k 0 pl.length,.i (i:Int)] h K:=by
 obtain⟨t,hb'⟩:=blk_at hb
 obtain⟨q,hq⟩:∃ q,f.Eqs[((i:Nat):Int).toNat]?=some q:=⟨_,List.getElem?_eq_getElem (by rw[Int.toNat_natCast];omega)⟩
 have hpx:pl[i]?=some pl[i]:=List.getElem?_eq_getElem (by omega)
 generalize pl[i]=b at hpx
 have hh:(hangsC f)[i]?=some (hangsF f q):=map_some hq
 refine acall_of_vc tabOK Tryz.func119 (by kernel_rfl) rfl (n:=30) rfl (rs:=[.tmp 6]) rfl ?_
 simp only[go_sem]
 repeat' first
  | exact finB rfl
  | exact finI rfl
  | exact finP rfl
  | exact absurd rfl (by assumption)
  | simp only[go_sem]
  | (intro _)
  | refine brK_dec (fun _=>?_) (fun _=>?_)
  | refine brK_any ?_ ?_
  | refine gK_dec (fun _=>?_) (fun _=>?_)
  | refine gK_any ?_ ?_
  | refine gqK_dec (fun _=>?_) (fun _=>?_)
  | refine⟨by omega,?_⟩
  | refine elemHave (by omega) (by assumption) ?_
  | refine elemMap (by omega) (by omega) (fun x hx=>?_)
  | refine drawK mo (by kernel_rfl) ?_
  | (simp only[go_sem,at_app0])
  | (refine PCall.call (hangs125 f i q hq (hf.hang hq)) ?_)
  | (refine pcK_ofR (v:=.b (waitsF (namesC f) pl x)) (fun h9 K9 hm9 hk9=>waits126 f pl x hl (hm9.cells (blk_app hb)) hk9) ?_;generalize hw:waitsF (namesC f) pl x=w;cases w)
  | (rw[ready_wait hh (List.mem_of_getElem? hx) hw] at hK;exact finH0 _ rfl (.raw _) hK)
  | (simp only[go_sem,at_old hb',Nat.zero_add,Nat.mul_one,Int.toNat_natCast,dropB hpx])
  | (rw[ready_not hpx] at hK;exact finH0 _ rfl (.raw _) hK)
  | (rw[ready_yes hpx hh (take_full hpj (by omega))] at hK;exact finH0 _ rfl (.raw _) hK)
  | exact loopFrH _ (by omega) ⟨j+1,by omega,rfl,take_all hpj (by simpa using hx) hw,rfl⟩ (.next rfl (by omega) .nil) rfl
  | (refine loop_frH [6,8,12,13,14,15,16,17,18,19,20,21,22,23,24] (fun mm_ CC_=>∃(j:Nat),j≤(hangsF f q).length∧mm_=(hangsF f q).length-j∧(∀ s∈(hangsF f q).take j,waitsF (namesC f) pl s=false)∧CC_=[(8,.raw (.int .i64 ((j:Nat):Int)))]) ((hangsF f q).length) _ ⟨0,by omega,by omega,by simp,rfl⟩ (.cons rfl .nil) ?_;rintro mm_ CC_ jj ⟨j,hj,rfl,hpj,rfl⟩)
  | (cases b)
theorem ready88' (f:DNode) (hf:okC f) (pl:List Bool) (i:Nat) (n:Nat) (hn:n=pl.length) (hl:pl.length=f.Eqs.length) (hi:i<f.Eqs.length) {h:List Blk} {k:Nat} {K:AV→List Blk→Prop} (hb:blkCells h k=some (pl.map AV.b)) (hK:K (.b (readyF (namesC f) (hangsC f) pl i)) h) :
  ACall Tryz.prog 119 [f.enc,.sl 1 k 0 n,.i (i:Int)] h K:=by subst hn;exact ready88 f hf pl i hl hi hb hK
theorem toNatE {a:Int} (_:-1≤a) (h':a≥0):∃ i:Nat,a=i:=⟨a.toNat,by omega⟩
abbrev nodeB2 (f:DNode):Blk:=.cells 68 [.s f.Name,.lst 6 (f.Ins.map DDecl.enc) none,.lst 6 (f.Outs.map DDecl.enc) none,.lst 6 (f.Vars.map DDecl.enc) none,.lst 7 (f.Eqs.map DEq.enc) none]
theorem order40 (f:DNode) (hf:okC f):PCall Tryz.prog 81 [f.enc] (orderA (orderF (namesC f) (hangsC f))):=by
 have hn:=hf.1
 have hN:=len_namesC f
 generalize hR:orderF (namesC f) (hangsC f)=R
 refine pcall_of_vc tabOK Tryz.func81 (by kernel_rfl) rfl (by first|exact pureL|exact pureI) (pure_orderA _) (n:=43) rfl (rs:=[.tmp 2,.tmp 3]) rfl ?_
 simp only[go_sem]
 intro _
 refine⟨by omega,?_⟩
 simp only[Int.toNat_natCast]
 refine loop_fr [2,3,5,6,7,13,14,15,16,17,18,19,20,21,22,23,24,25,26,27,28,29,30,31,32,33,34,35,36,37,38,39,40,41] (fun m C hh=>∃(pl:List Bool) (out:List Nat) (r:List Blk),pl.length=f.Eqs.length∧out.length≤f.Eqs.length∧m=f.Eqs.length-out.length∧orderG (namesC f) (hangsC f) (f.Eqs.length-out.length) pl out=R ∧
  C=[(5,.lst 1 (out.map AV.n) (some 2))]∧hh=nodeB2 f::.cells 4 (pl.map AV.b)::.tok 3 1 out.length::r) (f.Eqs.length) _
  ⟨List.replicate f.Eqs.length false,[],[],by simp,by simp,by simp,by rw[← hR,orderF,hN];rfl,rfl,by simp⟩ (.cons rfl .nil) ?_
 rintro m C jo hh ⟨pl,out,r,hl,hol,rfl,hG,rfl,rfl⟩
 repeat' first
  | exact finB rfl
  | exact finI rfl
  | exact finP rfl
  | exact absurd rfl (by assumption)
  | simp only[go_sem]
  | (intro _)
  | refine brK_dec (fun _=>?_) (fun _=>?_)
  | refine brK_any ?_ ?_
  | refine gK_dec (fun _=>?_) (fun _=>?_)
  | refine gK_any ?_ ?_
  | refine gqK_dec (fun _=>?_) (fun _=>?_)
  | refine⟨by omega,?_⟩
  | refine elemHave (by omega) (by assumption) ?_
  | refine elemMap (by omega) (by omega) (fun x hx=>?_)
  | refine drawK mo (by kernel_rfl) ?_
  | (rw[wrap_in _ (by omega) (by omega)])
  | (refine loop_frH [6,7,23,24,25,26,27,28,29,30,31] (fun m C=>∃ a b:Int,a<f.Eqs.length ∧ -1≤a∧m=(a+1).toNat∧okDn (namesC f) (hangsC f) pl a b∧C=[(7,.i a),(6,.i b)]) f.Eqs.length _ ⟨(f.Eqs.length:Int)-1,-1,by omega,by omega,by omega,by rw[← hN];exact okDn.zero,rfl⟩ (.cons rfl (.cons rfl .nil)) ?_;rintro m C ji ⟨a,b,ha1,ha2,rfl,hab,rfl⟩)
  | ((fail_if_success (clear hai));have hgo:=toNatE ha2 (by assumption);obtain⟨i,rfl⟩:=hgo;have hai:True:=trivial)
  | (refine ready88' f hf pl i _ hl.symm hl (by omega) (k:=1) rfl ?_;generalize hw:readyF (namesC f) (hangsC f) pl i=w;cases w)
  | (exact loopFrH _ (by omega) ⟨(i:Int)-1,i,by omega,by omega,rfl,hab.hit rfl (by omega) hw,rfl⟩ (.cons (by first|rfl|rw[wrap_in _ (by omega) (by omega)]) (.cons rfl .nil)) rfl)
  | (exact loopFrH _ (by omega) ⟨(i:Int)-1,b,by omega,by omega,rfl,hab.miss rfl hw,rfl⟩ (.cons (by first|rfl|rw[wrap_in _ (by omega) (by omega)]) (.cons rfl .nil)) rfl)
  | (rw[order_none (hab.none_ (by assumption) (by assumption)) (by omega)] at hG;rw[← hG];exact⟨_,rfl,false,weak_order _ _ _⟩)
  | ((fail_if_success (clear hpk));have hgot:=hab.got (by assumption) (by assumption);obtain⟨k,rfl,hk,hp,hpk⟩:=hgot;rw[hN] at hk;have hkl:(k+1≤pl.length)=True:=eq_true (by omega))
  | (simp only[go_sem,Nat.zero_add,Nat.mul_one,Int.toNat_natCast,List.length_map,hkl,set_b'])
  | (refine⟨by simp;omega,?_⟩)
  | (rw[order_some hp (by omega)] at hG;refine loopFr (f.Eqs.length-(out.length+1)) (by omega) ⟨pl.set k true,out++[k],r++[.tok 3 1 1],by simpa using hl,by simp;omega,by simp,by rw[← hG,Nat.sub_sub];simp,rfl,?_⟩ (.cons ?_ .nil) rfl<;>(simp;done))
  | (rw[show f.Eqs.length-out.length=0 by omega] at hG;rw[← hG];exact⟨_,rfl,false,weak_order _ _ _⟩)
  | (exfalso;omega)
abbrev leftB:Blk:=.cells 173 [.map 3,.map 4]
abbrev zeroL:Blk:=.cells 173 [.raw (.map none),.raw (.map none)]
theorem mono_maps {b0 b1 b2:Blk} {kk kk':KK} {n n':Nat} {m m':Value→Option AV} {l:List Blk}:MonoH (b0::b1::b2::.mp kk n m::l) (b0::b1::b2::.mp kk' n' m'::l):=⟨by cases b0<;>trivial,by cases b1<;>trivial,by cases b2<;>trivial,trivial,MonoH.refl l⟩
theorem all85 (f:DNode) (hf:okC f) (b0:Blk) {K:AV→List Blk→Prop} (hK:∀ n m1 m2 b2 r,EqM m1 (hangsC f) (List.replicate f.Eqs.length false)→MapN m2 (fun s=>opn s (namesC f) (List.replicate f.Eqs.length false))→K (.agg [.map 3,.map 4]) (b0::nodeB2 f::b2::.mp .int f.Eqs.length m1::.mp .str n m2::r)) :
  ACall Tryz.prog 122 [f.enc] [b0] K:=by
 have hn:=hf.1
 have hN:=len_namesC f
 have hfl:=hf.names
 refine acallK_of_vc tabOK Tryz.func122 (by kernel_rfl) rfl (n:=40) rfl (rs:=[.cell 2 173]) rfl ?_
 repeat' first
  | exact finB rfl
  | exact finI rfl
  | exact finP rfl
  | exact absurd rfl (by assumption)
  | simp only[go_sem]
  | (intro _)
  | refine brK_dec (fun _=>?_) (fun _=>?_)
  | refine brK_any ?_ ?_
  | refine gK_dec (fun _=>?_) (fun _=>?_)
  | refine gK_any ?_ ?_
  | refine gqK_dec (fun _=>?_) (fun _=>?_)
  | refine⟨by omega,?_⟩
  | refine elemHave (by omega) (by assumption) ?_
  | ((fail_if_success (clear hq));refine elemMap (by omega) (by omega) (fun q hq=>?_))
  | refine elemMap (by omega) (by omega) (fun x hx=>?_)
  | refine drawK mo (by kernel_rfl) ?_
  | (simp only[go_sem,hpj.at _])
  | ((fail_if_success (clear hh));have hh:(hangsC f)[i]?=some (hangsF f q):=map_some (by simpa using hq))
  | (refine pcK_of (hangs123 f q (hf.hang (by simpa using hq))) ?_)
  | (refine⟨mono_maps,?_⟩)
  | (simp only[hpi.1.more])
  | (have e9:i=f.Eqs.length:=(by omega);subst e9;exact⟨_,rfl,_,.refl _,hK _ _ _ _ _ hpi.1 (hpi.2.cast fun s=>by rw[cnt_all (by rw[hN];exact Nat.le_refl _),hN])⟩)
  | exact loopFr _ (by omega) ⟨i+1,_,_,_,(),_,by omega,rfl,⟨hpi.1.put hh,hpj.cast fun s=>cnt_step (map_some hq) (by omega) s⟩,rfl,(by first|rfl|(simp;done)|(simp;rfl))⟩ (.next rfl (by omega) .nil) rfl
  | (refine loop_fr [4,5,7,14,15,16,17,18,19,20,21,22,23,24,25,26,27,28,29,30,31,32,33,34,35,36,37,38] (fun mm_ CC_ hh_=>∃(i:Nat) (n:Nat) (m1:Value→Option AV) (m2:Value→Option AV) (u9:Unit) (r_:List Blk),i≤f.Eqs.length∧mm_=f.Eqs.length-i∧((EqM m1 (hangsC f) (List.replicate i false)∧MapN m2 (fun s=>cntL s ((namesC f).take i).flatten)))∧CC_=[(14,.raw (.int .i64 ((i:Nat):Int)))]∧hh_=b0::nodeB2 f::zeroL::.mp .int i m1::.mp .str n m2::leftB::r_) (f.Eqs.length) _ ⟨0,_,_,_,(),_,by omega,by omega,⟨EqM.nil,MapN.nil⟩,rfl,(by first|rfl|(simp;done)|(simp;rfl))⟩ (.cons (by first|rfl|(simp;done)|(simp;rfl)) .nil) ?_;rintro mm_ CC_ ji hh_ ⟨i,n,m1,m2,u9,ri,hi,rfl,hpi,rfl,rfl⟩)
  | exact loopFr _ (by omega) ⟨j+1,_,_,_,by omega,rfl,hpj.upW (by assumption) (Nat.le_trans (cnt_bnd (map_some hq) _ _) (Nat.le_trans hfl (by omega))),rfl,(by first|rfl|(simp;done)|(simp;rfl))⟩ (.next rfl (by omega) .nil) rfl
  | (refine loop_fr [7,28,29,30,31,32,33,34,35,36,37] (fun mm_ CC_ hh_=>∃(j:Nat) (n:Nat) (m:Value→Option AV) (r_:List Blk),j≤q.Names.length∧mm_=q.Names.length-j∧(MapN m (fun s=>cntL s ((namesC f).take i).flatten+cntL s (q.Names.take j)))∧CC_=[(28,.raw (.int .i64 ((j:Nat):Int)))]∧hh_=b0::nodeB2 f::zeroL::.mp .int (i+1) (mput m1 (.int .i64 (i:Int)) (.lst 1 ((hangsF f q).map AV.s) none))::.mp .str n m::leftB::r_) (q.Names.length) _ ⟨0,_,_,_,by omega,by omega,hpi.2.cast fun s=>by simp[cntL],rfl,(by first|rfl|(simp;done)|(simp;rfl))⟩ (.cons (by first|rfl|(simp;done)|(simp;rfl)) .nil) ?_;rintro mm_ CC_ jj hh_ ⟨j,n,m,rj,hj,rfl,hpj,rfl,rfl⟩)
theorem ready86 (f:DNode) (pl:List Bool) (i:Nat) (q:DEq) (hq:f.Eqs[i]?=some q) (hl:i<pl.length) (b0 b1 b2:Blk) (n1 n2:Nat) (m1 m2:Value→Option AV) (h1:EqM m1 (hangsC f) pl) (h2:MapN m2 (fun s=>opn s (namesC f) pl)) (r:List Blk) {K:AV→List Blk→Prop}
  (hK:K (.b (readyF (namesC f) (hangsC f) pl i)) (b0::b1::b2::.mp .int n1 m1::.mp .str n2 m2::r)):ACall Tryz.prog 123 [.agg [.map 3,.map 4],.i (i:Int)] (b0::b1::b2::.mp .int n1 m1::.mp .str n2 m2::r) K:=by
 have hpx:pl[i]?=some pl[i]:=List.getElem?_eq_getElem hl
 have hh:(hangsC f)[i]?=some (hangsF f q):=map_some hq
 generalize pl[i]=b at hpx
 refine acall_of_vc tabOK Tryz.func123 (by kernel_rfl) rfl (n:=21) rfl (rs:=[.tmp 4]) rfl ?_
 simp only[go_sem,at_app0]
 cases b
 ·
  simp only[go_sem,h1.at hpx hh,orZ,Option.isSome_some]
  refine contains106 (p:=fun s=>decide (((opn s (namesC f) pl:Nat):Int)>0)) (fun x hx K hK=>?_) ?_
  ·
   refine acall_of_vc tabOK Tryz.func160 (by kernel_rfl) rfl (n:=9) rfl (rs:=[.tmp 3]) rfl ?_
   simp only[go_sem,at_app0,at_app,h2.at _]
   exact finH1 rfl (.raw _) hK
  ·
   simp only[any_waits]
   generalize hw:((hangsF f q).any fun s=>waitsF (namesC f) pl s)=w
   rw[ready_any hpx hh hw] at hK
   cases w
   ·
    simp only[go_sem,at_app0,at_app]
    exact finH0 (h:=b0::b1::b2::.mp .int n1 m1::.mp .str n2 m2::r) _ rfl (.raw _) hK
   ·
    simp only[go_sem,at_app0,at_app]
    exact finH0 (h:=b0::b1::b2::.mp .int n1 m1::.mp .str n2 m2::r) _ rfl (.raw _) hK
 ·
  rw[ready_not hpx] at hK
  simp only[go_sem,h1.no hpx,orZ,Option.isSome_none]
  exact finH0 (h:=b0::b1::b2::.mp .int n1 m1::.mp .str n2 m2::r) _ rfl (.raw _) hK
theorem take_endC {g b:ByteArray→Nat} {l:List ByteArray} {i:Nat} (h:∀ s,g s+cntL s (l.take i)=b s) (hi:¬ (i:Int)<l.length):∀ s,g s+cntL s l=b s:=by
 intro s
 have:=h s
 rw[List.take_of_length_le (by omega)] at this
 exact this
theorem place87 (q:DEq) (k:Nat) (b0 b1 b2:Blk) (n1 n2:Nat) (m1 m2:Value→Option AV) (g:ByteArray→Nat) (hm:MapN m2 g) (hg:∀ s,cntL s q.Names≤g s) (hn:∀ s,g s≤1000000) (r:List Blk) {K:AV→List Blk→Prop}
  (hK:∀ n' m' g' r',MapN m' g'→(∀ s,g' s+cntL s q.Names=g s)→K (.tup []) (b0::b1::b2::.mp .int (less (m1 (.int .i64 (k:Int))) n1) (mcut m1 (.int .i64 (k:Int)))::.mp .str n' m'::(r++r'))) :
  ACall Tryz.prog 124 [.agg [.map 3,.map 4],.i (k:Int),q.enc] (b0::b1::b2::.mp .int n1 m1::.mp .str n2 m2::r) K:=by
 refine acallK_of_vc tabOK Tryz.func124 (by kernel_rfl) rfl (n:=24) rfl (rs:=[]) rfl ?_
 repeat' first
  | exact finB rfl
  | exact finI rfl
  | exact finP rfl
  | exact absurd rfl (by assumption)
  | simp only[go_sem]
  | (intro _)
  | refine brK_dec (fun _=>?_) (fun _=>?_)
  | refine brK_any ?_ ?_
  | refine gK_dec (fun _=>?_) (fun _=>?_)
  | refine gK_any ?_ ?_
  | refine gqK_dec (fun _=>?_) (fun _=>?_)
  | refine⟨by omega,?_⟩
  | refine elemHave (by omega) (by assumption) ?_
  | refine elemMap (by omega) (by omega) (fun x hx=>?_)
  | refine drawK mo (by kernel_rfl) ?_
  | (simp only[go_sem,at_app0,at_app])
  | ((fail_if_success (clear h9));obtain⟨g9,h9,hs9⟩:=hpi)
  | (simp only[go_sem,at_app0,at_app,h9.at _])
  | (exact⟨[],rfl,.tup [],.refl _,hK _ _ g9 _ h9 (take_endC hs9 (by assumption))⟩)
  | exact loopFr _ (by omega) ⟨i+1,_,_,_,by omega,rfl,h9.downW hs9 hg (by assumption) (hn _),rfl,(by first|rfl|(simp;done)|(simp;rfl))⟩ (.next rfl (by omega) .nil) rfl
  | (refine loop_fr [7,14,15,16,17,18,19,20,21,22,23] (fun mm_ CC_ hh_=>∃(i:Nat) (n9:Nat) (m9:Value→Option AV) (r_:List Blk),i≤q.Names.length∧mm_=q.Names.length-i∧((∃ g9,MapN m9 g9∧∀ s,g9 s+cntL s (q.Names.take i)=g s))∧CC_=[(14,.raw (.int .i64 ((i:Nat):Int)))]∧hh_=b0::b1::b2::.mp .int (less (m1 (.int .i64 (k:Int))) n1) (mcut m1 (.int .i64 (k:Int)))::.mp .str n9 m9::(r++leftB::r_)) (q.Names.length) _ ⟨0,_,_,_,by omega,by omega,⟨g,hm,fun s=>by simp[cntL]⟩,rfl,(by first|rfl|(simp;done)|(simp;rfl))⟩ (.cons (by first|rfl|(simp;done)|(simp;rfl)) .nil) ?_;rintro mm_ CC_ ji hh_ ⟨i,n9,m9,ri,hi,rfl,hpi,rfl,rfl⟩)
theorem eq_at {α:Type} {l:List α} {i:Nat} (h:i<l.length):∃ q,l[i]?=some q:=⟨_,List.getElem?_eq_getElem h⟩
theorem order39 (f:DNode) (hf:okC f):PCall Tryz.prog 85 [f.enc] (orderA (orderF (namesC f) (hangsC f))):=by
 have hn:=hf.1
 have hN:=len_namesC f
 have hfl:=hf.names
 generalize hR:orderF (namesC f) (hangsC f)=R
 refine pcall_of_vc tabOK Tryz.func85 (by kernel_rfl) rfl (by first|exact pureL|exact pureI) (pure_orderA _) (n:=41) rfl (rs:=[.tmp 2,.tmp 3]) rfl ?_
 simp only[go_sem]
 refine all85 f hf _ (fun n0 m10 m20 b2 r h10 h20=>?_)
 simp only[go_sem]
 refine loop_ghost (ghost_tok 4 3 1 rfl) ?_
 simp only[go_sem]
 refine loop_fr [2,3,4,6,7,10,11,12,13,14,15,16,17,18,19,20,21,22,23,24,25,26,27,28,29,30,31,32,33,34,35,36,37,38,39] (fun mz C hh=>∃(pl:List Bool) (out:List Nat) (n:Nat) (m1 m2:Value→Option AV) (r2:List Blk),pl.length=f.Eqs.length∧out.length≤f.Eqs.length∧mz=f.Eqs.length-out.length∧orderG (namesC f) (hangsC f) (f.Eqs.length-out.length) pl out=R ∧
  EqM m1 (hangsC f) pl∧MapN m2 (fun s=>opn s (namesC f) pl) ∧
  C=[(4,.lst 1 (out.map AV.n) (some (r.length+1+1+1+1+1+1)))]∧hh=nodeB2 f::nodeB2 f::b2::.mp .int (f.Eqs.length-out.length) m1::.mp .str n m2::(r++leftB::.tok 3 1 out.length::r2)) (f.Eqs.length) _
  ⟨List.replicate f.Eqs.length false,[],n0,m10,m20,[],by simp,by simp,by simp,by rw[← hR,orderF,hN];rfl,h10,h20,rfl,by simp⟩ (.cons (by simp) .nil) ?_
 rintro mz C jo hh ⟨pl,out,n,m1,m2,r2,hl,hol,rfl,hG,h1,h2,rfl,rfl⟩
 repeat' first
  | exact finB rfl
  | exact finI rfl
  | exact finP rfl
  | exact absurd rfl (by assumption)
  | simp only[go_sem]
  | (intro _)
  | refine brK_dec (fun _=>?_) (fun _=>?_)
  | refine brK_any ?_ ?_
  | refine gK_dec (fun _=>?_) (fun _=>?_)
  | refine gK_any ?_ ?_
  | refine gqK_dec (fun _=>?_) (fun _=>?_)
  | refine⟨by omega,?_⟩
  | refine elemHave (by omega) (by assumption) ?_
  | refine elemMap (by omega) (by omega) (fun x hx=>?_)
  | (refine drawZ mo (by kernel_rfl) rfl ?_;simp only[List.dropLast_cons_cons,List.dropLast_singleton,List.getLast_cons_cons,List.getLast_singleton])
  | (simp only[go_sem,at_app0,at_app,set_app0])
  | ((fail_if_success (clear hq));have hgo:=eq_at (l:=f.Eqs) (i:=i) (by omega);obtain⟨q,hq⟩:=hgo;have hq2:f.Eqs[((i:Nat):Int).toNat]?=some q:=hq;have hh:(hangsC f)[i]?=some (hangsF f q):=map_some hq;have hnn:(namesC f)[i]?=some q.Names:=map_some hq)
  | (refine ready86 f pl i q hq (by omega) _ _ _ _ _ _ _ h1 h2 _ ?_;generalize hw:readyF (namesC f) (hangsC f) pl i=w;cases w)
  | exact loopFrH _ (by omega) ⟨i+1,by omega,rfl,not_next hpi hw,rfl⟩ (.next rfl (by omega) (.cons rfl .nil)) rfl
  | (refine loop_frH [6,7,17,18,19,20,21,22,23,24] (fun mm_ CC_=>∃(i:Nat),i≤f.Eqs.length∧mm_=f.Eqs.length-i∧((∀ j,j<i→readyF (namesC f) (hangsC f) pl j=false))∧CC_=[(17,.raw (.int .i64 ((i:Nat):Int))),(6,.i (-1))]) (f.Eqs.length) _ ⟨0,by omega,by omega,fun j hj=>absurd hj (by omega),rfl⟩ (.cons rfl (.cons rfl .nil)) ?_;rintro mm_ CC_ ji ⟨i,hi,rfl,hpi,rfl⟩)
  | (have hpx:=ready_pl hw;refine place87 q i _ _ _ _ _ _ _ _ h2 (fun s=>by have:=opn_set (s:=s) hnn hpx;omega) (fun s=>Nat.le_trans opn_le (by omega)) _ (fun n9 m9 g9 r9 h9 h9s=>?_);simp only[List.append_assoc,List.cons_append,h1.less hpx hh];have hpk:=pick_some (N:=namesC f) (H:=hangsC f) (pl:=pl) (n:=(namesC f).length) (i:=0) (k:=i) (Nat.zero_le _) (by omega) (fun j _ hj=>hpi j hj) hw;have h8:MapN m9 (fun s=>opn s (namesC f) (pl.set i true)):=h9.cast (fun s=>by have h7:=opn_set (s:=s) hnn hpx;have:=h9s s;omega))
  | (refine⟨by simp;omega,?_⟩)
  | (rw[order_some hpk (by omega)] at hG;refine loopFr (f.Eqs.length-(out.length+1)) (by omega) ⟨pl.set i true,out++[i],n9,_,m9,_,by simpa using hl,by simp;omega,by simp,by rw[← hG,Nat.sub_sub];simp,h1.cut,h8,rfl,by simp[Nat.sub_sub];rfl⟩ (.cons (by simp;done) .nil) rfl)
  | (rw[order_none (pick_none (fun j _ hj=>hpi j (by omega))) (by omega)] at hG;rw[← hG];exact⟨_,rfl,false,weak_order _ _ _⟩)
  | (rw[show f.Eqs.length-out.length=0 by omega] at hG;rw[← hG];exact⟨_,rfl,false,weak_order _ _ _⟩)
  | (exfalso;omega)
theorem readsL_parts:∀ l:List Ex,(∀ x∈l,(readsF x).length≤(parts x).length)→(readsL l).length≤(partsL l).length
 | [],_=>by simp[readsL]
 | x::xs,h=>by
  have h1:=h x List.mem_cons_self
  have h2:=readsL_parts xs fun y hy=>h y (List.mem_cons_of_mem _ hy)
  simp only[readsL,partsL,List.length_append]
  omega
theorem partsL_keep (k:Int) (s:List Ex):(partsL (keepK k s)).length≤(partsL s).length:=by
 unfold keepK
 split
 ·
  simp[partsL]
 ·
  split
  ·
   cases s with
   | nil=>simp
   | cons x l=>simp[partsL]
  ·
   exact Nat.le_refl _
theorem keep_mem {k:Int} {s:List Ex} {x:Ex} (h:x∈keepK k s):x∈s:=by
 unfold keepK at h
 split at h
 ·
  simp at h
 ·
  split at h
  ·
   exact List.mem_of_mem_take h
  ·
   exact h
theorem parts_lenC (e:Ex):(parts e).length=(partsL e.subs).length+1:=by
 cases e
 simp[parts,Ex.subs]
theorem reads_parts (e:Ex):(readsF e).length≤(parts e).length:=by
 induction e using Ex.ind with
 | _ e ih =>
 rw[readsF_eq,List.length_append,parts_lenC]
 have h1:=readsL_parts (keepK e.kind e.subs) fun x hx=>ih x (keep_mem hx)
 have h2:=partsL_keep e.kind e.subs
 have h3:(mineK e.kind e.name).length≤1:=by unfold mineK;split<;>simp
 omega
theorem okE_reads {e:Ex} (h:okE e):(readsF e).length≤100000:=by
 have:=reads_parts e
 have:=h.1
 omega
theorem okNode_C {n:DNode} (h:okNode n):okC n:=by
 refine⟨by have:=h.2.2.2.1;omega,fun q hq=>?_⟩
 have hx:=h.2.2.2.2.2 q hq
 refine⟨hx.1,okE_reads hx.2.1,?_⟩
 have h1:=h.1.1
 have h2:=h.2.1.1
 have h3:=h.2.2.1.1
 simp[allV]
 omega
end Go.Proofs.YtpamokpmlplopaaGreatDoor
