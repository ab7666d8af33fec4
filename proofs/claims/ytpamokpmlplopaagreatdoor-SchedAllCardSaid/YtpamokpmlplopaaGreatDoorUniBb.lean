/-
  CaP, CaX, StC, NmF, NmW1, NmW1b, NmW2: put together.
-/
import Derived.Test.YtpamokpmlplopaaGreatDoorUniAg
import Derived.Test.YtpamokpmlplopaaGreatDoorUniAj
import Derived.Test.YtpamokpmlplopaaGreatDoorUniAk
import Derived.Test.YtpamokpmlplopaaGreatDoorUniAu
import Derived.Test.YtpamokpmlplopaaGreatDoorUniAy
import Derived.Test.YtpamokpmlplopaaGreatDoorUniAz
import Derived.Test.YtpamokpmlplopaaGreatDoorUniBa
namespace Go.Proofs.YtpamokpmlplopaaGreatDoor
open Go.Abs
set_option maxRecDepth 20000
set_option linter.unusedSimpArgs false
set_option linter.unusedVariables false
set_option maxHeartbeats 1000000
attribute [local irreducible] vc vcOps vcStep vcGuard prK hrK gK gsK brK callK ElemK SeqK BlockK ScopeK OpsK CallK LoopK LoopGo finPost ACall PCall PCallE BCall vqOps vqStep vqGuard qrK heK pcK gqK gqsK QOpsK qcallK DrawK
theorem pure_ns (l:List Nat):Go.Abs.Pure (.lst 1 (l.map AV.n) none):=by rw[mapN];exact pure_ints _
theorem indexN (l:List Nat) (k:Nat):PCall Tryz.prog 125 [.lst 1 (l.map AV.n) none,.i (k:Int)] (.i (idxOf (fun x=>decide (x=k)) l)):=by
 refine pcall_of_vc tabOK Tryz.func125 (by kernel_rfl) rfl (pure_cons (pure_ns l) (pure_cons (.raw _) pure_nil)) (.raw _) (n:=19) rfl (rs:=[.tmp 4]) rfl ?_
 simp only[go_sem]
 intro _
 refine loop_frH [4,5,8,9,10,11,12,13,14,15,16,17,18] (fun m C=>∃ i:Nat,i≤l.length∧m=l.length-i∧(∀ x∈l.take i,decide (x=k)=false)∧C=[(8,.raw (.int .i64 (i:Nat)))]) l.length _ ⟨0,by omega,by omega,by simp,rfl⟩ (.cons rfl .nil) ?_
 rintro m C ja ⟨i,hi,rfl,hp0,rfl⟩
 simp only[go_sem]
 refine brK_dec (fun hlt=>?_) (fun hge=>?_)
 ·
  obtain⟨x,hx⟩:∃ x,l[i]?=some x:=⟨_,List.getElem?_eq_getElem (by omega)⟩
  simp only[go_sem]
  refine elemHave (x:=x) (by omega) (by simpa using hx) ?_
  simp only[go_sem]
  refine brK_dec (fun he=>?_) (fun he=>?_)
  ·
   rw[idxOf_at hp0 (by simpa using hx) (decide_eq_true (by omega))]
   simp only[go_sem]
   exact finIq rfl rfl
  ·
   simp only[go_sem]
   exact loopFrH _ (by omega) ⟨i+1,by omega,rfl,take_all hp0 hx (decide_eq_false (by omega)),rfl⟩ (.next rfl (by omega) .nil) rfl
 ·
  rw[idxOf_none (take_full hp0 (by omega))]
  simp only[go_sem]
  exact finIq rfl rfl
theorem any_mem (l:List Nat) (k:Nat):(l.any fun x=>decide (x=k))=decide (k∈l):=by
 rw[Bool.eq_iff_iff,List.any_eq_true]
 simp
theorem containsN (l:List Nat) (k:Nat):PCall Tryz.prog 86 [.lst 1 (l.map AV.n) none,.i (k:Int)] (.b (decide (k∈l))):=by
 refine pcall_of_vc tabOK Tryz.func86 (by kernel_rfl) rfl (pure_cons (pure_ns l) (pure_cons (.raw _) pure_nil)) (.raw _) (n:=9) rfl (rs:=[.tmp 4]) rfl ?_
 rw[← any_mem,← idx_any]
 simp only[go_sem]
 refine PCall.call (indexN l k) ?_
 simp only[go_sem]
 exact finBq rfl rfl
theorem nodeCa_ok {a:Nat} {n:DNode} {lo:List Nat} (h:orderF (namesC n) (hangsC n)=(lo,true)):nodeCa a n=⟨0,0,0⟩:=by unfold nodeCa;rw[h,if_pos rfl]
theorem nodeCa_no {a:Nat} {n:DNode} {lo:List Nat} (h:orderF (namesC n) (hangsC n)=(lo,false)):nodeCa a n=firstE (a:Int) 9 (fun k _=>decide (k∈lo)) 0 n.Eqs:=by unfold nodeCa;rw[h,if_neg (by simp)]
theorem causeCheck (p:DProg) (hp:okProg p):PCall Tryz.prog 56 [p.enc] (causeF p).enc:=by
 refine pcall_of_vc tabOK Tryz.func56 (by kernel_rfl) rfl (by first|exact pureL|exact pureI) (by first|exact pureL|exact pureI) (n:=48) rfl (rs:=[.cell 2 61]) rfl ?_
 have hp6:=hp.2.1
 unfold causeF
 simp only[go_sem]
 refine PCall.call (clockCheck p hp) ?_
 generalize clockF p=F
 rw[show F.enc=.agg [.i F.Node,.i F.Eq,.i F.Err] from DFault.enc_eq _]
 simp only[go_sem]
 refine brK_dec (fun h0=>?_) (fun h0=>?_)
 ·
  rw[if_neg h0]
  simp only[go_sem]
  exact⟨_,rfl,false,by rw[DFault.enc_eq];exact .refl _⟩
 rw[if_pos (Classical.not_not.1 h0)]
 generalize hE:firstF nodeCa 0 p.Nodes=E
 simp only[go_sem]
 intro _
 refine loop_frX [4,5,6,7,8,18,19,20,21,22,23,24,25,26,27,28,29,30,31,32,33,34,35,36,37,38,39,40,41,42,43,44,45,46] (fun m C=>∃ i:Nat,i≤p.Nodes.length∧m=p.Nodes.length-i∧firstF nodeCa i (p.Nodes.drop i)=E∧C=[(18,.raw (.int .i64 (i:Nat)))]) p.Nodes.length _ ⟨0,by omega,by omega,hE,rfl⟩ (.cons rfl .nil) ?_
 rintro m C ja r ⟨j,hi,rfl,hE',rfl⟩
 simp only[go_sem]
 refine brK_dec (fun hlt=>?_) (fun hge=>?_)
 ·
  obtain⟨n,hj⟩:∃ n,p.Nodes[j]?=some n:=⟨_,List.getElem?_eq_getElem (by omega)⟩
  have hnm:=List.mem_of_getElem? hj
  have hn:=hp.2.2 n hnm
  have he4:=hn.2.2.2.1
  have hO:=order39 n (okNode_C hn)
  have hok:=fun lo=>@nodeCa_ok j n lo
  have hno:=fun lo=>@nodeCa_no j n lo
  generalize orderF (namesC n) (hangsC n)=R at hO hok hno
  obtain⟨lo,ok⟩:=R
  simp only[go_sem]
  refine elemHave (x:=n) (by omega) (by simpa using hj) ?_
  simp only[go_sem]
  refine PCall.call hO ?_
  simp only[go_sem]
  cases ok
  ·
   replace hno:=hno lo rfl
   generalize hG:nodeCa j n=G at hno
   refine loop_frX [8,28,29,30,31,32,33,34,35,36,37,38,39,40,41,42,43,44,45] (fun m C=>∃ i:Nat,i≤n.Eqs.length∧m=n.Eqs.length-i∧firstE (j:Int) 9 (fun k _=>decide (k∈lo)) i (n.Eqs.drop i)=G∧C=[(8,.raw (.int .i64 (i:Nat)))]) n.Eqs.length _ ⟨0,by omega,by omega,hno.symm,rfl⟩ (.cons rfl .nil) ?_
   rintro m C jb r1 ⟨i,hi1,rfl,hG',rfl⟩
   simp only[go_sem]
   intro _
   have hdone:¬ (i:Int)<n.Eqs.length→G=⟨0,0,0⟩:=fun h=>firstE_0 hG' (by omega)
   have hnext:G=⟨0,0,0⟩→firstF nodeCa (j+1) (p.Nodes.drop (j+1))=E:=fun h=>first_next hE' hj (by rw[hG,h])
   repeat' first
    | (exfalso;omega)
    | simp only[go_sem]
    | refine gqK_dec (fun _=>?_) (fun _=>?_)
    | refine gK_dec (fun _=>?_) (fun _=>?_)
    | refine brK_dec (fun _=>?_) (fun _=>?_)
    | (have hz:¬ (i:Int)<n.Eqs.length:=(by assumption);exact loopFrX _ (by omega) _ ⟨j+1,by omega,rfl,hnext (hdone hz),rfl⟩ (.next rfl (by omega) .nil) rfl (by first|rfl|(simp only[List.append_assoc,List.cons_append,List.nil_append];rfl)))
    | ((fail_if_success (clear hq));obtain⟨q,hq⟩:∃ q,n.Eqs[i]?=some q:=⟨_,List.getElem?_eq_getElem (by omega)⟩;refine PCall.call (containsN lo i) ?_;generalize hb:decide (i∈lo)=b;cases b)
    | (have hE1:=firstE_next hG' hq hb;exact loopFrX _ (by omega) _ ⟨i+1,by omega,rfl,hE1,rfl⟩ (.next rfl (by omega) .nil) rfl (by first|rfl|(simp only[List.append_assoc,List.cons_append,List.nil_append];rfl)))
    | (have hE1:=firstE_at hG' hq hb;have hE2:=first_at hE' hj (by rw[hG,hE1];simp);rw[hE2,hG,hE1];exact⟨_,rfl,false,by rw[DFault.enc_eq];exact .refl _⟩)
  ·
   have hz:=hok lo rfl
   refine loop_frX [8,28,29,30,31,32,33,34,35,36,37,38,39,40,41,42,43,44,45] (fun m C=>m=0∧C=[(8,.raw (.int .i64 (0:Int)))]) 0 _ ⟨rfl,rfl⟩ (.cons rfl .nil) ?_
   rintro m C jb r1 ⟨rfl,rfl⟩
   simp only[go_sem]
   intro _
   have hE1:=first_next hE' hj (by rw[hz])
   repeat' first
    | simp only[go_sem]
    | refine gqK_dec (fun _=>?_) (fun _=>?_)
    | refine gK_dec (fun _=>?_) (fun _=>?_)
    | refine brK_dec (fun _=>?_) (fun _=>?_)
    | exact loopFrX _ (by omega) _ ⟨j+1,by omega,rfl,hE1,rfl⟩ (.next rfl (by omega) .nil) rfl (by first|rfl|(simp only[List.append_assoc,List.cons_append,List.nil_append];rfl))
 ·
  have h1:=first_0 hE' (by omega)
  subst h1
  simp only[go_sem]
  exact⟨_,rfl,false,by rw[DFault.enc_eq];exact .refl _⟩
theorem any_takeN {l:List Nat} {k i:Nat} {x:Nat} (hx:l[i]?=some x):decide (k∈l.take (i+1))=(decide (k∈l.take i) || decide (x=k)):=by
 obtain⟨hi,rfl⟩:=List.getElem?_eq_some_iff.1 hx
 rw[List.take_succ_eq_append_getElem hi]
 rw[Bool.eq_iff_iff]
 simp only[decide_eq_true_eq,List.mem_append,List.mem_singleton,Bool.or_eq_true]
 constructor
 ·
  rintro(h|h)
  ·
   exact .inl h
  ·
   exact .inr h.symm
 ·
  rintro(h|h)
  ·
   exact .inl h
  ·
   exact .inr h.symm
theorem causeX (p:DProg) (hp:okProg p):PCall Tryz.prog 51 [p.enc] (causeF p).enc:=by
 refine pcall_of_vc tabOK Tryz.func51 (by kernel_rfl) rfl (by first|exact pureL|exact pureI) (by first|exact pureL|exact pureI) (n:=65) rfl (rs:=[.cell 2 61]) rfl ?_
 have hp6:=hp.2.1
 unfold causeF
 simp only[go_sem]
 refine PCall.call (clockX p hp) ?_
 have hz:=clock_zero (p:=p)
 generalize clockF p=F at hz
 simp only[go_sem]
 rw[fault_z]
 simp only[go_sem]
 refine brK_dec (fun h0=>?_) (fun h0=>?_)
 ·
  have hF:¬ F.Err=0:=fun h=>h0 (hz h).1
  rw[if_neg hF]
  simp only[go_sem]
  exact⟨_,rfl,false,by rw[DFault.enc_eq];exact .refl _⟩
 rw[if_pos (by rw[Classical.not_not.1 h0])]
 generalize hE:firstF nodeCa 0 p.Nodes=E
 simp only[go_sem]
 refine loop_frX [4,5,6,7,8,9,16,17,18,19,20,21,22,23,24,25,26,27,28,29,30,31,32,33,34,35,36,37,38,39,40,41,42,43,44,45,46,47,48,49,50,51,52,53,54,55,56,57,58,59,60,61,62,63] (fun m C=>∃ i:Nat,i≤p.Nodes.length∧m=p.Nodes.length-i∧firstF nodeCa i (p.Nodes.drop i)=E∧C=[(4,.raw (.int .i64 (i:Nat)))]) p.Nodes.length _ ⟨0,by omega,by omega,hE,rfl⟩ (.cons rfl .nil) ?_
 rintro m C ja r ⟨j,hi,rfl,hE',rfl⟩
 simp only[go_sem]
 intro _
 refine brK_dec (fun hlt=>?_) (fun hge=>?_)
 ·
  obtain⟨n,hj⟩:∃ n,p.Nodes[j]?=some n:=⟨_,List.getElem?_eq_getElem (by omega)⟩
  have hnm:=List.mem_of_getElem? hj
  have hn:=hp.2.2 n hnm
  have he4:=hn.2.2.2.1
  have hO:=order40 n (okNode_C hn)
  have hok:=fun lo=>@nodeCa_ok j n lo
  have hno:=fun lo=>@nodeCa_no j n lo
  generalize orderF (namesC n) (hangsC n)=R at hO hok hno
  obtain⟨lo,ok⟩:=R
  simp only[go_sem]
  refine elemHave (x:=n) (by omega) (by simpa using hj) ?_
  simp only[go_sem]
  refine PCall.call hO ?_
  cases ok
  ·
   replace hno:=hno lo rfl
   generalize hG:nodeCa j n=G at hno
   simp only[go_sem]
   refine loop_frX [7,8,9,33,34,35,36,37,38,39,40,41,42,43,44,45,46,47,48,49,50,51,52,53,54,55,56,57,58,59,60,61,62,63] (fun m C=>∃ i:Nat,i≤n.Eqs.length∧m=n.Eqs.length-i∧firstE (j:Int) 9 (fun k _=>decide (k∈lo)) i (n.Eqs.drop i)=G∧C=[(7,.raw (.int .i64 (i:Nat)))]) n.Eqs.length _ ⟨0,by omega,by omega,hno.symm,rfl⟩ (.cons rfl .nil) ?_
   rintro m C jb r1 ⟨i,hi1,rfl,hG',rfl⟩
   simp only[go_sem]
   refine elemHave (x:=n) (by omega) (by simpa using hj) ?_
   simp only[go_sem]
   intro _
   refine brK_dec (fun hlt1=>?_) (fun hge1=>?_)
   ·
    obtain⟨q,hq⟩:∃ q,n.Eqs[i]?=some q:=⟨_,List.getElem?_eq_getElem (by omega)⟩
    simp only[go_sem]
    refine loop_frX [8,9,44,45,46,47,48,49,50,51,52,53,54,55,56,57,58] (fun m C=>∃ i3:Nat,i3≤lo.length∧m=lo.length-i3∧C=[(9,.raw (.int .i64 (i3:Nat))),(8,.b (decide (i∈lo.take i3)))]) lo.length _ ⟨0,by omega,by omega,rfl⟩ (.cons rfl (.cons rfl .nil)) ?_
    rintro m C jc r2 ⟨i3,hi3,rfl,rfl⟩
    simp only[go_sem]
    intro _
    refine brK_dec (fun hlt3=>?_) (fun hge3=>?_)
    ·
     obtain⟨x,hx⟩:∃ x,lo[i3]?=some x:=⟨_,List.getElem?_eq_getElem (by omega)⟩
     have ht:=any_takeN (k:=i) hx
     generalize hb:decide (i∈lo.take i3)=b at ht
     cases b
     ·
      have hc:decide ((x:Int)=(i:Int))=decide (i∈lo.take (i3+1)):=by rw[ht,Bool.false_or];exact decide_eq_decide.2 (by omega)
      simp only[go_sem]
      refine elemHave (x:=x) (by omega) (by simpa using hx) ?_
      simp only[go_sem]
      exact loopFrX _ (by omega) _ ⟨i3+1,by omega,rfl,rfl⟩ (.next rfl (by omega) (.cons (by first|rfl|(rw[← hc];rfl)|(simp[hc];done)|(rw[← hc];simp)) .nil)) rfl (by first|rfl|(simp only[List.append_assoc,List.cons_append,List.nil_append];rfl))
     ·
      simp only[go_sem]
      exact loopFrX _ (by omega) _ ⟨i3+1,by omega,rfl,rfl⟩ (.next rfl (by omega) (.cons (by rw[ht];rfl) .nil)) rfl (by first|rfl|(simp only[List.append_assoc,List.cons_append,List.nil_append];rfl))
    ·
     rw[List.take_of_length_le (by omega)]
     generalize hb:decide (i∈lo)=b
     cases b
     ·
      have hE1:=firstE_at hG' hq hb
      have hE2:=first_at hE' hj (by rw[hG,hE1];simp)
      rw[hE2,hG,hE1]
      simp only[go_sem]
      refine PCall.call (fault47 _ _ _) ?_
      simp only[go_sem]
      exact⟨_,rfl,false,by rw[DFault.enc_eq];exact .refl _⟩
     ·
      have hE1:=firstE_next hG' hq hb
      simp only[go_sem]
      exact loopFrX _ (by omega) _ ⟨i+1,by omega,rfl,hE1,rfl⟩ (.next rfl (by omega) .nil) rfl (by first|rfl|(simp only[List.append_assoc,List.cons_append,List.nil_append];rfl))
   ·
    have h1:=firstE_0 hG' (by omega)
    have hE1:=first_next hE' hj (by rw[hG,h1])
    simp only[go_sem]
    exact loopFrX _ (by omega) _ ⟨j+1,by omega,rfl,hE1,rfl⟩ (.next rfl (by omega) .nil) rfl (by first|rfl|(simp only[List.append_assoc,List.cons_append,List.nil_append];rfl))
  ·
   have hz:=hok lo rfl
   have hE1:=first_next hE' hj (by rw[hz])
   simp only[go_sem]
   exact loopFrX _ (by omega) _ ⟨j+1,by omega,rfl,hE1,rfl⟩ (.next rfl (by omega) .nil) rfl (by first|rfl|(simp only[List.append_assoc,List.cons_append,List.nil_append];rfl))
 ·
  have h1:=first_0 hE' (by omega)
  subst h1
  simp only[go_sem]
  exact⟨_,rfl,false,by rw[DFault.enc_eq];exact .refl _⟩
theorem startCheck (p:DProg) (hp:okProg p):PCall Tryz.prog 31 [p.enc] (startF p).enc:=by
 refine pcall_of_vc tabOK Tryz.func31 (by kernel_rfl) rfl (by first|exact pureL|exact pureI) (by first|exact pureL|exact pureI) (n:=49) rfl (rs:=[.cell 2 61]) rfl ?_
 have hp6:=hp.2.1
 unfold startF
 simp only[go_sem]
 refine PCall.call (causeCheck p hp) ?_
 generalize causeF p=F
 rw[show F.enc=.agg [.i F.Node,.i F.Eq,.i F.Err] from DFault.enc_eq _]
 simp only[go_sem]
 refine brK_dec (fun h0=>?_) (fun h0=>?_)
 ·
  rw[if_neg h0]
  simp only[go_sem]
  exact⟨_,rfl,false,by rw[DFault.enc_eq];exact .refl _⟩
 rw[if_pos (Classical.not_not.1 h0)]
 generalize hE:firstF nodeSt 0 p.Nodes=E
 simp only[go_sem]
 intro _
 refine loop_frX [4,5,6,7,8,9,19,20,21,22,23,24,25,26,27,28,29,30,31,32,33,34,35,36,37,38,39,40,41,42,43,44,45,46,47] (fun m C=>∃ i:Nat,i≤p.Nodes.length∧m=p.Nodes.length-i∧firstF nodeSt i (p.Nodes.drop i)=E∧C=[(19,.raw (.int .i64 (i:Nat)))]) p.Nodes.length _ ⟨0,by omega,by omega,hE,rfl⟩ (.cons rfl .nil) ?_
 rintro m C ja r ⟨j,hi,rfl,hE',rfl⟩
 simp only[go_sem]
 refine brK_dec (fun hlt=>?_) (fun hge=>?_)
 ·
  obtain⟨n,hj⟩:∃ n,p.Nodes[j]?=some n:=⟨_,List.getElem?_eq_getElem (by omega)⟩
  have hn:=hp.2.2 n (List.mem_of_getElem? hj)
  have he4:=hn.2.2.2.1
  have hNE:nodeSt j n=firstE (j:Int) 10 (fun _ q=>eqSt q) 0 n.Eqs:=rfl
  generalize hG:nodeSt j n=G at hNE
  simp only[go_sem]
  refine elemHave (x:=n) (by omega) (by simpa using hj) ?_
  simp only[go_sem]
  intro _
  refine loop_frX [6,7,8,9,27,28,29,30,31,32,33,34,35,36,37,38,39,40,41,42,43,44,45,46] (fun m C=>∃ i:Nat,i≤n.Eqs.length∧m=n.Eqs.length-i∧firstE (j:Int) 10 (fun _ q=>eqSt q) i (n.Eqs.drop i)=G∧C=[(27,.raw (.int .i64 (i:Nat)))]) n.Eqs.length _ ⟨0,by omega,by omega,hNE.symm,rfl⟩ (.cons rfl .nil) ?_
  rintro m C jb r1 ⟨i,hi1,rfl,hG',rfl⟩
  simp only[go_sem]
  refine brK_dec (fun hlt1=>?_) (fun hge1=>?_)
  ·
   obtain⟨q,hq⟩:∃ q,n.Eqs[i]?=some q:=⟨_,List.getElem?_eq_getElem (by omega)⟩
   have hx:=late16 q.E
   have hb:eqSt q=(!(lt q.E).1&&(lt q.E).2):=rfl
   generalize lt q.E=u at hx hb
   obtain⟨a,b⟩:=u
   simp only[go_sem]
   refine elemHave (x:=q) (by omega) (by simpa using hq) ?_
   simp only[go_sem]
   refine PCall.call hx ?_
   cases a<;>cases b <;>
    first
     | (have hE1:=firstE_next hG' hq hb
        simp only[go_sem]
        exact loopFrX _ (by omega) _ ⟨i+1,by omega,rfl,hE1,rfl⟩ (.next rfl (by omega) .nil) rfl (by first|rfl|(simp only[List.append_assoc,List.cons_append,List.nil_append];rfl)))
     | (have hE1:=firstE_at hG' hq hb
        have hE2:=first_at hE' hj (by rw[hG,hE1];simp)
        rw[hE2,hG,hE1]
        simp only[go_sem]
        exact⟨_,rfl,false,by rw[DFault.enc_eq];exact .refl _⟩)
  ·
   have h1:=firstE_0 hG' (by omega)
   have hE1:=first_next hE' hj (by rw[hG,h1])
   simp only[go_sem]
   exact loopFrX _ (by omega) _ ⟨j+1,by omega,rfl,hE1,rfl⟩ (.next rfl (by omega) .nil) rfl (by first|rfl|(simp only[List.append_assoc,List.cons_append,List.nil_append];rfl))
 ·
  have h1:=first_0 hE' (by omega)
  subst h1
  simp only[go_sem]
  exact⟨_,rfl,false,by rw[DFault.enc_eq];exact .refl _⟩
theorem startX (p:DProg) (hp:okProg p):PCall Tryz.prog 25 [p.enc] (startF p).enc:=by
 refine pcall_of_vc tabOK Tryz.func25 (by kernel_rfl) rfl (by first|exact pureL|exact pureI) (by first|exact pureL|exact pureI) (n:=55) rfl (rs:=[.cell 2 61]) rfl ?_
 have hp6:=hp.2.1
 unfold startF
 simp only[go_sem]
 refine PCall.call (causeX p hp) ?_
 have hz:=cause_zero (p:=p)
 generalize causeF p=F at hz
 simp only[go_sem]
 rw[fault_z]
 simp only[go_sem]
 refine brK_dec (fun h0=>?_) (fun h0=>?_)
 ·
  have hF:¬ F.Err=0:=fun h=>h0 (hz h).1
  rw[if_neg hF]
  simp only[go_sem]
  exact⟨_,rfl,false,by rw[DFault.enc_eq];exact .refl _⟩
 rw[if_pos (by rw[Classical.not_not.1 h0])]
 generalize hE:firstF nodeSt 0 p.Nodes=E
 simp only[go_sem]
 refine loop_frX [4,5,6,7,14,15,16,17,18,19,20,21,22,23,24,25,26,27,28,29,30,31,32,33,34,35,36,37,38,39,40,41,42,43,44,45,46,47,48,49,50,51,52,53] (fun m C=>∃ i:Nat,i≤p.Nodes.length∧m=p.Nodes.length-i∧firstF nodeSt i (p.Nodes.drop i)=E∧C=[(4,.raw (.int .i64 (i:Nat)))]) p.Nodes.length _ ⟨0,by omega,by omega,hE,rfl⟩ (.cons rfl .nil) ?_
 rintro m C ja r ⟨j,hi,rfl,hE',rfl⟩
 simp only[go_sem]
 intro _
 refine brK_dec (fun hlt=>?_) (fun hge=>?_)
 ·
  obtain⟨n,hj⟩:∃ n,p.Nodes[j]?=some n:=⟨_,List.getElem?_eq_getElem (by omega)⟩
  have hn:=hp.2.2 n (List.mem_of_getElem? hj)
  have he4:=hn.2.2.2.1
  have hNE:nodeSt j n=firstE (j:Int) 10 (fun _ q=>eqSt q) 0 n.Eqs:=rfl
  generalize hG:nodeSt j n=G at hNE
  simp only[go_sem]
  refine loop_frX [5,6,7,21,22,23,24,25,26,27,28,29,30,31,32,33,34,35,36,37,38,39,40,41,42,43,44,45,46,47,48,49,50,51,52,53] (fun m C=>∃ i:Nat,i≤n.Eqs.length∧m=n.Eqs.length-i∧firstE (j:Int) 10 (fun _ q=>eqSt q) i (n.Eqs.drop i)=G∧C=[(5,.raw (.int .i64 (i:Nat)))]) n.Eqs.length _ ⟨0,by omega,by omega,hNE.symm,rfl⟩ (.cons rfl .nil) ?_
  rintro m C jb r1 ⟨i,hi1,rfl,hG',rfl⟩
  simp only[go_sem]
  refine elemHave (x:=n) (by omega) (by simpa using hj) ?_
  simp only[go_sem]
  intro _
  refine brK_dec (fun hlt1=>?_) (fun hge1=>?_)
  ·
   obtain⟨q,hq⟩:∃ q,n.Eqs[i]?=some q:=⟨_,List.getElem?_eq_getElem (by omega)⟩
   have hx:=late17 q.E
   have hb:eqSt q=(!(lt q.E).1&&(lt q.E).2):=rfl
   generalize lt q.E=u at hx hb
   obtain⟨a,b⟩:=u
   simp only[go_sem]
   refine elemHave (x:=n) (by omega) (by simpa using hj) ?_
   simp only[go_sem]
   refine elemHave (x:=q) (by omega) (by simpa using hq) ?_
   simp only[go_sem]
   refine PCall.call hx ?_
   cases a<;>cases b <;>
    first
     | (have hE1:=firstE_next hG' hq hb
        simp only[go_sem]
        exact loopFrX _ (by omega) _ ⟨i+1,by omega,rfl,hE1,rfl⟩ (.next rfl (by omega) .nil) rfl (by first|rfl|(simp only[List.append_assoc,List.cons_append,List.nil_append];rfl)))
     | (have hE1:=firstE_at hG' hq hb
        have hE2:=first_at hE' hj (by rw[hG,hE1];simp)
        rw[hE2,hG,hE1]
        simp only[go_sem]
        refine PCall.call (fault47 _ _ _) ?_
        simp only[go_sem]
        exact⟨_,rfl,false,by rw[DFault.enc_eq];exact .refl _⟩)
  ·
   have h1:=firstE_0 hG' (by omega)
   have hE1:=first_next hE' hj (by rw[hG,h1])
   simp only[go_sem]
   exact loopFrX _ (by omega) _ ⟨j+1,by omega,rfl,hE1,rfl⟩ (.next rfl (by omega) .nil) rfl (by first|rfl|(simp only[List.append_assoc,List.cons_append,List.nil_append];rfl))
 ·
  have h1:=first_0 hE' (by omega)
  subst h1
  simp only[go_sem]
  exact⟨_,rfl,false,by rw[DFault.enc_eq];exact .refl _⟩
section
section
variable (p:DProg) (k:Int)
noncomputable def tyN (e:Ex):DTy:=(ofN p k e).1
noncomputable def cnN (e:Ex):List Int:=(constT p.Enums e).1
def vaN (s:ByteArray):Int:=(armF p.Enums s).2.1
def fiN (s:ByteArray):Int:=findF p s
def nmN (first:ByteArray) (j:Nat):ByteArray:=(first++⟨#[46]⟩)++digB (j:Int)
def rowOn (s:ByteArray):List DCond:=(rowF p k s).1
noncomputable def eqPl (st:List DVar × List DPlain) (q:DEq):DPlain × NmSt:=plainN (nmN (q.Names.headD ⟨#[]⟩)) (tyN p k) (cnN p) (vaN p) (fiN p) q.E (rowOn p k (q.Names.headD ⟨#[]⟩)) ⟨st.1,st.2,0⟩
noncomputable def eqNm (st:List DVar × List DPlain) (q:DEq):List DVar × List DPlain :=
 ((eqPl p k st q).2.vars,(eqPl p k st q).2.eqs++[{ (eqPl p k st q).1 with Names:=q.Names,On:=rowOn p k (q.Names.headD ⟨#[]⟩) }])
noncomputable def eqsNm (st:List DVar × List DPlain) (l:List DEq):List DVar × List DPlain:=l.foldl (eqNm p k) st
def varNm (d:DDecl):DVar:=⟨d.Name,d.Ty,rowOn p k d.Name⟩
noncomputable def flowNm (n:DNode):DFlow:=⟨n.Name,n.Ins.map (varNm p k),n.Outs.map (varNm p k),(eqsNm p k (n.Vars.map (varNm p k),[]) n.Eqs).1,(eqsNm p k (n.Vars.map (varNm p k),[]) n.Eqs).2⟩
end
noncomputable def nodesNm (p:DProg):Nat→List DNode→List DFlow
 | _,[]=>[]
 | i,n::l=>flowNm p (i:Int) n::nodesNm p (i+1) l
noncomputable def normF (p:DProg):DFlows × Bool:=if(startF p).Err=0 then(⟨p.Enums,nodesNm p 0 p.Nodes⟩,true) else(⟨[],[]⟩,false)
theorem eqsNm_next (p:DProg) (k:Int) {st:List DVar × List DPlain} {l:List DEq} {i:Nat} {x:DEq} (h:l[i]?=some x):eqsNm p k st (l.take (i+1))=eqNm p k (eqsNm p k st (l.take i)) x:=by
 unfold eqsNm
 rw[List.take_add_one,h,List.foldl_append]
 rfl
theorem nodesNm_len (p:DProg):∀(l:List DNode) (i:Nat),(nodesNm p i l).length=l.length
 | [],_=>rfl
 | n::l,i=>by rw[nodesNm,List.length_cons,List.length_cons,nodesNm_len p l]
theorem nodesNm_at (p:DProg):∀ {l:List DNode} {i j:Nat},(nodesNm p i l)[j]?=(l[j]?).map (flowNm p ((i+j:Nat):Int))
 | [],_,_=>rfl
 | n::l,i,0=>rfl
 | n::l,i,j+1=>by
  rw[nodesNm,List.getElem?_cons_succ,List.getElem?_cons_succ,nodesNm_at p (l:=l)]
  rw[show i+1+j=i+(j+1) by omega]
theorem nodesNm_next (p:DProg) {l:List DNode} {i:Nat} {n:DNode} (h:l[i]?=some n):(nodesNm p 0 l).take (i+1)=(nodesNm p 0 l).take i++[flowNm p (i:Int) n]:=by
 have h2:(nodesNm p 0 l)[i]?=some (flowNm p (i:Int) n):=by rw[nodesNm_at,h,Nat.zero_add];rfl
 rw[List.take_add_one,h2]
 rfl
theorem norm_ok {p:DProg} (h:(startF p).Err=0):normF p=(⟨p.Enums,nodesNm p 0 p.Nodes⟩,true):=by unfold normF;rw[if_pos h]
theorem norm_no {p:DProg} (h:¬ (startF p).Err=0):normF p=(⟨[],[]⟩,false):=by unfold normF;rw[if_neg h]
structure EqFit (p:DProg) (k:Nat) (n:DNode) (q:DEq):Prop where
 names:∃ s r,q.Names=s::r
 right:∀ y∈parts q.E,partE y=true
 fits:fitsF (rowN p.Enums n) p.Enums q.E (rowN p.Enums n (q.Names.headD ⟨#[]⟩)).1=true
 same:∀ s∈q.Names,(rowN p.Enums n s).1=(rowN p.Enums n (q.Names.headD ⟨#[]⟩)).1
theorem start_eqs {p:DProg} (h:(startF p).Err=0):checkF p=0∧∀(k:Nat) n,p.Nodes[k]?=some n→rowsOk p.Enums n=true∧(nodeFault p (k:Int) n).Err=0∧∀ q∈n.Eqs,EqFit p k n q:=by
 obtain⟨_,h1,_⟩:=start_zero h
 obtain⟨_,h2,_⟩:=cause_zero h1
 obtain⟨_,h3,hc⟩:=clock_zero h2
 obtain⟨_,hs,hk,_⟩:=types_zero h3
 obtain⟨_,_,hnf⟩:=scope_zero (p:=p) (by rw[hs])
 refine⟨hk,fun k n hn=>?_⟩
 obtain⟨_,hr,hq⟩:=nodeCk_zero (hc k n hn)
 refine⟨hr,hnf k n hn,fun q hm=>?_⟩
 obtain⟨e1,e2⟩:=eqs_right hk (List.mem_of_getElem? hn) hm
 have hck:=hq q hm
 unfold eqCk at hck
 simp only[Bool.and_eq_true,List.all_eq_true] at hck
 refine⟨?_,right_parts e2,hck.2,fun s hs=>eqB_t (hck.1 s hs)⟩
 match q.Names,e1 with
 | s::r,_=>exact⟨s,r,rfl⟩
end
section
theorem MonoH_same (a:Blk) (x y:List Blk):MonoH (a::x) (a::y)=MonoH x y:=by cases a<;>simp[MonoH]
attribute [go_sem] MonoH_same
abbrev apB (p:DProg) (k:Int) (nx c4 c5 c6 c7 c8:AV):Blk:=.cells 114 [.lst 2 (p.Enums.map DEnum.enc) none,.lst 5 (p.Nodes.map DNode.enc) none,.i k,nx,c4,c5,c6,c7,c8]
section
variable {a0 a1 a2:Blk} {r:List Blk} {p:DProg} {k:Int} {nx c4 c5 c6 c7 c8:AV} {K:AV→List Blk→Prop}
theorem value132 (arm:ByteArray) (hK:K (.i (vaN p arm)) (a0::a1::a2::apB p k nx c4 c5 c6 c7 c8::r)):ACall Tryz.prog 132 [.ptr 3 0,.s arm] (a0::a1::a2::apB p k nx c4 c5 c6 c7 c8::r) K:=by
 refine acall_of_vc tabOK Tryz.func132 (by kernel_rfl) rfl (n:=20) rfl (rs:=[.tmp 4]) rfl ?_
 simp only[go_sem]
 refine PCall.call (arm146 p.Enums arm) ?_
 unfold vaN at hK
 generalize armF p.Enums arm=q at hK
 obtain⟨t,v,ok⟩:=q
 simp only[go_sem]
 exact finH0 (h:=a0::a1::a2::apB p k nx c4 c5 c6 c7 c8::r) _ rfl (.raw _) hK
theorem row60 (s:ByteArray) (hl:∀ n∈p.Nodes,(allV n).length≤4294967296) (hK:K (.lst 2 ((rowOn p k s).map DCond.enc) none) (a0::a1::a2::apB p k nx c4 c5 c6 c7 c8::r)):ACall Tryz.prog 60 [.ptr 3 0,.s s] (a0::a1::a2::apB p k nx c4 c5 c6 c7 c8::r) K:=by
 refine acall_of_vc tabOK Tryz.func60 (by kernel_rfl) rfl (n:=21) rfl (rs:=[.tmp 4]) rfl ?_
 simp only[go_sem]
 refine drawK mo (by kernel_rfl) ?_
 simp only[go_sem]
 refine pcK_of (row45 p k s hl) ?_
 unfold rowOn at hK
 generalize rowF p k s=q at hK
 obtain⟨l,ok⟩:=q
 simp only[go_sem]
 exact finH1 rfl (DCond.pures _) hK
theorem ty97 (e:Ex) (hty:∀ n∈p.Nodes,tyOK p n) (hp:∀ y∈parts e,partE y=true) (hok:okE e) (hK:K (tyN p k e).enc (a0::a1::a2::apB p k nx c4 c5 c6 c7 c8::r)):ACall Tryz.prog 97 [.ptr 3 0,e.enc] (a0::a1::a2::apB p k nx c4 c5 c6 c7 c8::r) K:=by
 refine acall_of_vc tabOK Tryz.func97 (by kernel_rfl) rfl (n:=21) rfl (rs:=[.cell 4 42]) rfl ?_
 simp only[go_sem]
 refine drawC [r.length+5] mo (by kernel_rfl) ?_
 simp only[go_sem]
 refine pcK_of (OfPk p k e hty hp hok) ?_
 unfold tyN at hK
 generalize ofN p k e=q at hK
 obtain⟨t,ok⟩:=q
 simp only[go_sem]
 refine finH0 (h:=a0::a1::a2::apB p k nx c4 c5 c6 c7 c8::r) _ ?_ (DTy.pure t) hK
 simp only[go_sem]
end
def kindN (k:Int):Int:=if k=5 then 2 else if k=6 then 3 else if k=7 then 4 else if k=14 then 8 else if k=15 then 9 else if k=16 then 10 else 0
theorem kind91 (e:Ex):PCall Tryz.prog 91 [e.enc] (.i (kindN e.kind)):=by
 refine pcall_of_vc tabOK Tryz.func91 (by kernel_rfl) rfl pureL pureI (n:=17) rfl (rs:=[.tmp 2]) rfl ?_
 unfold kindN
 repeat' first
  | simp only[go_sem]
  | refine brK_dec (fun _=>?_) (fun _=>?_)
  | (simp only[*,if_true,if_false];exact⟨_,rfl,false,.refl _⟩)
theorem finKw {T:TypeId→TI} {s:List AV} {h:List Blk} {rs:List ResultVar} {K:AV→List Blk→Prop} {x r:AV} (hl:resAV T s h rs=some [x]) (hw:Weak x r) (hK:K r h):FinK T rs K s h:=⟨_,hl,r,hw,hK⟩
theorem delay95 {h:List Blk} {K:AV→List Blk→Prop} {k:Nat} (init:List Int) (args:List DAtom) (hK:∀ r,K ({ plain0 5 0 args with Init:=init }:DPlain).enc (h++r)):ACall Tryz.prog 95 [.ptr k 0,.lst 1 (init.map AV.i) none,.lst 2 (args.map DAtom.enc) none] h K:=by
 refine acallK_of_vc tabOK Tryz.func95 (by kernel_rfl) rfl (n:=10) rfl (rs:=[.cell 6 53]) rfl ?_
 simp only[go_sem]
 refine finKw (r:=({ plain0 5 0 args with Init:=init }:DPlain).enc) (by simp only[go_sem];rfl) ?_ (hK _)
 rw[DPlain.enc_eq]
 exact Weak.aggs ⟨.refl _,.nil _,.refl _,.refl _,.refl _,.refl _,.refl _,.refl _,.refl _,.nil _,trivial⟩
theorem names59 {h:List Blk} {K:AV→List Blk→Prop} (first:ByteArray) (hK:K (.fn (.func 88) [] [.ptr (h.length+1) 0,.ptr h.length 0]) (h++[.cells 9 [.s first],.cells 3 [.i 0]])):ACall Tryz.prog 59 [.s first] h K:=by
 refine acallK_of_vc tabOK Tryz.func59 (by kernel_rfl) rfl (n:=5) rfl (rs:=[.tmp 2]) rfl ?_
 simp only[go_sem]
 refine finK (r:=.fn (.func 88) [] [.ptr (h.length+1) 0,.ptr h.length 0]) ?_ ?_
 ·
  simp[resAV]
  rfl
 ·
  simpa using hK
end
section
abbrev HN (a0 a1 a2 y z:Blk) (B:List Blk) (p:DProg) (k:Int) (c4 c5 c6:AV) (st:NmSt) (fst:ByteArray) (r:List Blk):List Blk :=
 a0::a1::a2::apB p k (.fn (.func 88) [] [.ptr (B.length+9) 0,.ptr (B.length+8) 0]) c4 c5 c6 (.lst 5 (st.vars.map DVar.enc) (some 6)) (.lst 10 (st.eqs.map DPlain.enc) (some 7))::y::z::.tok 45 5 st.vars.length::.tok 53 10 st.eqs.length::(B++.cells 9 [.s fst]::.cells 3 [.i (st.k:Int)]::r)
theorem ACall.weakA {P:Program} {f:FuncId} {azs args:List AV} {h:List Blk} {K:AV→List Blk→Prop} (hw:WeakL azs args) (hc:ACall P f args h K):ACall P f azs h K:=by
 unfold ACall at hc ⊢
 exact fun S φ w vs hr ha=>hc S φ w vs hr (ha.weak hw)
section
variable {a0 a1 a2 y z tv:Blk} {B r:List Blk} {p:DProg} {k:Int} {nx c4 c5 c6 c7:AV} {fst:ByteArray} {K:AV→List Blk→Prop}
theorem emit61 (q:DPlain) (names:List ByteArray) (on:List DCond) (es:List DPlain) (hl:es.length≤1000000)
  (hK:∀ r',K (.tup []) (a0::a1::a2::apB p k nx c4 c5 c6 c7 (.lst 10 ((es++[{ q with Names:=names,On:=on }]).map DPlain.enc) (some 7))::y::z::tv::.tok 53 10 (es++[{ q with Names:=names,On:=on }]).length::(r++r'))) :
  ACall Tryz.prog 61 [.ptr 3 0,q.enc,.lst 1 (names.map AV.s) none,.lst 2 (on.map DCond.enc) none] (a0::a1::a2::apB p k nx c4 c5 c6 c7 (.lst 10 (es.map DPlain.enc) (some 7))::y::z::tv::.tok 53 10 es.length::r) K:=by
 refine acallK_of_vc tabOK Tryz.func61 (by kernel_rfl) rfl (n:=24) rfl (rs:=[]) rfl ?_
 simp only[go_sem]
 refine drawZ mo (by kernel_rfl) rfl ?_
 simp only[List.dropLast_cons_cons,List.dropLast_singleton,List.getLast_cons_cons,List.getLast_singleton]
 simp only[go_sem]
 refine And.intro (by first|omega|(simp<;>omega)) ?_
 refine⟨[],rfl,.tup [],.refl _,?_⟩
 simp only[List.map_append,List.map_cons,List.map_nil,DPlain.enc_eq,List.length_append,List.length_cons,List.length_nil,Nat.zero_add] at hK
 exact hK _
theorem names88 {st:NmSt} (hs:fst.size≤1000) (hk:st.k+1<100) (hK:K (.s (nmN fst (st.k+1))) (HN a0 a1 a2 y z B p k c4 c5 c6 { st with k:=st.k+1 } fst r)) :
  ACall Tryz.prog 88 [.ptr (B.length+9) 0,.ptr (B.length+8) 0] (HN a0 a1 a2 y z B p k c4 c5 c6 st fst r) K:=by
 obtain⟨j,hj⟩:∃ j,j=st.k+1:=⟨_,rfl⟩
 rw[← hj] at hk hK
 have hw:IntKind.i64.wrap ((st.k:Int)+1)=(j:Int):=by rw[wrap_in _ (by omega) (by omega)];omega
 have hd:=digN_size j (by omega)
 have he:(⟨#[46]⟩:ByteArray).size=1:=rfl
 have hz:(fst++⟨#[46]⟩).size=fst.size+1:=by rw[ByteArray.size_append,he]
 have hi:=itoaN j (by omega)
 refine acallK_of_vc tabOK Tryz.func88 (by kernel_rfl) rfl (n:=10) rfl (rs:=[.tmp 2]) rfl ?_
 simp only[go_sem,hw]
 refine drawK mo (by kernel_rfl) ?_
 repeat' first
  | simp only[go_sem,hw]
  | (refine pcK_of hi ?_)
  | refine And.intro (by first|omega|(simp<;>omega)) ?_
 exact finK (r:=.s (nmN fst j)) rfl (by simpa using hK)
theorem fresh133 {st:NmSt} (q:DPlain) (t:DTy) (on:List DCond) (hs:fst.size≤1000) (hk:st.k+1<100) (hv:st.vars.length≤1000000) (hl:st.eqs.length≤1000000)
  (hK:∀ r',K (freshN (nmN fst) q t on st).1.enc (HN a0 a1 a2 y z B p k c4 c5 c6 (freshN (nmN fst) q t on st).2 fst (r++r'))) :
  ACall Tryz.prog 133 [.ptr 3 0,q.enc,t.enc,.lst 2 (on.map DCond.enc) none] (HN a0 a1 a2 y z B p k c4 c5 c6 st fst r) K:=by
 refine acallK_of_vc tabOK Tryz.func133 (by kernel_rfl) rfl (n:=38) rfl (rs:=[.cell 8 51]) rfl ?_
 simp only[go_sem]
 refine names88 hs hk ?_
 simp only[go_sem]
 refine drawZ mo (by kernel_rfl) rfl ?_
 simp only[List.dropLast_cons_cons,List.dropLast_singleton,List.getLast_cons_cons,List.getLast_singleton]
 simp only[go_sem]
 refine And.intro (by first|omega|(simp<;>omega)) ?_
 refine ACall.weakA (args:=[.ptr 3 0,q.enc,.lst 1 ([nmN fst (st.k+1)].map AV.s) none,.lst 2 (on.map DCond.enc) none]) ⟨.refl _,.refl _,.tok _ _ _,.refl _,trivial⟩ ?_
 refine emit61 q [nmN fst (st.k+1)] on st.eqs hl (fun r'=>?_)
 simp only[go_sem]
 refine finKw (r:=(⟨nmN fst (st.k+1),0⟩:DAtom).enc) (by simp only[go_sem];rfl) (by rw[DAtom.enc_eq];exact .refl _) ?_
 simp only[HN,freshN,List.map_append,List.map_cons,List.map_nil,DVar.enc_eq,List.length_append,List.length_cons,List.length_nil,Nat.zero_add] at hK
 simp only[List.map_append,List.map_cons,List.map_nil,List.length_append,List.length_cons,List.length_nil,Nat.zero_add]
 exact hK _
end
end
section
section
variable (p:DProg) (k:Nat) (n:DNode)
noncomputable abbrev plN (fst:ByteArray) (e:Ex) (on:List DCond) (st:NmSt):DPlain × NmSt:=plainN (nmN fst) (tyN p (k:Int)) (cnN p) (vaN p) (fiN p) e on st
noncomputable abbrev atN (fst:ByteArray) (e:Ex) (on:List DCond) (st:NmSt):DAtom × NmSt:=atomN (nmN fst) (tyN p (k:Int)) (cnN p) (vaN p) (fiN p) e on st
noncomputable abbrev eaN (fst:ByteArray) (l:List Ex) (on:List DCond) (st:NmSt):List DAtom × NmSt:=eachN (nmN fst) (tyN p (k:Int)) (cnN p) (vaN p) (fiN p) l on st
def bnd (on:List DCond) (st:NmSt) (m fr:Nat):Prop:=on.length+m≤1000∧st.k+fr≤98∧st.vars.length+fr≤100000∧st.eqs.length+fr≤100000
def PlainK (e:Ex):Prop:=∀(a0 a1 a2 y z:Blk) (B r:List Blk) (c4 c5 c6:AV) (fst:ByteArray) (on:List DCond) (st:NmSt) (K:AV→List Blk→Prop),fst.size≤1000→fitsF (rowN p.Enums n) p.Enums e on=true→bnd on st (parts e).length (frN e) →
 (∀ r',K (plN p k fst e on st).1.enc (HN a0 a1 a2 y z B p (k:Int) c4 c5 c6 (plN p k fst e on st).2 fst (r++r')))→ACall Tryz.prog 62 [.ptr 3 0,e.enc,.lst 2 (on.map DCond.enc) none] (HN a0 a1 a2 y z B p (k:Int) c4 c5 c6 st fst r) K
def AtomK (e:Ex):Prop:=∀(a0 a1 a2 y z:Blk) (B r:List Blk) (c4 c5 c6:AV) (fst:ByteArray) (on:List DCond) (st:NmSt) (K:AV→List Blk→Prop),fst.size≤1000→fitsF (rowN p.Enums n) p.Enums e on=true→bnd on st (parts e).length (gN e) →
 (∀ r',K (atN p k fst e on st).1.enc (HN a0 a1 a2 y z B p (k:Int) c4 c5 c6 (atN p k fst e on st).2 fst (r++r')))→ACall Tryz.prog 93 [.ptr 3 0,e.enc,.lst 2 (on.map DCond.enc) none] (HN a0 a1 a2 y z B p (k:Int) c4 c5 c6 st fst r) K
def EachK (l:List Ex):Prop:=∀(a0 a1 a2 y z:Blk) (B r:List Blk) (c4 c5 c6:AV) (fst:ByteArray) (on:List DCond) (st:NmSt) (K:AV→List Blk→Prop),fst.size≤1000→fitsL (rowN p.Enums n) p.Enums l on=true→bnd on st (partsL l).length (frL l) →
 (∀ r',K (.lst 2 ((eaN p k fst l on st).1.map DAtom.enc) none) (HN a0 a1 a2 y z B p (k:Int) c4 c5 c6 (eaN p k fst l on st).2 fst (r++r')))→ACall Tryz.prog 92 [.lst 6 (l.map Ex.enc) none,.lst 2 (on.map DCond.enc) none,.fn (.func 93) [.ptr 3 0] []] (HN a0 a1 a2 y z B p (k:Int) c4 c5 c6 st fst r) K
end
section
variable {p:DProg} {k:Nat} {n:DNode}
theorem finKe {T:TypeId→TI} {s:List AV} {h:List Blk} {rs:List ResultVar} {K:AV→List Blk→Prop} {x:AV} (r:AV) (hl:resAV T s h rs=some [x]) (e:x=r) (hK:K r h):FinK T rs K s h:=by
 subst e
 exact finK hl hK
theorem atom_leaf {e:Ex} (hl:leafK e.kind=true):AtomK p k n e:=by
 intro a0 a1 a2 y z B r c4 c5 c6 fst on st K hs hf hb hK
 have hk:e.kind=1∨e.kind=2∨e.kind=3∨e.kind=4:=by unfold leafK at hl;exact of_decide_eq_true hl
 have hat:atN p k fst e on st=(leafA (vaN p) e,st):=by unfold atN atomN;rw[if_pos hl]
 rw[hat] at hK
 unfold leafA at hK
 refine acallK_of_vc tabOK Tryz.func93 (by kernel_rfl) rfl (n:=39) rfl (rs:=[.cell 6 51]) rfl ?_
 by_cases h3:e.kind=3
 ·
  rw[if_pos h3] at hK
  repeat' first
   | simp only[go_sem]
   | refine brK_dec (fun _=>?_) (fun _=>?_)
   | (exfalso;omega)
   | exact finKe (⟨e.name,0⟩:DAtom).enc (by simp only[go_sem];rfl) (by rw[DAtom.enc_eq]) (by simpa using hK _)
 ·
  rw[if_neg h3] at hK
  by_cases h4:e.kind=4
  ·
   rw[if_pos h4] at hK
   repeat' first
    | simp only[go_sem]
    | refine brK_dec (fun _=>?_) (fun _=>?_)
    | (exfalso;omega)
    | refine value132 _ ?_
    | exact finKe (⟨⟨#[]⟩,vaN p e.name⟩:DAtom).enc (by simp only[go_sem];rfl) (by rw[DAtom.enc_eq]) (by simpa using hK _)
  ·
   rw[if_neg h4] at hK
   repeat' first
    | simp only[go_sem]
    | refine brK_dec (fun _=>?_) (fun _=>?_)
    | (exfalso;omega)
    | exact finKe (⟨⟨#[]⟩,e.n⟩:DAtom).enc (by simp only[go_sem];rfl) (by rw[DAtom.enc_eq]) (by simpa using hK _)
theorem atom_of (hty:∀ n∈p.Nodes,tyOK p n) {e:Ex} (hp:∀ y∈parts e,partE y=true) (hok:okE e) (h:PlainK p k n e):AtomK p k n e:=by
 by_cases hl:leafK e.kind=true
 ·
  exact atom_leaf hl
 intro a0 a1 a2 y z B r c4 c5 c6 fst on st K hs hf hb hK
 have hk:¬ e.kind=1∧¬ e.kind=2∧¬ e.kind=3∧¬ e.kind=4:=by
  unfold leafK at hl
  simp only[decide_eq_true_eq,not_or] at hl
  exact hl
 have hat:atN p k fst e on st=freshN (nmN fst) (plN p k fst e on st).1 (tyN p (k:Int) e) on (plN p k fst e on st).2:=by unfold atN atomN;rw[if_neg hl]
 rw[hat] at hK
 have hg:gN e=frN e+1:=by unfold gN;rw[if_neg hl]
 rw[hg] at hb
 obtain⟨b1,b2,b3,b4⟩:=hb
 have g:grewN st (plN p k fst e on st).2 (frN e):=plain_grew (nmN fst) (tyN p (k:Int)) (cnN p) (vaN p) (fiN p) e hp on st
 have h1:=fun(r:List Blk) (K:AV→List Blk→Prop)=>h a0 a1 a2 y z B r c4 c5 c6 fst on st K hs hf ⟨b1,by omega,by omega,by omega⟩
 generalize plN p k fst e on st=R at h1 hK g
 obtain⟨q,st1⟩:=R
 obtain⟨g1,g2,g3⟩:=g
 dsimp only at h1 hK g1 g2 g3
 refine acallK_of_vc tabOK Tryz.func93 (by kernel_rfl) rfl (n:=39) rfl (rs:=[.cell 6 51]) rfl ?_
 repeat' first
  | simp only[go_sem]
  | refine brK_dec (fun _=>?_) (fun _=>?_)
  | (exfalso;omega)
 refine h1 _ _ fun r1=>?_
 simp only[go_sem]
 refine drawM [3,B.length+9,B.length+(r.length+3)+8] (.pur 0 (.pur 1 (.pur 2 (.pur 3 (.pur 5 (.eff 4 (.eff 6 (.eff 7 .nil)))))))) mo (by kernel_rfl) ?_
 simp only[go_sem]
 refine ty97 e hty hp hok ?_
 simp only[go_sem]
 refine fresh133 q (tyN p (k:Int) e) on hs (by omega) (by omega) (by omega) fun r2=>?_
 simp only[go_sem]
 refine finKw (r:=(freshN (nmN fst) q (tyN p (k:Int) e) on st1).1.enc) (by simp only[go_sem];rfl) (by rw[DAtom.enc_eq];exact .refl _) ?_
 exact hK _
end
end
end Go.Proofs.YtpamokpmlplopaaGreatDoor
