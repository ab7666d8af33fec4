/-
  CkC, TyKX, TyKX2, CkX: put together.
-/
import Derived.Test.YtpamokpmlplopaaGreatDoorUniAz
namespace Go.Proofs.YtpamokpmlplopaaGreatDoor
open Go.Abs
set_option maxRecDepth 20000
set_option linter.unusedSimpArgs false
set_option linter.unusedVariables false
set_option maxHeartbeats 1000000
attribute [local irreducible] vc vcOps vcStep vcGuard prK hrK gK gsK brK callK ElemK SeqK BlockK ScopeK OpsK CallK LoopK LoopGo finPost ACall PCall PCallE BCall vqOps vqStep vqGuard qrK heK pcK gqK gqsK QOpsK qcallK DrawK
theorem nodeCk_row {p:DProg} {a:Nat} {n:DNode} {d:DDecl} (h:d∈allV n) (hc:(rowN p.Enums n d.Name).2=false):nodeCk p a n=⟨(a:Int),-1,8⟩:=by
 unfold nodeCk rowsOk
 rw[List.all_eq_false.2 ⟨d,h,by rw[hc];simp⟩,if_neg (by simp)]
theorem rowsOk_of {L:List DEnum} {n:DNode} (h:∀ d∈allV n,(rowN L n d.Name).2=true):rowsOk L n=true:=List.all_eq_true.2 h
theorem nodeCk_eqs {p:DProg} {a:Nat} {n:DNode} (h:rowsOk p.Enums n=true):nodeCk p a n=firstE (a:Int) 8 (fun _ q=>eqCk p.Enums n q) 0 n.Eqs:=by
 unfold nodeCk
 rw[if_pos h]
theorem checkCk (p:DProg) (k:Nat) (n:DNode) (hk:p.Nodes[k]?=some n) (hn:okNode n) (hl:(allV n).length≤60) (hq1:∀ q∈n.Eqs,0<q.Names.length∧∀ s∈q.Names,isF n s=true):PCall Tryz.prog 121 [placeE p k] (nodeCk p k n).enc:=by
 refine pcall_of_vc tabOK Tryz.func121 (by kernel_rfl) rfl (pure_cons (pure_place p k) pure_nil) (DFault.pure _) (n:=62) rfl (rs:=[.cell 2 61]) rfl ?_
 have hA:[n.Ins,n.Outs,n.Vars].flatten=allV n:=by simp[allV]
 have he4:=hn.2.2.2.1
 simp only[go_sem]
 refine elemHave (x:=n) (by omega) (by simpa using hk) ?_
 simp only[go_sem]
 refine PCall.callW (concatD [n.Ins,n.Outs,n.Vars] (by show([n.Ins,n.Outs,n.Vars].flatten).length≤_;rw[hA];omega)) ⟨.tok _ _ _,trivial⟩ ?_
 rw[hA]
 simp only[go_sem]
 intro _
 refine loop_frX [6,7,8,30,31,32,33,34,35,36,37,38,39,40,41,42,43,44] (fun m C=>∃ i:Nat,i≤(allV n).length∧m=(allV n).length-i∧(∀ d∈(allV n).take i,(rowN p.Enums n d.Name).2=true)∧C=[(30,.raw (.int .i64 (i:Nat)))]) (allV n).length _ ⟨0,by omega,by omega,by simp,rfl⟩ (.cons rfl .nil) ?_
 rintro m C ja r ⟨i,hi,rfl,hp0,rfl⟩
 simp only[go_sem]
 refine brK_dec (fun hlt=>?_) (fun hge=>?_)
 ·
  obtain⟨d,hd⟩:∃ d,(allV n)[i]?=some d:=⟨_,List.getElem?_eq_getElem (by omega)⟩
  have hR:=row90 p k n hk d.Name (by omega)
  have hst:=take_all hp0 hd
  have hno:=nodeCk_row (p:=p) (a:=k) (n:=n) (List.mem_of_getElem? hd)
  generalize hq:rowN p.Enums n d.Name=R at hR hst hno
  obtain⟨row,ok⟩:=R
  simp only[go_sem]
  refine elemHave (x:=d) (by omega) (by simpa using hd) ?_
  simp only[go_sem]
  refine PCall.call hR ?_
  cases ok
  ·
   rw[hno rfl]
   simp only[go_sem]
   exact⟨_,rfl,false,by rw[DFault.enc_eq];exact .refl _⟩
  ·
   simp only[go_sem]
   exact loopFrX _ (by omega) _ ⟨i+1,by omega,rfl,hst rfl,rfl⟩ (.next rfl (by omega) .nil) rfl (by first|rfl|(simp only[List.append_assoc,List.cons_append,List.nil_append];rfl))
 ·
  have hrk:=rowsOk_of (take_full hp0 (by omega))
  rw[nodeCk_eqs hrk]
  generalize hE:firstE (k:Int) 8 (fun _ q=>eqCk p.Enums n q) 0 n.Eqs=E
  simp only[go_sem]
  intro _
  refine loop_frX [9,10,48,49,50,51,52,53,54,55,56,57,58,59,60] (fun m C=>∃ i:Nat,i≤n.Eqs.length∧m=n.Eqs.length-i∧firstE (k:Int) 8 (fun _ q=>eqCk p.Enums n q) i (n.Eqs.drop i)=E∧C=[(48,.raw (.int .i64 (i:Nat)))]) n.Eqs.length _ ⟨0,by omega,by omega,hE,rfl⟩ (.cons rfl .nil) ?_
  rintro m C jb r2 ⟨i2,hi2,rfl,hE',rfl⟩
  simp only[go_sem]
  refine brK_dec (fun hlt=>?_) (fun hge2=>?_)
  ·
   obtain⟨q,hq⟩:∃ q,n.Eqs[i2]?=some q:=⟨_,List.getElem?_eq_getElem (by omega)⟩
   have hqm:=List.mem_of_getElem? hq
   have hqo:=hn.2.2.2.2.2 q hqm
   have hx:=eqCkP p k n hk (by omega) q (hq1 q hqm).1 (fun s hs=>row_is hrk ((hq1 q hqm).2 s hs)) hqo.2.1.1
   generalize hb:eqCk p.Enums n q=b at hx
   simp only[go_sem]
   refine elemHave (x:=q) (by omega) (by simpa using hq) ?_
   simp only[go_sem]
   refine PCall.call hx ?_
   cases b
   ·
    have hE1:=firstE_at hE' hq hb
    rw[hE1]
    simp only[go_sem]
    exact⟨_,rfl,false,by rw[DFault.enc_eq];exact .refl _⟩
   ·
    have hE1:=firstE_next hE' hq hb
    simp only[go_sem]
    exact loopFrX _ (by omega) _ ⟨i2+1,by omega,rfl,hE1,rfl⟩ (.next rfl (by omega) .nil) rfl (by first|rfl|(simp only[List.append_assoc,List.cons_append,List.nil_append];rfl))
  ·
   have h0:=firstE_0 hE' (by omega)
   subst h0
   simp only[go_sem]
   exact⟨_,rfl,false,by rw[DFault.enc_eq];exact .refl _⟩
theorem names_good {p:DProg} (hF:(typesF p).Err=0) {k:Nat} {n:DNode} (hk:p.Nodes[k]?=some n):∀ q∈n.Eqs,0<q.Names.length∧∀ s∈q.Names,isF n s=true:=by
 obtain⟨_,hs,hc,_⟩:=types_zero hF
 have h0:=(scope_zero (p:=p) (by rw[hs])).2.2 k n hk
 exact fun q hq=>⟨(eqs_right hc (List.mem_of_getElem? hk) hq).1,(node_is h0 q hq).1⟩
theorem clockCheck (p:DProg) (hp:okProg p):PCall Tryz.prog 84 [p.enc] (clockF p).enc:=by
 refine pcall_of_vc tabOK Tryz.func84 (by kernel_rfl) rfl (by first|exact pureL|exact pureI) (by first|exact pureL|exact pureI) (n:=28) rfl (rs:=[.cell 2 61]) rfl ?_
 have hp6:=hp.2.1
 unfold clockF
 simp only[go_sem]
 refine PCall.call (typesCheck p hp) ?_
 have hz:=types_zero (p:=p)
 have hg:=fun h=>@names_good p h
 generalize typesF p=F at hz hg
 rw[show F.enc=.agg [.i F.Node,.i F.Eq,.i F.Err] from DFault.enc_eq _]
 simp only[go_sem]
 refine brK_dec (fun h0=>?_) (fun h0=>?_)
 ·
  rw[if_neg h0]
  simp only[go_sem]
  exact⟨_,rfl,false,by rw[DFault.enc_eq];exact .refl _⟩
 have h0:F.Err=0:=Classical.not_not.1 h0
 rw[if_pos h0]
 obtain⟨_,_,hc0,_⟩:=hz h0
 generalize hE:firstF (nodeCk p) 0 p.Nodes=E
 simp only[go_sem]
 intro _
 refine loop_frX [4,5,15,16,17,18,19,20,21,22,23,24,25,26] (fun m C=>∃ i:Nat,i≤p.Nodes.length∧m=p.Nodes.length-i∧firstF (nodeCk p) i (p.Nodes.drop i)=E∧C=[(15,.raw (.int .i64 (i:Nat)))]) p.Nodes.length _ ⟨0,by omega,by omega,hE,rfl⟩ (.cons rfl .nil) ?_
 rintro m C ja r ⟨i,hi,rfl,hE',rfl⟩
 simp only[go_sem]
 refine brK_dec (fun hlt=>?_) (fun hge=>?_)
 ·
  obtain⟨n,hj⟩:∃ n,p.Nodes[i]?=some n:=⟨_,List.getElem?_eq_getElem (by omega)⟩
  have hnm:=List.mem_of_getElem? hj
  simp only[go_sem]
  refine PCall.call (checkCk p i n hj (hp.2.2 n hnm) (tyOK_of hp hc0 n hnm).1 (hg h0 hj)) ?_
  by_cases hF:(nodeCk p i n).Err=0
  ·
   have hE1:=first_next hE' hj hF
   rw[(nodeCk_zero hF).1,DFault.enc_eq]
   simp only[go_sem]
   exact loopFrX _ (by omega) _ ⟨i+1,by omega,rfl,hE1,rfl⟩ (.next rfl (by omega) .nil) rfl (by first|rfl|(simp only[List.append_assoc,List.cons_append,List.nil_append];rfl))
  ·
   have hE1:=first_at hE' hj hF
   rw[hE1]
   generalize nodeCk p i n=G at hF
   rw[DFault.enc_eq]
   simp only[go_sem]
   refine brK_dec (fun _=>?_) (fun hq=>absurd hF hq)
   simp only[go_sem]
   exact⟨_,rfl,false,by rw[DFault.enc_eq];exact .refl _⟩
 ·
  have h1:=first_0 hE' (by omega)
  subst h1
  simp only[go_sem]
  exact⟨_,rfl,false,by rw[DFault.enc_eq];exact .refl _⟩
theorem told_of {p:DProg} {n:DNode} {e:Ex} (h:¬ e.kind=13):toldP p n e=match ofT p n e with|some t=>([t],true)|none=>([(headP p n e (ofL p n e.subs)).1],false):=by
 unfold toldP
 rw[if_neg h,ofT_eq]
 generalize headP p n e (ofL p n e.subs)=q
 obtain⟨t,ok⟩:=q
 cases ok<;>rfl
theorem eqTy_no {p:DProg} {n:DNode} {q:DEq} (h:(toldP p n q.E).2=false):eqTy p n q=false:=by unfold eqTy;rw[h];rfl
theorem eqTy_yes {p:DProg} {n:DNode} {q:DEq} {ts:List DTy} (h:toldP p n q.E=(ts,true)):eqTy p n q=eqB (q.Names.map fun s=>(decl n s).1.Ty) ts:=by unfold eqTy;rw[h];rfl
theorem told_n {p:DProg} {n:DNode} {e:Ex} (h:e.kind=13) (hS:allS (ofL p n e.subs)=none):(toldP p n e).2=false:=by
 unfold toldP
 rw[if_pos h,hS]
theorem told_s {p:DProg} {n:DNode} {e:Ex} {ts:List DTy} (h:e.kind=13) (hS:allS (ofL p n e.subs)=some ts):toldP p n e=((callT p e ts).1.Outs.map DDecl.Ty,(callT p e ts).2):=by
 unfold toldP
 rw[if_pos h,hS]
abbrev eqBT (q:DEq):Blk:=.cells 74 [.lst 1 (q.Names.map AV.s) none,.i q.E.kind,.i q.E.n,.s q.E.name,.i q.E.op,.lst 1 (q.E.arms.map AV.s) none,.lst 6 (q.E.subs.map Ex.enc) none]
theorem eqTX (p:DProg) (hN:∀ m∈p.Nodes,m.Outs.length≤1000) (j:Nat) (n:DNode) (hj:p.Nodes[j]?=some n) (ho:tyOK p n) (q:DEq) (hp:∀ y∈parts q.E,partE y=true) (hok:okE q.E) (hb:q.Names.length≤1000):PCall Tryz.prog 151 [p.enc,.i (j:Int),q.enc] (.b (eqTy p n q)):=by
 have hsl:=subs_le hok
 obtain⟨hk,hlo,hhi,ha11,ha12,hn13⟩:=part_facts (hp q.E (self_parts q.E))
 refine pcall_of_vc tabOK Tryz.func151 (by kernel_rfl) rfl (pure_cons (DProg.pure _) (pure_cons (.raw _) (pure_cons (DEq.pure _) pure_nil))) (.raw _) (n:=114) rfl (rs:=[.tmp 6]) rfl ?_
 by_cases h13:q.E.kind=13
 ·
  have hsub:=subsX p j n q.E hsl (fun x hx=>OfXj p j n hj ho x (sub_ok hp hx) (sub_okE hok hx))
  have hlen:∀ ts,allS (ofL p n q.E.subs)=some ts→ts.length=q.E.subs.length:=fun ts h=>by rw[allS_len h,ofL_map,List.length_map]
  have hTn:=told_n (p:=p) (n:=n) h13
  have hTs:=fun ts=>told_s (p:=p) (n:=n) (ts:=ts) h13
  generalize allS (ofL p n q.E.subs)=S at hsub hlen hTn hTs
  cases S with
  | none =>
   have hsub:PCall Tryz.prog 145 [p.enc,.i (j:Int),q.E.enc] (.tup [.lst 3 [] none,.b false]):=hsub
   rw[eqTy_no (hTn rfl)]
   simp only[go_sem]
   refine brK_dec (fun _=>?_) (fun hz=>absurd h13 hz)
   simp only[go_sem]
   refine PCall.call hsub ?_
   simp only[go_sem]
   exact finBq rfl rfl
  | some ts =>
   have hl:=hlen ts rfl
   have hsub:PCall Tryz.prog 145 [p.enc,.i (j:Int),q.E.enc] (.tup [.lst 3 (ts.map DTy.enc) none,.b true]):=hsub
   have h1:(subsE q.E).1=q.E.n:=by simp[subsE,h13]
   have hc:=callX p q.E ts (hn13 h13) (by omega) (by omega)
   cases hcb:(callT p q.E ts).2 with
   | false =>
    rw[callXT_no hcb] at hc
    rw[eqTy_no (by rw[hTs ts rfl];exact hcb)]
    simp only[go_sem]
    refine brK_dec (fun _=>?_) (fun hz=>absurd h13 hz)
    simp only[go_sem]
    refine PCall.call hsub ?_
    simp only[go_sem]
    refine PCall.call hc ?_
    simp only[go_sem]
    exact finBq rfl rfl
   | true =>
    rw[callXT_yes hcb] at hc
    have hfi:¬ findF p q.E.name<0:=fun h=>by unfold callT at hcb;rw[if_pos h] at hcb;cases hcb
    obtain⟨m,hm⟩:=find_at hfi
    have hcm:(callT p q.E ts).1=m:=by
     unfold callT at hcb ⊢
     rw[if_neg hfi] at hcb ⊢
     split at hcb
     ·
      cases hcb
     ·
      rename_i h2
      rw[if_neg h2,hm]
      rfl
    have hmo:=hN m (List.mem_of_getElem? hm)
    rw[eqTy_yes (ts:=m.Outs.map DDecl.Ty) (by rw[hTs ts rfl,hcm,hcb])]
    clear hTn hTs
    generalize findF p q.E.name=f at hc hm hfi
    obtain⟨fn,rfl⟩:∃ fn:Nat,f=fn:=⟨f.toNat,by omega⟩
    simp only[go_sem]
    refine brK_dec (fun _=>?_) (fun hz=>absurd h13 hz)
    simp only[go_sem]
    refine PCall.call hsub ?_
    simp only[go_sem]
    refine PCall.call hc ?_
    simp only[go_sem]
    generalize hwant:m.Outs.map DDecl.Ty=want
    refine loop_fr [7,12,43,44,45,46,47,48,49,50,51,52,53,54,55,56,57,58,59,60,61,62,63,64,65,66] (fun m_ C hh=>∃(i:Nat) (r:List Blk),i≤m.Outs.length∧m_=m.Outs.length-i∧C=[(12,.raw (.int .i64 (i:Nat))),(7,.lst 3 (((m.Outs.take i).map DDecl.Ty).map DTy.enc) (some 2))] ∧
     hh=progBd p::eqBT q::.tok 42 3 i::r) m.Outs.length _ ⟨0,[],by omega,by omega,rfl,rfl⟩ (.cons rfl (.cons rfl .nil)) ?_
    rintro m_ C ja hh ⟨i,r,hi,rfl,rfl,rfl⟩
    simp only[go_sem]
    refine elemHave (x:=m) (by omega) hm ?_
    simp only[go_sem]
    intro _
    refine brK_dec (fun hlt=>?_) (fun hge=>?_)
    ·
     obtain⟨d,hd⟩:∃ d,m.Outs[i]?=some d:=⟨_,List.getElem?_eq_getElem (by omega)⟩
     simp only[go_sem]
     refine elemHave (x:=m) (by omega) hm ?_
     simp only[go_sem]
     refine elemHave (x:=d) (by omega) (by simpa using hd) ?_
     simp only[go_sem]
     have hti:(m.Outs.take i).length=i:=by rw[List.length_take];omega
     refine⟨by omega,?_⟩
     exact loopFr _ (by omega) ⟨i+1,_,by omega,rfl,rfl,by rw[hti]⟩ (.next rfl (by omega) (.cons (by rw[take_mapS (f:=DDecl.Ty) (by simpa using hd)];simp[DTy.enc_eq]) .nil)) rfl
    ·
     rw[List.take_of_length_le (by omega),hwant]
     clear hge
     have hwl:want.length≤1000:=by first|(rw[← hwant];simpa using hmo)|(rw[← hwant];simp)
     simp only[go_sem]
     intro _ _
     refine brK_dec (fun hne=>?_) (fun heq=>?_)
     ·
      rw[mt_len (f:=fun s=>(decl n s).1.Ty) (l:=q.Names) (m:=want) (by omega)]
      simp only[go_sem]
      exact finBq rfl rfl
     have hlm:(q.Names.length:Int)=want.length:=by omega
     simp only[go_sem]
     refine loop_frX [6,15,16,17,87,88,89,90,91,92,93,94,95,96,97,98,99,100,101,102,103,104,105,106,107,108,109,110,111,112,113] (fun m_ C=>∃ i:Nat,i≤want.length∧m_=want.length-i∧(q.Names.take i).map (fun s=>(decl n s).1.Ty)=want.take i∧C=[(15,.raw (.int .i64 (i:Nat)))]) want.length _ ⟨0,by omega,by omega,rfl,rfl⟩ (.cons rfl .nil) ?_
     rintro m_ C jb r2 ⟨i,hi,rfl,hp0,rfl⟩
     simp only[go_sem]
     intro _
     refine brK_dec (fun hlt=>?_) (fun hge=>?_)
     ·
      obtain⟨x,hx⟩:∃ x,q.Names[i]?=some x:=⟨_,List.getElem?_eq_getElem (by omega)⟩
      obtain⟨y,hy⟩:∃ y,want[i]?=some y:=⟨_,List.getElem?_eq_getElem (by omega)⟩
      have hd:=decl26 n x (by have:=ho.1;omega)
      have hst:=fun e=>mt_step (f:=fun s=>(decl n s).1.Ty) hp0 hx hy e
      have hno:=fun e=>mt_no (f:=fun s=>(decl n s).1.Ty) hx hy e
      try dsimp only at hst hno
      generalize decl n x=dq at hd hst hno
      obtain⟨d,dok⟩:=dq
      try dsimp only at hst hno
      repeat' first
       | simp only[go_sem]
       | refine drawK mo (by kernel_rfl) ?_
       | refine elemHave (x:=n) (by omega) hj ?_
       | refine elemHave (x:=x) (by omega) (by simpa using hx) ?_
       | refine elemHave (x:=y) (by omega) (by simpa using hy) ?_
       | (refine pcK_of hd ?_)
      refine brK_dec (fun he=>?_) (fun he=>?_)
      ·
       rw[hno he]
       simp only[go_sem]
       exact finBq rfl rfl
      ·
       simp only[go_sem]
       exact loopFrX _ (by omega) _ ⟨i+1,by omega,rfl,hst (Classical.not_not.1 he),rfl⟩ (.next rfl (by omega) .nil) rfl (by first|rfl|(simp only[List.append_assoc,List.cons_append,List.nil_append];rfl))
     ·
      rw[mt_yes hp0 hlm (by omega)]
      simp only[go_sem]
      exact finBq rfl rfl
 ·
  have hX:=OfXj p j n hj ho q.E hp hok
  unfold OfXC at hX
  have hT:=told_of (p:=p) (n:=n) h13
  generalize ofT p n q.E=o at hX hT
  cases o with
  | none =>
   have hX:PCall Tryz.prog 66 [p.enc,.i (j:Int),q.E.enc] (tyA (ty0,false)):=hX
   rw[eqTy_no (by rw[hT])]
   simp only[go_sem]
   refine brK_dec (fun hz=>absurd hz h13) (fun _=>?_)
   simp only[go_sem]
   refine PCall.call hX ?_
   simp only[go_sem]
   exact finBq rfl rfl
  | some t =>
   have hX:PCall Tryz.prog 66 [p.enc,.i (j:Int),q.E.enc] (tyA (t,true)):=hX
   rw[eqTy_yes hT]
   clear hT
   generalize hwant:[t]=want
   simp only[go_sem]
   refine brK_dec (fun hz=>absurd hz h13) (fun _=>?_)
   simp only[go_sem]
   refine PCall.call hX ?_
   simp only[go_sem]
   rw[show([t.enc]:List AV)=want.map DTy.enc by rw[← hwant];rfl]
   rw[show((1:Nat):Int)=(want.length:Int) by rw[← hwant];rfl]
   have hwl:want.length≤1000:=by rw[← hwant];simp
   intro _ _
   refine brK_dec (fun hne=>?_) (fun heq=>?_)
   ·
    rw[mt_len (f:=fun s=>(decl n s).1.Ty) (l:=q.Names) (m:=want) (by omega)]
    simp only[go_sem]
    exact finBq rfl rfl
   have hlm:(q.Names.length:Int)=want.length:=by omega
   simp only[go_sem]
   refine loop_frX [6,15,16,17,87,88,89,90,91,92,93,94,95,96,97,98,99,100,101,102,103,104,105,106,107,108,109,110,111,112,113] (fun m_ C=>∃ i:Nat,i≤want.length∧m_=want.length-i∧(q.Names.take i).map (fun s=>(decl n s).1.Ty)=want.take i∧C=[(15,.raw (.int .i64 (i:Nat)))]) want.length _ ⟨0,by omega,by omega,rfl,rfl⟩ (.cons rfl .nil) ?_
   rintro m_ C jb r2 ⟨i,hi,rfl,hp0,rfl⟩
   simp only[go_sem]
   intro _
   refine brK_dec (fun hlt=>?_) (fun hge=>?_)
   ·
    obtain⟨x,hx⟩:∃ x,q.Names[i]?=some x:=⟨_,List.getElem?_eq_getElem (by omega)⟩
    obtain⟨y,hy⟩:∃ y,want[i]?=some y:=⟨_,List.getElem?_eq_getElem (by omega)⟩
    have hd:=decl26 n x (by have:=ho.1;omega)
    have hst:=fun e=>mt_step (f:=fun s=>(decl n s).1.Ty) hp0 hx hy e
    have hno:=fun e=>mt_no (f:=fun s=>(decl n s).1.Ty) hx hy e
    try dsimp only at hst hno
    generalize decl n x=dq at hd hst hno
    obtain⟨d,dok⟩:=dq
    try dsimp only at hst hno
    repeat' first
     | simp only[go_sem]
     | refine drawK mo (by kernel_rfl) ?_
     | refine elemHave (x:=n) (by omega) hj ?_
     | refine elemHave (x:=x) (by omega) (by simpa using hx) ?_
     | refine elemHave (x:=y) (by omega) (by simpa using hy) ?_
     | (refine pcK_of hd ?_)
    refine brK_dec (fun he=>?_) (fun he=>?_)
    ·
     rw[hno he]
     simp only[go_sem]
     exact finBq rfl rfl
    ·
     simp only[go_sem]
     exact loopFrX _ (by omega) _ ⟨i+1,by omega,rfl,hst (Classical.not_not.1 he),rfl⟩ (.next rfl (by omega) .nil) rfl (by first|rfl|(simp only[List.append_assoc,List.cons_append,List.nil_append];rfl))
   ·
    rw[mt_yes hp0 hlm (by omega)]
    simp only[go_sem]
    exact finBq rfl rfl
theorem clkTy_ne {p:DProg} {n:DNode} {d:DDecl} (h:clockedF p.Enums n d=true) (ho:¬ d.On=⟨#[]⟩) (hn:¬ (decl n d.On).1.Ty=(armF p.Enums d.Ctor).1):clkTy p n d=false:=by rw[clkTy_eq h ho,decide_eq_false hn]
theorem clkTy_y {p:DProg} {n:DNode} {d:DDecl} (h:clockedF p.Enums n d=true) (ho:¬ d.On=⟨#[]⟩) (hn:(decl n d.On).1.Ty=(armF p.Enums d.Ctor).1):clkTy p n d=true:=by rw[clkTy_eq h ho,decide_eq_true hn]
theorem fault_z:(AV.agg [.raw (.int .i64 0),.raw (.int .i64 0),.raw (.int .i64 0)])=(⟨0,0,0⟩:DFault).enc:=by rw[DFault.enc_eq]
theorem typesX (p:DProg) (hp:okProg p):PCall Tryz.prog 116 [p.enc] (typesF p).enc:=by
 refine pcall_of_vc tabOK Tryz.func116 (by kernel_rfl) rfl (by first|exact pureL|exact pureI) (by first|exact pureL|exact pureI) (n:=104) rfl (rs:=[.cell 2 61]) rfl ?_
 have hp6:=hp.2.1
 unfold typesF
 simp only[go_sem]
 refine PCall.call (scopeX p hp) ?_
 have hz:=scope_zero (p:=p)
 generalize scopeF p=F at hz
 simp only[go_sem]
 rw[fault_z]
 simp only[go_sem]
 refine brK_dec (fun h0=>?_) (fun h0=>?_)
 ·
  have hF:¬ F.Err=0:=fun h=>h0 (hz h).1
  rw[if_neg hF]
  simp only[go_sem]
  exact⟨_,rfl,false,by rw[DFault.enc_eq];exact .refl _⟩
 have h0:F=⟨0,0,0⟩:=Classical.not_not.1 h0
 rw[if_pos (by rw[h0])]
 obtain⟨_,hc0,hcl⟩:=hz (by rw[h0])
 generalize hE:firstF (nodeTy p) 0 p.Nodes=E
 simp only[go_sem]
 refine loop_frX [4,5,6,7,8,9,10,11,12,19,20,21,22,23,24,25,26,27,28,29,30,31,32,33,34,35,36,37,38,39,40,41,42,43,44,45,46,47,48,49,50,51,52,53,54,55,56,57,58,59,60,61,62,63,64,65,66,67,68,69,70,71,72,73,74,75,76,77,78,79,80,81,82,83,84,85,86,87,88,89,90,91,92,93,94,95,96,97,98,99,100,101,102] (fun m C=>∃ i:Nat,i≤p.Nodes.length∧m=p.Nodes.length-i∧firstF (nodeTy p) i (p.Nodes.drop i)=E∧C=[(4,.raw (.int .i64 (i:Nat)))]) p.Nodes.length _ ⟨0,by omega,by omega,hE,rfl⟩ (.cons rfl .nil) ?_
 rintro m C ja r ⟨j,hi,rfl,hE',rfl⟩
 simp only[go_sem]
 intro _
 refine brK_dec (fun hlt=>?_) (fun hge=>?_)
 ·
  obtain⟨n,hj⟩:∃ n,p.Nodes[j]?=some n:=⟨_,List.getElem?_eq_getElem (by omega)⟩
  have hnm:=List.mem_of_getElem? hj
  have hn:=hp.2.2 n hnm
  have ho:=tyOK_of hp hc0 n hnm
  have hl:=ho.1
  have hck:=clocked_of (hcl j n hj)
  have he4:=hn.2.2.2.1
  simp only[go_sem]
  refine elemHave (x:=n) (by omega) (by simpa using hj) ?_
  simp only[go_sem]
  refine PCall.call (all66 n (by omega)) ?_
  simp only[go_sem]
  refine loop_frX [6,7,8,9,10,11,32,33,34,35,36,37,38,39,40,41,42,43,44,45,46,47,48,49,50,51,52,53,54,55,56,57,58,59,60,61,62,63,64,65,66,67,68,69,70,71,72,73,74,75] (fun m C=>∃ i:Nat,i≤(allV n).length∧m=(allV n).length-i∧(∀ d∈(allV n).take i,clkTy p n d=true)∧C=[(6,.raw (.int .i64 (i:Nat)))]) (allV n).length _ ⟨0,by omega,by omega,by simp,rfl⟩ (.cons rfl .nil) ?_
  rintro m C jb r1 ⟨i,hi1,rfl,hp0,rfl⟩
  simp only[go_sem]
  intro _
  refine brK_dec (fun hlt1=>?_) (fun hge1=>?_)
  ·
   obtain⟨d,hd⟩:∃ d,(allV n)[i]?=some d:=⟨_,List.getElem?_eq_getElem (by omega)⟩
   have hdm:=List.mem_of_getElem? hd
   simp only[go_sem]
   refine elemHave (x:=d) (by omega) (by simpa using hd) ?_
   simp only[go_sem]
   refine brK_dec (fun hO=>?_) (fun hO=>?_)
   ·
    simp only[go_sem]
    exact loopFrX _ (by omega) _ ⟨i+1,by omega,rfl,take_all hp0 hd (clkTy_no hO),rfl⟩ (.next rfl (by omega) .nil) rfl (by first|rfl|(simp only[List.append_assoc,List.cons_append,List.nil_append];rfl))
   ·
    have hy:=clkTy_y (hck d hdm) hO
    have hno:=clkTy_ne (hck d hdm) hO
    have hd26:=decl26 n d.On (by omega)
    have ha:=arm91 p.Enums d.Ctor
    generalize decl n d.On=q at hd26 hy hno
    generalize armF p.Enums d.Ctor=u at ha hy hno
    obtain⟨d2,dok⟩:=q
    obtain⟨t,v,is⟩:=u
    dsimp only at hy hno
    repeat' first
     | simp only[go_sem]
     | refine drawK mo (by kernel_rfl) ?_
     | refine elemHave (x:=n) (by omega) hj ?_
     | refine elemHave (x:=d) (by omega) (by simpa using hd) ?_
     | (refine pcK_of hd26 ?_)
     | (refine pcK_of ha ?_)
    refine brK_dec (fun he=>?_) (fun he=>?_)
    ·
     have hE1:=nodeTy_clk (p:=p) (a:=j) (n:=n) hdm (hno he)
     have hE2:=first_at hE' hj (by rw[hE1];simp)
     rw[hE2,hE1]
     simp only[go_sem]
     refine PCall.call (fault47 _ _ _) ?_
     simp only[go_sem]
     exact⟨_,rfl,false,by rw[DFault.enc_eq];exact .refl _⟩
    ·
     have hc:=hy (Classical.not_not.1 he)
     simp only[go_sem]
     exact loopFrX _ (by omega) _ ⟨i+1,by omega,rfl,take_all hp0 hd hc,rfl⟩ (.next rfl (by omega) .nil) rfl (by first|rfl|(simp only[List.append_assoc,List.cons_append,List.nil_append];rfl))
  ·
   have hNE:=nodeTy_eqs (p:=p) (a:=j) (n:=n) (take_full hp0 (by omega))
   generalize hG:nodeTy p j n=G at hNE
   simp only[go_sem]
   refine loop_frX [12,76,77,78,79,80,81,82,83,84,85,86,87,88,89,90,91,92,93,94,95,96,97,98,99,100,101,102] (fun m C=>∃ i:Nat,i≤n.Eqs.length∧m=n.Eqs.length-i∧firstE (j:Int) 7 (fun _ q=>eqTy p n q) i (n.Eqs.drop i)=G∧C=[(12,.raw (.int .i64 (i:Nat)))]) n.Eqs.length _ ⟨0,by omega,by omega,hNE.symm,rfl⟩ (.cons rfl .nil) ?_
   rintro m C jc r2 ⟨i2,hi2,rfl,hG',rfl⟩
   simp only[go_sem]
   refine elemHave (x:=n) (by omega) (by simpa using hj) ?_
   simp only[go_sem]
   intro _
   refine brK_dec (fun hlt2=>?_) (fun hge2=>?_)
   ·
    obtain⟨q,hq⟩:∃ q,n.Eqs[i2]?=some q:=⟨_,List.getElem?_eq_getElem (by omega)⟩
    have hqm:=List.mem_of_getElem? hq
    have hqo:=hn.2.2.2.2.2 q hqm
    have hx:=eqTX p (outs_le hp) j n hj ho q (right_parts (eqs_right hc0 hnm hqm).2) hqo.2.1 (by have:=hqo.1;omega)
    generalize hb:eqTy p n q=b at hx
    simp only[go_sem]
    refine drawK mo (by kernel_rfl) ?_
    simp only[go_sem]
    refine elemHave (x:=n) (by omega) hj ?_
    simp only[go_sem]
    refine elemHave (x:=q) (by omega) (by simpa using hq) ?_
    simp only[go_sem]
    refine pcK_of hx ?_
    cases b
    ·
     have hE1:=firstE_at hG' hq hb
     have hE2:=first_at hE' hj (by rw[hG,hE1];simp)
     rw[hE2,hG,hE1]
     simp only[go_sem]
     refine PCall.call (fault47 _ _ _) ?_
     simp only[go_sem]
     exact⟨_,rfl,false,by rw[DFault.enc_eq];exact .refl _⟩
    ·
     have hE1:=firstE_next hG' hq hb
     simp only[go_sem]
     exact loopFrX _ (by omega) _ ⟨i2+1,by omega,rfl,hE1,rfl⟩ (.next rfl (by omega) .nil) rfl (by first|rfl|(simp only[List.append_assoc,List.cons_append,List.nil_append];rfl))
   ·
    have h1:=firstE_0 hG' (by omega)
    have hE1:=first_next hE' hj (by rw[hG,h1])
    simp only[go_sem]
    exact loopFrX _ (by omega) _ ⟨j+1,by omega,rfl,hE1,rfl⟩ (.next rfl (by omega) .nil) rfl (by first|rfl|(simp only[List.append_assoc,List.cons_append,List.nil_append];rfl))
 ·
  have h1:=first_0 hE' (by omega)
  subst h1
  simp only[go_sem]
  exact⟨_,rfl,false,by rw[DFault.enc_eq];exact .refl _⟩
theorem eqCkX (p:DProg) (k:Nat) (n:DNode) (hn:p.Nodes[k]?=some n) (hl:(allV n).length≤4294967296) (q:DEq) (h0:0<q.Names.length) (hnl:q.Names.length≤1000) (hb:(parts q.E).length≤200):PCall Tryz.prog 118 [p.enc,.i (k:Int),q.enc] (.b (eqCk p.Enums n q)):=by
 refine pcall_of_vc tabOK Tryz.func118 (by kernel_rfl) rfl (pure_cons (DProg.pure _) (pure_cons (.raw _) (pure_cons (DEq.pure _) pure_nil))) (.raw _) (n:=50) rfl (rs:=[.tmp 6]) rfl ?_
 obtain⟨s0,hs0⟩:∃ s,q.Names[0]?=some s:=⟨_,List.getElem?_eq_getElem (by omega)⟩
 unfold eqCk
 rw[headD_at0 hs0]
 have hR:=row46v p k n hn s0 hl
 have hlen:=rowN_len p.Enums n s0
 generalize rowN p.Enums n s0=R at hR hlen
 obtain⟨row,ok⟩:=R
 dsimp only at hlen
 dsimp only
 simp only[go_sem]
 refine drawK mo (by kernel_rfl) ?_
 simp only[go_sem]
 refine elemHave (x:=s0) (by omega) (by simpa using hs0) ?_
 simp only[go_sem]
 refine pcK_of hR ?_
 simp only[go_sem]
 refine loop_frX [6,9,10,11,22,23,24,25,26,27,28,29,30,31,32,33,34,35,36,37,38,39,40,41,42,43] (fun m C=>∃ i:Nat,i≤q.Names.length∧m=q.Names.length-i∧(∀ s∈q.Names.take i,eqB (rowN p.Enums n s).1 row=true)∧C=[(9,.raw (.int .i64 (i:Nat)))]) q.Names.length _ ⟨0,by omega,by omega,by simp,rfl⟩ (.cons rfl .nil) ?_
 rintro m C ja r ⟨i,hi,rfl,hp0,rfl⟩
 simp only[go_sem]
 intro _
 refine brK_dec (fun hlt=>?_) (fun hge=>?_)
 ·
  obtain⟨x,hx⟩:∃ x,q.Names[i]?=some x:=⟨_,List.getElem?_eq_getElem (by omega)⟩
  have hRx:=row46v p k n hn x hl
  have hst:=take_all hp0 hx
  have hno:eqB (rowN p.Enums n x).1 row=false→(q.Names.all fun s=>eqB (rowN p.Enums n s).1 row)=false:=fun h=>List.all_eq_false.2 ⟨x,List.mem_of_getElem? hx,by rw[h];simp⟩
  generalize rowN p.Enums n x=Rx at hRx hst hno
  obtain⟨rx,okx⟩:=Rx
  dsimp only at hst hno
  simp only[go_sem]
  refine drawK mo (by kernel_rfl) ?_
  simp only[go_sem]
  refine elemHave (x:=x) (by omega) (by simpa using hx) ?_
  simp only[go_sem]
  refine pcK_of hRx ?_
  simp only[go_sem]
  refine PCall.call (sameCs rx row) ?_
  generalize eqB rx row=b at hst hno
  cases b
  ·
   rw[hno rfl]
   simp only[go_sem]
   exact finBq rfl rfl
  ·
   simp only[go_sem]
   exact loopFrX _ (by omega) _ ⟨i+1,by omega,rfl,hst rfl,rfl⟩ (.next rfl (by omega) .nil) rfl (by first|rfl|(simp only[List.append_assoc,List.cons_append,List.nil_append];rfl))
 ·
  rw[List.all_eq_true.2 (take_full hp0 (by omega))]
  simp only[go_sem]
  refine PCall.call (fits49 p k n hn hl q.E row (by omega)) ?_
  simp only[go_sem]
  exact finBq rfl (by simp)
theorem clockX (p:DProg) (hp:okProg p):PCall Tryz.prog 80 [p.enc] (clockF p).enc:=by
 refine pcall_of_vc tabOK Tryz.func80 (by kernel_rfl) rfl (by first|exact pureL|exact pureI) (by first|exact pureL|exact pureI) (n:=78) rfl (rs:=[.cell 2 61]) rfl ?_
 have hp6:=hp.2.1
 unfold clockF
 simp only[go_sem]
 refine PCall.call (typesX p hp) ?_
 have hz:=types_zero (p:=p)
 have hg:=fun h=>@names_good p h
 generalize typesF p=F at hz hg
 simp only[go_sem]
 rw[fault_z]
 simp only[go_sem]
 refine brK_dec (fun h0=>?_) (fun h0=>?_)
 ·
  have hF:¬ F.Err=0:=fun h=>h0 (hz h).1
  rw[if_neg hF]
  simp only[go_sem]
  exact⟨_,rfl,false,by rw[DFault.enc_eq];exact .refl _⟩
 have h0:F=⟨0,0,0⟩:=Classical.not_not.1 h0
 have h0':F.Err=0:=by rw[h0]
 rw[if_pos h0']
 obtain⟨_,_,hc0,_⟩:=hz h0'
 generalize hE:firstF (nodeCk p) 0 p.Nodes=E
 simp only[go_sem]
 refine loop_frX [4,5,6,7,8,9,16,17,18,19,20,21,22,23,24,25,26,27,28,29,30,31,32,33,34,35,36,37,38,39,40,41,42,43,44,45,46,47,48,49,50,51,52,53,54,55,56,57,58,59,60,61,62,63,64,65,66,67,68,69,70,71,72,73,74,75,76] (fun m C=>∃ i:Nat,i≤p.Nodes.length∧m=p.Nodes.length-i∧firstF (nodeCk p) i (p.Nodes.drop i)=E∧C=[(4,.raw (.int .i64 (i:Nat)))]) p.Nodes.length _ ⟨0,by omega,by omega,hE,rfl⟩ (.cons rfl .nil) ?_
 rintro m C ja r ⟨j,hi,rfl,hE',rfl⟩
 simp only[go_sem]
 intro _
 refine brK_dec (fun hlt=>?_) (fun hge=>?_)
 ·
  obtain⟨n,hj⟩:∃ n,p.Nodes[j]?=some n:=⟨_,List.getElem?_eq_getElem (by omega)⟩
  have hnm:=List.mem_of_getElem? hj
  have hn:=hp.2.2 n hnm
  have hl:=(tyOK_of hp hc0 n hnm).1
  have he4:=hn.2.2.2.1
  simp only[go_sem]
  refine elemHave (x:=n) (by omega) (by simpa using hj) ?_
  simp only[go_sem]
  refine PCall.call (all66 n (by omega)) ?_
  simp only[go_sem]
  refine loop_frX [6,7,8,29,30,31,32,33,34,35,36,37,38,39,40,41,42,43,44,45,46,47,48,49] (fun m C=>∃ i:Nat,i≤(allV n).length∧m=(allV n).length-i∧(∀ d∈(allV n).take i,(rowN p.Enums n d.Name).2=true)∧C=[(6,.raw (.int .i64 (i:Nat)))]) (allV n).length _ ⟨0,by omega,by omega,by simp,rfl⟩ (.cons rfl .nil) ?_
  rintro m C jb r1 ⟨i,hi1,rfl,hp0,rfl⟩
  simp only[go_sem]
  intro _
  refine brK_dec (fun hlt1=>?_) (fun hge1=>?_)
  ·
   obtain⟨d,hd⟩:∃ d,(allV n)[i]?=some d:=⟨_,List.getElem?_eq_getElem (by omega)⟩
   have hdm:=List.mem_of_getElem? hd
   have hRx:=row46v p j n hj d.Name (by omega)
   have hst:=take_all hp0 hd
   have hno:=nodeCk_row (p:=p) (a:=j) (n:=n) hdm
   generalize hq:rowN p.Enums n d.Name=Rx at hRx hst hno
   obtain⟨rx,okx⟩:=Rx
   dsimp only at hno
   simp only[go_sem]
   refine drawK mo (by kernel_rfl) ?_
   simp only[go_sem]
   refine elemHave (x:=d) (by omega) (by simpa using hd) ?_
   simp only[go_sem]
   refine pcK_of hRx ?_
   cases okx
   ·
    have hE2:=first_at hE' hj (by rw[hno rfl];simp)
    rw[hE2,hno rfl]
    simp only[go_sem]
    refine PCall.call (fault47 _ _ _) ?_
    simp only[go_sem]
    exact⟨_,rfl,false,by rw[DFault.enc_eq];exact .refl _⟩
   ·
    simp only[go_sem]
    exact loopFrX _ (by omega) _ ⟨i+1,by omega,rfl,hst rfl,rfl⟩ (.next rfl (by omega) .nil) rfl (by first|rfl|(simp only[List.append_assoc,List.cons_append,List.nil_append];rfl))
  ·
   have hNE:=nodeCk_eqs (p:=p) (a:=j) (n:=n) (rowsOk_of (take_full hp0 (by omega)))
   generalize hG:nodeCk p j n=G at hNE
   simp only[go_sem]
   refine loop_frX [9,50,51,52,53,54,55,56,57,58,59,60,61,62,63,64,65,66,67,68,69,70,71,72,73,74,75,76] (fun m C=>∃ i:Nat,i≤n.Eqs.length∧m=n.Eqs.length-i∧firstE (j:Int) 8 (fun _ q=>eqCk p.Enums n q) i (n.Eqs.drop i)=G∧C=[(9,.raw (.int .i64 (i:Nat)))]) n.Eqs.length _ ⟨0,by omega,by omega,hNE.symm,rfl⟩ (.cons rfl .nil) ?_
   rintro m C jc r2 ⟨i2,hi2,rfl,hG',rfl⟩
   simp only[go_sem]
   refine elemHave (x:=n) (by omega) (by simpa using hj) ?_
   simp only[go_sem]
   intro _
   refine brK_dec (fun hlt2=>?_) (fun hge2=>?_)
   ·
    obtain⟨q,hq⟩:∃ q,n.Eqs[i2]?=some q:=⟨_,List.getElem?_eq_getElem (by omega)⟩
    have hqm:=List.mem_of_getElem? hq
    have hqo:=hn.2.2.2.2.2 q hqm
    have hx:=eqCkX p j n hj (by omega) q (hg h0' hj q hqm).1 (by have:=hqo.1;omega) hqo.2.1.1
    generalize hb:eqCk p.Enums n q=b at hx
    simp only[go_sem]
    refine drawK mo (by kernel_rfl) ?_
    simp only[go_sem]
    refine elemHave (x:=n) (by omega) hj ?_
    simp only[go_sem]
    refine elemHave (x:=q) (by omega) (by simpa using hq) ?_
    simp only[go_sem]
    refine pcK_of hx ?_
    cases b
    ·
     have hE1:=firstE_at hG' hq hb
     have hE2:=first_at hE' hj (by rw[hG,hE1];simp)
     rw[hE2,hG,hE1]
     simp only[go_sem]
     refine PCall.call (fault47 _ _ _) ?_
     simp only[go_sem]
     exact⟨_,rfl,false,by rw[DFault.enc_eq];exact .refl _⟩
    ·
     have hE1:=firstE_next hG' hq hb
     simp only[go_sem]
     exact loopFrX _ (by omega) _ ⟨i2+1,by omega,rfl,hE1,rfl⟩ (.next rfl (by omega) .nil) rfl (by first|rfl|(simp only[List.append_assoc,List.cons_append,List.nil_append];rfl))
   ·
    have h1:=firstE_0 hG' (by omega)
    have hE1:=first_next hE' hj (by rw[hG,h1])
    simp only[go_sem]
    exact loopFrX _ (by omega) _ ⟨j+1,by omega,rfl,hE1,rfl⟩ (.next rfl (by omega) .nil) rfl (by first|rfl|(simp only[List.append_assoc,List.cons_append,List.nil_append];rfl))
 ·
  have h1:=first_0 hE' (by omega)
  subst h1
  simp only[go_sem]
  exact⟨_,rfl,false,by rw[DFault.enc_eq];exact .refl _⟩
end Go.Proofs.YtpamokpmlplopaaGreatDoor
