/-
  TyW, TyV, TyX, TyY, TyS, TyT, ChkP4: put together.
-/
import Derived.Test.YtpamokpmlplopaaGreatDoorUniAs
import Derived.Test.YtpamokpmlplopaaGreatDoorUniAt
import Derived.Test.YtpamokpmlplopaaGreatDoorUniAu
namespace Go.Proofs.YtpamokpmlplopaaGreatDoor
open Go.Abs
set_option maxRecDepth 20000
set_option linter.unusedSimpArgs false
set_option linter.unusedVariables false
set_option maxHeartbeats 1000000
attribute [local irreducible] vc vcOps vcStep vcGuard prK hrK gK gsK brK callK ElemK SeqK BlockK ScopeK OpsK CallK LoopK LoopGo finPost ACall PCall PCallE BCall vqOps vqStep vqGuard qrK heK pcK gqK gqsK QOpsK qcallK DrawK
abbrev ibA (q:Int × Bool):AV:=.tup [.i q.1,.b q.2]
theorem pure_ibA (q:Int × Bool):Go.Abs.Pure (ibA q):=.tup _ (pure_cons (.raw _) (pure_cons (.raw _) pure_nil))
theorem finIB {T:TypeId→TI} {rs:List ResultVar} {s:List AV} {h:List Blk} {q:Int × Bool} {a:Int} {ok:Bool} (hr:resAV T s h rs=some [.i a,.b ok]) (hq:q=(a,ok)):Go.Abs.Fin T rs (ibA q) s h:=by
 subst hq
 exact⟨_,hr,false,.refl _⟩
noncomputable def callXT (p:DProg) (e:Ex) (ts:List DTy):Int × Bool:=if(callT p e ts).2=true then(findF p e.name,true) else(0,false)
theorem callXT_no {p:DProg} {e:Ex} {ts:List DTy} (h:(callT p e ts).2=false):callXT p e ts=(0,false):=by unfold callXT;rw[if_neg (by rw[h];simp)]
theorem callXT_yes {p:DProg} {e:Ex} {ts:List DTy} (h:(callT p e ts).2=true):callXT p e ts=(findF p e.name,true):=by unfold callXT;rw[if_pos h]
theorem callX (p:DProg) (e:Ex) (ts:List DTy) (hn:e.n=0∨e.n=1) (hts:e.n≤(ts.length:Int)) (hb:ts.length≤100000):PCall Tryz.prog 183 [p.enc,e.enc,.lst 3 (ts.map DTy.enc) none] (ibA (callXT p e ts)):=by
 refine pcall_of_vc tabOK Tryz.func183 (by kernel_rfl) rfl (pure_cons (DProg.pure _) (pure_cons (pure_enc e) (pure_cons (DTy.pures _) pure_nil))) (pure_ibA _) (n:=65) rfl (rs:=[.tmp 6,.tmp 7]) rfl ?_
 simp only[go_sem]
 refine PCall.call (find24 p e.name) ?_
 by_cases hi:findF p e.name<0
 ·
  have hc:(callT p e ts).2=false:=by unfold callT;rw[if_pos hi]
  rw[callXT_no hc]
  generalize findF p e.name=f at hi
  simp only[go_sem]
  refine brK_dec (fun _=>?_) (fun hq=>absurd hi hq)
  simp only[go_sem]
  exact finIB rfl rfl
 ·
  obtain⟨m,hm⟩:=find_at hi
  obtain⟨N,hNd⟩:∃ N:Nat,N=ts.length-e.n.toNat:=⟨_,rfl⟩
  have hc:(callT p e ts).2=if e.n=1∧¬ ts.getD N ty0=tyB then false else eqB (m.Ins.map DDecl.Ty) (ts.take N):=by
   unfold callT;rw[if_neg hi,hm,← hNd]
   split<;>rfl
  have hN:IntKind.i64.wrap ((ts.length:Int)-e.n)=(N:Int):=by rw[wrap_in _ (by omega) (by omega)];omega
  have hNl:N≤ts.length:=by omega
  have htk:(ts.take N).length=N:=by rw[List.length_take];omega
  have hyes:=callXT_yes (p:=p) (e:=e) (ts:=ts)
  have hno:=callXT_no (p:=p) (e:=e) (ts:=ts)
  generalize callXT p e ts=R at hyes hno
  generalize (callT p e ts).2=cb at hc hyes hno
  generalize findF p e.name=f at hi hm hyes
  simp only[go_sem]
  refine brK_dec (fun hq=>absurd hq hi) (fun _=>?_)
  simp only[go_sem]
  intro _
  rw[hN]
  refine elemHave (by omega) hm ?_
  simp only[go_sem]
  intro _
  refine gK_dec (fun hne=>?_) (fun hne=>?_)
  ·
   have hcf:cb=false:=by
    rw[hc]
    split
    ·
     rfl
    ·
     exact eqB_ne fun h=>hne (by have:=congrArg List.length h;rw[List.length_map,htk] at this;omega)
   rw[hno hcf]
   simp only[go_sem]
   exact finIB rfl rfl
  ·
   have hlen:m.Ins.length=N:=by omega
   have hloop:¬ (e.n=1∧¬ ts.getD N ty0=tyB)→cb=eqB (m.Ins.map DDecl.Ty) (ts.take N):=fun h=>by rw[hc,if_neg h]
   have fin0:∀(i:Nat) (d:DDecl) (t:DTy),i<N→m.Ins[i]?=some d→ts[i]?=some t→¬ d.Ty=t→cb=eqB (m.Ins.map DDecl.Ty) (ts.take N)→cb=false:=fun i d t hi hd ht hne h=>by
    rw[h]
    refine eqB_ne fun h2=>hne ?_
    have h3:=congrArg (fun l=>l[i]?) h2
    simp only[List.getElem?_map,hd,Option.map_some] at h3
    rw[List.getElem?_take_of_lt hi,ht] at h3
    exact Option.some.inj h3
   have fin1:(m.Ins.take N).map DDecl.Ty=ts.take N→cb=eqB (m.Ins.map DDecl.Ty) (ts.take N)→cb=true:=fun h h2=>by
    rw[h2]
    rw[List.take_of_length_le (by omega)] at h
    exact eqB_eq h
   simp only[go_sem]
   refine gK_dec (fun h1=>?_) (fun h1=>?_)
   ·
    obtain⟨u,hu⟩:∃ u,ts[N]?=some u:=⟨_,List.getElem?_eq_getElem (by omega)⟩
    have hg:=getD_at hu
    simp only[go_sem]
    refine elemHave (x:=u) (by omega) (by simpa using hu) ?_
    simp only[go_sem]
    refine PCall.call (truthX u) ?_
    simp only[go_sem]
    refine brK_dec (fun hq=>?_) (fun hq=>?_)
    ·
     have hcf:cb=false:=by rw[hc,if_pos ⟨h1,by rw[hg];exact hq⟩]
     rw[hno hcf]
     simp only[go_sem]
     exact finIB rfl rfl
    ·
     have hcb:=hloop (fun h=>h.2 (by rw[hg];exact Classical.not_not.1 hq))
     simp only[go_sem]
     refine loop_frH [6,7,10,44,45,46,47,48,49,50,51,52,53,54,55,56,57,58,59,60,61,62,63] (fun m_ C=>∃ i:Nat,i≤N∧m_=N-i∧(m.Ins.take i).map DDecl.Ty=ts.take i∧C=[(10,.raw (.int .i64 (i:Nat)))]) N _ ⟨0,by omega,by omega,rfl,rfl⟩ (.cons rfl .nil) ?_
     rintro m_ C ja ⟨i,hi',rfl,hp,rfl⟩
     simp only[go_sem]
     refine brK_dec (fun hlt=>?_) (fun hge=>?_)
     ·
      obtain⟨d,hd⟩:∃ d,m.Ins[i]?=some d:=⟨_,List.getElem?_eq_getElem (by omega)⟩
      obtain⟨t,ht⟩:∃ t,ts[i]?=some t:=⟨_,List.getElem?_eq_getElem (by omega)⟩
      repeat' first
       | simp only[go_sem]
       | refine drawK mo (by kernel_rfl) ?_
       | refine elemHave (x:=m) (by omega) hm ?_
       | refine elemHave (x:=d) (by omega) (by simpa using hd) ?_
       | refine elemHave (x:=t) (by omega) (by simpa using ht) ?_
      refine brK_dec (fun hne2=>?_) (fun hne2=>?_)
      ·
       rw[hno (fin0 i d t (by omega) hd ht hne2 hcb)]
       simp only[go_sem]
       exact finIB rfl rfl
      ·
       simp only[go_sem]
       exact loopFrH _ (by omega) ⟨i+1,by omega,rfl,dt_step hp (by simpa using hd) (by simpa using ht) (Classical.not_not.1 hne2),rfl⟩ (.next rfl (by omega) .nil) rfl
     ·
      have hiN:i=N:=by omega
      subst hiN
      rw[hyes (fin1 hp hcb)]
      simp only[go_sem]
      exact finIB rfl rfl
   ·
    have hcb:=hloop (fun h=>h1 h.1)
    simp only[go_sem]
    refine loop_frH [6,7,10,44,45,46,47,48,49,50,51,52,53,54,55,56,57,58,59,60,61,62,63] (fun m_ C=>∃ i:Nat,i≤N∧m_=N-i∧(m.Ins.take i).map DDecl.Ty=ts.take i∧C=[(10,.raw (.int .i64 (i:Nat)))]) N _ ⟨0,by omega,by omega,rfl,rfl⟩ (.cons rfl .nil) ?_
    rintro m_ C ja ⟨i,hi',rfl,hp,rfl⟩
    simp only[go_sem]
    refine brK_dec (fun hlt=>?_) (fun hge=>?_)
    ·
     obtain⟨d,hd⟩:∃ d,m.Ins[i]?=some d:=⟨_,List.getElem?_eq_getElem (by omega)⟩
     obtain⟨t,ht⟩:∃ t,ts[i]?=some t:=⟨_,List.getElem?_eq_getElem (by omega)⟩
     repeat' first
      | simp only[go_sem]
      | refine drawK mo (by kernel_rfl) ?_
      | refine elemHave (x:=m) (by omega) hm ?_
      | refine elemHave (x:=d) (by omega) (by simpa using hd) ?_
      | refine elemHave (x:=t) (by omega) (by simpa using ht) ?_
     refine brK_dec (fun hne2=>?_) (fun hne2=>?_)
     ·
      rw[hno (fin0 i d t (by omega) hd ht hne2 hcb)]
      simp only[go_sem]
      exact finIB rfl rfl
     ·
      simp only[go_sem]
      exact loopFrH _ (by omega) ⟨i+1,by omega,rfl,dt_step hp (by simpa using hd) (by simpa using ht) (Classical.not_not.1 hne2),rfl⟩ (.next rfl (by omega) .nil) rfl
    ·
     have hiN:i=N:=by omega
     subst hiN
     rw[hyes (fin1 hp hcb)]
     simp only[go_sem]
     exact finIB rfl rfl
theorem plainX (p:DProg) (n:DNode) (e:Ex) (ts:List DTy) (hk:e.kind=5∨e.kind=6∨e.kind=7∨e.kind=14∨e.kind=15∨e.kind=16) (hlen:0<ts.length) (h2:e.kind=6∨e.kind=15→1<ts.length) (h3:e.kind=7∨e.kind=16→2<ts.length):PCall Tryz.prog 147 [e.enc,.lst 3 (ts.map DTy.enc) none] (tyA (plainT e ts)):=by
 refine pcall_of_vc tabOK Tryz.func147 (by kernel_rfl) rfl (by repeat' first|exact pure_nil|refine pure_cons ?_ ?_|exact pure_plE _ _|exact pure_enc _|exact DTy.pures _) (pure_tyA _) (n:=109) rfl (rs:=[.cell 4 42,.tmp 5]) rfl ?_
 obtain⟨t0,ht0⟩:∃ t,ts[0]?=some t:=⟨_,List.getElem?_eq_getElem (by omega)⟩
 rcases hk with hk|hk|hk|hk|hk|hk
 ·
  have hf:plainT e ts=unT e.op t0:=by unfold plainT;rw[if_pos hk,getD_at ht0]
  rw[hf]
  repeat' first
   | simp only[go_sem,hk]
   | refine drawC [1] mo (by kernel_rfl) ?_
   | refine elemHave (x:=t0) (by omega) ht0 ?_
   | (refine pcK_of (unX e.op t0) ?_;generalize unT e.op t0=q;obtain⟨t,ok⟩:=q)
   | (refine PCall.call (unX e.op t0) ?_;generalize unT e.op t0=q;obtain⟨t,ok⟩:=q)
   | exact finTy rfl rfl
 ·
  have h2':=h2 (.inl hk)
  obtain⟨t1,ht1⟩:∃ t,ts[1]?=some t:=⟨_,List.getElem?_eq_getElem (by omega)⟩
  have hf:plainT e ts=binT e.op t0 t1:=by unfold plainT;rw[if_neg (by omega),if_pos hk,getD_at ht0,getD_at ht1]
  rw[hf]
  repeat' first
   | simp only[go_sem,hk]
   | refine drawC [1] mo (by kernel_rfl) ?_
   | refine elemHave (x:=t0) (by omega) ht0 ?_
   | refine elemHave (x:=t1) (by omega) ht1 ?_
   | (refine pcK_of (binX e.op t0 t1) ?_;generalize binT e.op t0 t1=q;obtain⟨t,ok⟩:=q)
   | (refine PCall.call (binX e.op t0 t1) ?_;generalize binT e.op t0 t1=q;obtain⟨t,ok⟩:=q)
   | exact finTy rfl rfl
 ·
  have h3':=h3 (.inl hk)
  obtain⟨t1,ht1⟩:∃ t,ts[1]?=some t:=⟨_,List.getElem?_eq_getElem (by omega)⟩
  obtain⟨t2,ht2⟩:∃ t,ts[2]?=some t:=⟨_,List.getElem?_eq_getElem (by omega)⟩
  have hf:plainT e ts=(t1,decide (t0=tyB)&&decide (t1=t2)):=by unfold plainT;rw[if_neg (by omega),if_neg (by omega),if_pos hk,getD_at ht0,getD_at ht1,getD_at ht2]
  rw[hf]
  repeat' first
   | simp only[go_sem,hk]
   | refine drawC [1] mo (by kernel_rfl) ?_
   | refine elemHave (x:=t0) (by omega) ht0 ?_
   | refine elemHave (x:=t1) (by omega) ht1 ?_
   | refine elemHave (x:=t2) (by omega) ht2 ?_
   | (refine pcK_of (truthX t0) ?_)
   | refine gqK_dec (fun _=>?_) (fun _=>?_)
   | exact finTy rfl (by simp[*])
 ·
  have hf:plainT e ts=(⟨t0.Kind,t0.Enum,(ts.length:Int)⟩,sameT ts&&decide (t0.Len=0)):=by unfold plainT;rw[if_neg (by omega),if_neg (by omega),if_neg (by omega),if_pos hk,getD_at ht0]
  rw[hf]
  repeat' first
   | simp only[go_sem,hk]
   | (intro _)
   | refine drawC [1] mo (by kernel_rfl) ?_
   | refine elemHave (x:=t0) (by omega) ht0 ?_
   | (refine pcK_of (allX ts) ?_;generalize sameT ts=b;cases b)
   | exact finTy rfl (by simp)
 ·
  have h2':=h2 (.inr hk)
  obtain⟨t1,ht1⟩:∃ t,ts[1]?=some t:=⟨_,List.getElem?_eq_getElem (by omega)⟩
  have hf:plainT e ts=(oneT t0,decide (t0.Len>0)&&decide (t1=tyI)):=by unfold plainT;rw[if_neg (by omega),if_neg (by omega),if_neg (by omega),if_neg (by omega),if_pos hk,getD_at ht0,getD_at ht1]
  rw[hf]
  repeat' first
   | simp only[go_sem,hk]
   | refine drawC [1] mo (by kernel_rfl) ?_
   | refine elemHave (x:=t0) (by omega) ht0 ?_
   | refine elemHave (x:=t1) (by omega) ht1 ?_
   | (refine pcK_of (oneX t0) ?_)
   | (refine pcK_of (wholeX t1) ?_)
   | refine gqK_dec (fun _=>?_) (fun _=>?_)
   | exact finTy rfl (by simp[oneT, *])
 ·
  have h3':=h3 (.inr hk)
  obtain⟨t1,ht1⟩:∃ t,ts[1]?=some t:=⟨_,List.getElem?_eq_getElem (by omega)⟩
  obtain⟨t2,ht2⟩:∃ t,ts[2]?=some t:=⟨_,List.getElem?_eq_getElem (by omega)⟩
  have hf:plainT e ts=(t0,decide (t0.Len>0)&&decide (t1=tyI)&&decide (t2=oneT t0)):=by unfold plainT;rw[if_neg (by omega),if_neg (by omega),if_neg (by omega),if_neg (by omega),if_neg (by omega),getD_at ht0,getD_at ht1,getD_at ht2]
  rw[hf]
  unfold oneT
  repeat' first
   | simp only[go_sem,hk]
   | refine drawC [1] mo (by kernel_rfl) ?_
   | refine elemHave (x:=t0) (by omega) ht0 ?_
   | refine elemHave (x:=t1) (by omega) ht1 ?_
   | refine elemHave (x:=t2) (by omega) ht2 ?_
   | (refine pcK_of (oneX t0) ?_)
   | (refine pcK_of (wholeX t1) ?_)
   | refine gqK_dec (fun _=>?_) (fun _=>?_)
   | exact finTy rfl (by simp[*])
theorem two_no {arms:List ByteArray} {i:Nat} {x y:ByteArray} (hx:arms[i]?=some x) (hy:[tTrue,tFalse][i]?=some y) (h:¬ x=y):eqB arms [tTrue,tFalse]=false:=eqB_ne fun e=>h (by rw[e,hy] at hx;exact(Option.some.inj hx).symm)
theorem two_len {arms:List ByteArray} (h:¬ arms.length=2):eqB arms [tTrue,tFalse]=false:=eqB_ne fun e=>h (by rw[e];rfl)
theorem two_yes {arms:List ByteArray} (hl:arms.length=2) (h0:arms[0]?=some tTrue) (h1:arms[1]?=some tFalse):eqB arms [tTrue,tFalse]=true:=by
 match arms,hl with
 | [a,b],_ =>
  cases h0
  cases h1
  exact eqB_eq rfl
theorem two_val {arms:List ByteArray} {a b:ByteArray} (hl:arms.length=2) (h0:arms[0]?=some a) (h1:arms[1]?=some b):eqB arms [tTrue,tFalse]=(decide (a=tTrue)&&decide (b=tFalse)):=by
 by_cases h2:a=tTrue
 ·
  by_cases h3:b=tFalse
  ·
   subst h2 h3
   rw[two_yes hl h0 h1];simp
  ·
   rw[two_no (i:=1) h1 rfl h3];simp[h3]
 ·
  rw[two_no (i:=0) h0 rfl h2];simp[h2]
theorem armsX (L:List DEnum) (t:DTy) (arms:List ByteArray) (hT:t.Kind=3→0≤t.Enum∧t.Enum<L.length):PCall Tryz.prog 182 [.lst 2 (L.map DEnum.enc) none,t.enc,.lst 1 (arms.map AV.s) none] (.b (armsT L t arms)):=by
 refine pcall_of_vc tabOK Tryz.func182 (by kernel_rfl) rfl (pure_cons (DEnum.pures _) (pure_cons (DTy.pure _) (pure_cons (pure_strs _) pure_nil))) (.raw _) (n:=65) rfl (rs:=[.tmp 6]) rfl ?_
 unfold armsT
 by_cases hB:t=tyB
 ·
  rw[if_pos hB]
  by_cases h2:arms.length=2
  ·
   obtain⟨a,ha⟩:∃ a,arms[0]?=some a:=⟨_,List.getElem?_eq_getElem (by omega)⟩
   obtain⟨b,hb⟩:∃ b,arms[1]?=some b:=⟨_,List.getElem?_eq_getElem (by omega)⟩
   rw[two_val h2 ha hb]
   repeat' first
    | (exfalso;omega)
    | simp only[go_sem]
    | (intro _)
    | (refine PCall.call (truthX t) ?_;rw[decide_eq_true hB])
    | refine gK_dec (fun _=>?_) (fun _=>?_)
    | refine gqK_dec (fun _=>?_) (fun _=>?_)
    | refine brK_dec (fun _=>?_) (fun _=>?_)
    | refine drawK mo (by kernel_rfl) ?_
    | refine elemHave (x:=a) (by omega) ha ?_
    | refine elemHave (x:=b) (by omega) hb ?_
    | exact finBq rfl (by simp[*])
  ·
   rw[two_len h2]
   repeat' first
    | (exfalso;omega)
    | simp only[go_sem]
    | (intro _)
    | (refine PCall.call (truthX t) ?_;rw[decide_eq_true hB])
    | refine gK_dec (fun _=>?_) (fun _=>?_)
    | refine gqK_dec (fun _=>?_) (fun _=>?_)
    | refine brK_dec (fun _=>?_) (fun _=>?_)
    | refine drawK mo (by kernel_rfl) ?_
    | (exact finBq rfl rfl)
 ·
  rw[if_neg hB]
  by_cases h3:t.Kind=3∧t.Len=0
  ·
   rw[if_pos h3]
   have hr:=hT h3.1
   obtain⟨c,hc⟩:∃ c,L[t.Enum.toNat]?=some c:=⟨_,List.getElem?_eq_getElem (by omega)⟩
   rw[hc]
   have hgd:((some c).map DEnum.Ctors).getD []=c.Ctors:=rfl
   rw[hgd]
   repeat' first
    | (exfalso;omega)
    | simp only[go_sem]
    | (intro _)
    | (refine PCall.call (truthX t) ?_;rw[decide_eq_false hB])
    | refine gK_dec (fun _=>?_) (fun _=>?_)
    | refine elemHave (x:=c) (by omega) hc ?_
   refine brK_dec (fun hlen=>?_) (fun hlen=>?_)
   ·
    rw[eqB_ne (len_ne (l:=arms) (m:=c.Ctors) (by omega))]
    simp only[go_sem]
    exact finBq rfl rfl
   ·
    simp only[go_sem]
    refine loop_frH [6,7,45,46,47,48,49,50,51,52,53,54,55,56,57,58,59,60,61,62,63,64] (fun m_ C=>∃ i:Nat,i≤arms.length∧m_=arms.length-i∧arms.take i=c.Ctors.take i∧C=[(7,.raw (.int .i64 (i:Nat)))]) arms.length _ ⟨0,by omega,by omega,rfl,rfl⟩ (.cons rfl .nil) ?_
    rintro m_ C ja ⟨i,hi,rfl,hp,rfl⟩
    simp only[go_sem]
    intro _
    refine brK_dec (fun hlt=>?_) (fun hge=>?_)
    ·
     obtain⟨x,hx⟩:∃ x,arms[i]?=some x:=⟨_,List.getElem?_eq_getElem (by omega)⟩
     obtain⟨y,hy⟩:∃ y,c.Ctors[i]?=some y:=⟨_,List.getElem?_eq_getElem (by omega)⟩
     repeat' first
      | simp only[go_sem]
      | refine drawK mo (by kernel_rfl) ?_
      | refine elemHave (x:=c) (by omega) hc ?_
      | refine elemHave (x:=x) (by omega) (by simpa using hx) ?_
      | refine elemHave (x:=y) (by omega) (by simpa using hy) ?_
     refine brK_dec (fun hne=>?_) (fun hne=>?_)
     ·
      rw[eqB_ne (at_ne' (l:=arms) (m:=c.Ctors) (i:=i) (by simpa using hx) (by simpa using hy) hne)]
      simp only[go_sem]
      exact finBq rfl rfl
     ·
      simp only[go_sem]
      exact loopFrH _ (by omega) ⟨i+1,by omega,rfl,take_eq_step' hp (by simpa using hx) (by simpa using hy) (Classical.not_not.1 hne),rfl⟩ (.next rfl (by omega) .nil) rfl
    ·
     rw[eqB_eq (take_eq_full (l:=arms) (m:=c.Ctors) (i:=i) (by omega) hp (by omega))]
     simp only[go_sem]
     exact finBq rfl rfl
  ·
   rw[if_neg h3]
   repeat' first
    | (exfalso;omega)
    | simp only[go_sem]
    | (intro _)
    | (refine PCall.call (truthX t) ?_;rw[decide_eq_false hB])
    | refine gK_dec (fun _=>?_) (fun _=>?_)
    | refine brK_dec (fun _=>?_) (fun _=>?_)
    | (exact finBq rfl rfl)
    | (exfalso;exact h3 ⟨by omega,by omega⟩)
theorem flowX (p:DProg) (j:Nat) (n:DNode) (hj:p.Nodes[j]?=some n) (hl:(allV n).length≤60) (e:Ex) (ts:List DTy) (hb:ts.length≤100000) (hk:9≤e.kind∧e.kind≤13) (hlen:¬ e.kind=13→0<ts.length) (h9:e.kind=9→1<ts.length) (h11:e.kind=11→0<e.arms.length) (h12:(decl n e.name).1.Ty.Kind=3→0≤(decl n e.name).1.Ty.Enum∧(decl n e.name).1.Ty.Enum<p.Enums.length)
  (h13:e.kind=13→(e.n=0∨e.n=1)∧e.n≤(ts.length:Int)):PCall Tryz.prog 146 [p.enc,.i (j:Int),e.enc,.lst 3 (ts.map DTy.enc) none] (tyA (flowT p n e ts)):=by
 refine pcall_of_vc tabOK Tryz.func146 (by kernel_rfl) rfl (pure_cons (DProg.pure _) (pure_cons (.raw _) (pure_cons (pure_enc e) (pure_cons (DTy.pures _) pure_nil)))) (pure_tyA _) (n:=123) rfl (rs:=[.cell 8 42,.tmp 9]) rfl ?_
 rcases(show e.kind=9∨e.kind=11∨e.kind=12∨e.kind=13∨e.kind=10 by omega) with hk|hk|hk|hk|hk
 ·
  have h1:=h9 hk
  obtain⟨t0,ht0⟩:∃ t,ts[0]?=some t:=⟨_,List.getElem?_eq_getElem (by omega)⟩
  obtain⟨t1,ht1⟩:∃ t,ts[1]?=some t:=⟨_,List.getElem?_eq_getElem (by omega)⟩
  have hf:flowT p n e ts=(t0,decide (t0=t1)):=by unfold flowT;rw[if_pos hk,getD_at ht0,getD_at ht1]
  rw[hf]
  repeat' first
   | simp only[go_sem,hk]
   | refine drawC [2] mo (by kernel_rfl) ?_
   | refine elemHave (x:=t0) (by omega) ht0 ?_
   | refine elemHave (x:=t1) (by omega) ht1 ?_
   | exact finTy rfl rfl
 ·
  obtain⟨t0,ht0⟩:∃ t,ts[0]?=some t:=⟨_,List.getElem?_eq_getElem (hlen (by omega))⟩
  obtain⟨a,ha⟩:∃ a,e.arms[0]?=some a:=⟨_,List.getElem?_eq_getElem (h11 hk)⟩
  have hf:flowT p n e ts=(t0,whenT p n e.name a):=by unfold flowT;rw[if_neg (by omega),if_pos hk,getD_at ht0,arms_hd (by simpa using ha)]
  rw[hf]
  unfold whenT armOk
  repeat' first
   | simp only[go_sem,hk]
   | refine drawC [2] mo (by kernel_rfl) ?_
   | refine elemHave (x:=n) (by omega) hj ?_
   | refine elemHave (x:=t0) (by omega) ht0 ?_
   | refine elemHave (x:=a) (by omega) ha ?_
   | (refine pcK_of (decl26 n e.name (by omega)) ?_;generalize decl n e.name=d;obtain⟨d,ok⟩:=d)
   | (refine pcK_of (arm91 p.Enums a) ?_;generalize armF p.Enums a=q;obtain⟨u,v,is⟩:=q)
   | refine gqK_split (fun _=>?_) (fun _=>?_)
   | refine gqK_dec (fun _=>?_) (fun _=>?_)
   | (refine finTy rfl ?_;simp[*];done)
   | (refine finTy rfl ?_;simp[*];exact eq_comm)
 ·
  obtain⟨t0,ht0⟩:∃ t,ts[0]?=some t:=⟨_,List.getElem?_eq_getElem (hlen (by omega))⟩
  have hf:flowT p n e ts=(t0,(decl n e.name).2&&sameT ts&&armsT p.Enums (decl n e.name).1.Ty e.arms):=by unfold flowT;rw[if_neg (by omega),if_neg (by omega),if_pos hk,getD_at ht0]
  rw[hf]
  have hd26:=decl26 n e.name (by omega)
  generalize decl n e.name=d at h12 hd26
  obtain⟨d,ok⟩:=d
  repeat' first
   | simp only[go_sem,hk]
   | refine drawC [2] mo (by kernel_rfl) ?_
   | refine elemHave (x:=n) (by omega) hj ?_
   | refine elemHave (x:=t0) (by omega) ht0 ?_
   | (refine pcK_of hd26 ?_)
   | (refine pcK_of (allX ts) ?_;generalize sameT ts=b;cases b)
   | (refine pcK_of (armsX p.Enums d.Ty e.arms h12) ?_)
   | refine gqK_split (fun _=>?_) (fun _=>?_)
   | exact finTy rfl (by simp[*])
 ·
  have h14:=h13 hk
  have hf:flowT p n e ts=if(callT p e ts).2=true∧(callT p e ts).1.Outs.length=1 then(((callT p e ts).1.Outs.headD zeroD).Ty,true) else(ty0,false):=by unfold flowT;rw[if_neg (by omega),if_neg (by omega),if_neg (by omega),if_pos hk]
  rw[hf]
  have hcX:=callX p e ts h14.1 h14.2 hb
  have hd26:=decl26 n e.name (by omega)
  generalize decl n e.name=d at hd26
  obtain⟨d,dok⟩:=d
  cases hc:(callT p e ts).2 with
  | false =>
   rw[callXT_no hc] at hcX
   rw[if_neg (by rintro⟨h,_⟩;cases h)]
   repeat' first
    | (exfalso;omega)
    | simp only[go_sem]
    | (refine PCall.call hcX ?_)
    | refine brK_dec (fun _=>?_) (fun _=>?_)
    | refine drawC [2] mo (by kernel_rfl) ?_
    | refine elemHave (x:=n) (by omega) hj ?_
    | (refine pcK_of hd26 ?_)
    | exact finTy rfl rfl
  | true =>
   rw[callXT_yes hc] at hcX
   have hfi:¬ findF p e.name<0:=fun h=>by unfold callT at hc;rw[if_pos h] at hc;cases hc
   obtain⟨m,hm⟩:=find_at hfi
   have hcm:(callT p e ts).1=m:=by
    unfold callT at hc ⊢
    rw[if_neg hfi] at hc ⊢
    split at hc
    ·
     cases hc
    ·
     rename_i h1
     rw[if_neg h1,hm];rfl
   rw[hcm]
   generalize findF p e.name=f at hcX hfi hm
   repeat' first
    | (exfalso;omega)
    | simp only[go_sem]
    | (intro _)
    | (refine PCall.call hcX ?_)
    | refine brK_dec (fun _=>?_) (fun _=>?_)
    | refine gK_dec (fun _=>?_) (fun _=>?_)
    | refine drawC [2] mo (by kernel_rfl) ?_
    | refine elemHave (x:=n) (by omega) hj ?_
    | refine elemHave (x:=m) (by omega) hm ?_
    | (refine pcK_of hd26 ?_)
    | refine elemMap (by omega) (by omega) (fun x hx=>?_)
    | (have hz:m.Outs.length=1:=(by omega);have ho:=outs_hd hx;refine finTy rfl ?_;rw[if_pos hz,ho])
    | (have hz:¬ m.Outs.length=1:=(by omega);refine finTy rfl ?_;simp[hz];done)
 ·
  obtain⟨t0,ht0⟩:∃ t,ts[0]?=some t:=⟨_,List.getElem?_eq_getElem (hlen (by omega))⟩
  have hf:flowT p n e ts=(t0,true):=by unfold flowT;rw[if_neg (by omega),if_neg (by omega),if_neg (by omega),if_neg (by omega),getD_at ht0]
  rw[hf]
  repeat' first
   | simp only[go_sem,hk]
   | refine elemHave (x:=t0) (by omega) ht0 ?_
   | exact finTy rfl rfl
theorem plainP (p:DProg) (n:DNode) (e:Ex) (ts:List DTy) (hk:e.kind=5∨e.kind=6∨e.kind=7∨e.kind=14∨e.kind=15∨e.kind=16) (hlen:0<ts.length) (h2:e.kind=6∨e.kind=15→1<ts.length) (h3:e.kind=7∨e.kind=16→2<ts.length):PCall Tryz.prog 223 [plE p n,e.enc,.lst 3 (ts.map DTy.enc) none] (tyA (plainT e ts)):=by
 refine pcall_of_vc tabOK Tryz.func223 (by kernel_rfl) rfl (by repeat' first|exact pure_nil|refine pure_cons ?_ ?_|exact pure_plE _ _|exact pure_enc _|exact DTy.pures _) (pure_tyA _) (n:=111) rfl (rs:=[.cell 6 42,.tmp 7]) rfl ?_
 obtain⟨t0,ht0⟩:∃ t,ts[0]?=some t:=⟨_,List.getElem?_eq_getElem (by omega)⟩
 rcases hk with hk|hk|hk|hk|hk|hk
 ·
  have hf:plainT e ts=unT e.op t0:=by unfold plainT;rw[if_pos hk,getD_at ht0]
  rw[hf]
  repeat' first
   | simp only[go_sem,hk]
   | refine drawC [2] mo (by kernel_rfl) ?_
   | refine elemHave (x:=t0) (by omega) ht0 ?_
   | (refine pcK_of (unP e.op t0) ?_;generalize unT e.op t0=q;obtain⟨t,ok⟩:=q)
   | (refine PCall.call (unP e.op t0) ?_;generalize unT e.op t0=q;obtain⟨t,ok⟩:=q)
   | exact finTy rfl rfl
 ·
  have h2':=h2 (.inl hk)
  obtain⟨t1,ht1⟩:∃ t,ts[1]?=some t:=⟨_,List.getElem?_eq_getElem (by omega)⟩
  have hf:plainT e ts=binT e.op t0 t1:=by unfold plainT;rw[if_neg (by omega),if_pos hk,getD_at ht0,getD_at ht1]
  rw[hf]
  repeat' first
   | simp only[go_sem,hk]
   | refine drawC [2] mo (by kernel_rfl) ?_
   | refine elemHave (x:=t0) (by omega) ht0 ?_
   | refine elemHave (x:=t1) (by omega) ht1 ?_
   | (refine pcK_of (binP e.op t0 t1) ?_;generalize binT e.op t0 t1=q;obtain⟨t,ok⟩:=q)
   | (refine PCall.call (binP e.op t0 t1) ?_;generalize binT e.op t0 t1=q;obtain⟨t,ok⟩:=q)
   | exact finTy rfl rfl
 ·
  have h3':=h3 (.inl hk)
  obtain⟨t1,ht1⟩:∃ t,ts[1]?=some t:=⟨_,List.getElem?_eq_getElem (by omega)⟩
  obtain⟨t2,ht2⟩:∃ t,ts[2]?=some t:=⟨_,List.getElem?_eq_getElem (by omega)⟩
  have hf:plainT e ts=(t1,decide (t0=tyB)&&decide (t1=t2)):=by unfold plainT;rw[if_neg (by omega),if_neg (by omega),if_pos hk,getD_at ht0,getD_at ht1,getD_at ht2]
  rw[hf]
  repeat' first
   | simp only[go_sem,hk]
   | refine drawC [2] mo (by kernel_rfl) ?_
   | refine elemHave (x:=t0) (by omega) ht0 ?_
   | refine elemHave (x:=t1) (by omega) ht1 ?_
   | refine elemHave (x:=t2) (by omega) ht2 ?_
   | (refine pcK_of (truthP t0) ?_)
   | refine gqK_dec (fun _=>?_) (fun _=>?_)
   | exact finTy rfl (by simp[*])
 ·
  have hf:plainT e ts=(⟨t0.Kind,t0.Enum,(ts.length:Int)⟩,sameT ts&&decide (t0.Len=0)):=by unfold plainT;rw[if_neg (by omega),if_neg (by omega),if_neg (by omega),if_pos hk,getD_at ht0]
  rw[hf]
  repeat' first
   | simp only[go_sem,hk]
   | (intro _)
   | refine drawC [2] mo (by kernel_rfl) ?_
   | refine elemHave (x:=t0) (by omega) ht0 ?_
   | (refine pcK_of (sameP ts) ?_;generalize sameT ts=b;cases b)
   | exact finTy rfl (by simp)
 ·
  have h2':=h2 (.inr hk)
  obtain⟨t1,ht1⟩:∃ t,ts[1]?=some t:=⟨_,List.getElem?_eq_getElem (by omega)⟩
  have hf:plainT e ts=(oneT t0,decide (t0.Len>0)&&decide (t1=tyI)):=by unfold plainT;rw[if_neg (by omega),if_neg (by omega),if_neg (by omega),if_neg (by omega),if_pos hk,getD_at ht0,getD_at ht1]
  rw[hf]
  repeat' first
   | simp only[go_sem,hk]
   | refine drawC [2] mo (by kernel_rfl) ?_
   | refine elemHave (x:=t0) (by omega) ht0 ?_
   | refine elemHave (x:=t1) (by omega) ht1 ?_
   | (refine pcK_of (oneP t0) ?_)
   | (refine pcK_of (wholeP t1) ?_)
   | refine gqK_dec (fun _=>?_) (fun _=>?_)
   | exact finTy rfl (by simp[oneT, *])
 ·
  have h3':=h3 (.inr hk)
  obtain⟨t1,ht1⟩:∃ t,ts[1]?=some t:=⟨_,List.getElem?_eq_getElem (by omega)⟩
  obtain⟨t2,ht2⟩:∃ t,ts[2]?=some t:=⟨_,List.getElem?_eq_getElem (by omega)⟩
  have hf:plainT e ts=(t0,decide (t0.Len>0)&&decide (t1=tyI)&&decide (t2=oneT t0)):=by unfold plainT;rw[if_neg (by omega),if_neg (by omega),if_neg (by omega),if_neg (by omega),if_neg (by omega),getD_at ht0,getD_at ht1,getD_at ht2]
  rw[hf]
  unfold oneT
  repeat' first
   | simp only[go_sem,hk]
   | refine drawC [2] mo (by kernel_rfl) ?_
   | refine elemHave (x:=t0) (by omega) ht0 ?_
   | refine elemHave (x:=t1) (by omega) ht1 ?_
   | refine elemHave (x:=t2) (by omega) ht2 ?_
   | (refine pcK_of (oneP t0) ?_)
   | (refine pcK_of (wholeP t1) ?_)
   | refine gqK_dec (fun _=>?_) (fun _=>?_)
   | exact finTy rfl (by simp[*])
abbrev subsA (o:Option (List DTy)):AV:=.tup [.lst 3 ((o.getD []).map DTy.enc) none,.b o.isSome]
theorem pure_subsA (o:Option (List DTy)):Go.Abs.Pure (subsA o):=.tup _ (pure_cons (DTy.pures _) (pure_cons (.raw _) pure_nil))
theorem finS0 {T:TypeId→TI} {rs:List ResultVar} {s:List AV} {h:List Blk} {o:Option (List DTy)} (hr:resAV T s h rs=some [.raw (.slice none 0 0),.b false]) (ho:o=none):Go.Abs.Fin T rs (subsA o) s h:=by
 subst ho
 refine⟨_,hr,false,Weak.tup _ _ rfl (fun i c d hc hd=>?_)⟩
 match i with
 | 0=>(cases hc;cases hd;exact .nil _)
 | 1=>(cases hc;cases hd;exact .refl _)
 | i+2=>simp at hc
theorem finSk {T:TypeId→TI} {rs:List ResultVar} {s:List AV} {h:List Blk} {o:Option (List DTy)} {ts:List DTy} {k:Nat} (hr:resAV T s h rs=some [.lst 3 (ts.map DTy.enc) (some k),.b true]) (ho:o=some ts):Go.Abs.Fin T rs (subsA o) s h:=by
 subst ho
 refine⟨_,hr,false,Weak.tup _ _ rfl (fun i c d hc hd=>?_)⟩
 match i with
 | 0=>(cases hc;cases hd;exact .tok _ _ _)
 | 1=>(cases hc;cases hd;exact .refl _)
 | i+2=>simp at hc
theorem allS_len:∀ {l:List (Option DTy)} {ts:List DTy},allS l=some ts→ts.length=l.length
 | [],ts,h=>by cases h;rfl
 | none::l,ts,h=>by cases h
 | some t::l,ts,h=>by
  rw[allS] at h
  cases hq:allS l with
  | none=>rw[hq] at h;cases h
  | some us=>rw[hq] at h;cases h;simp[allS_len hq]
theorem allS_snoc:∀ {l:List (Option DTy)} {ts:List DTy} (t:DTy),allS l=some ts→allS (l++[some t])=some (ts++[t])
 | [],ts,t,h=>by cases h;rfl
 | none::l,ts,t,h=>by cases h
 | some u::l,ts,t,h=>by
  rw[allS] at h
  cases hq:allS l with
  | none=>rw[hq] at h;cases h
  | some us=>rw[hq] at h;cases h;rw[List.cons_append,allS,allS_snoc t hq];rfl
theorem allS_none:∀ {l:List (Option DTy)},none∈l→allS l=none
 | [],h=>by simp at h
 | none::l,_=>rfl
 | some u::l,h=>by
  rw[allS,allS_none (l:=l) (by simpa using h)]
  rfl
abbrev OfC (p:DProg) (n:DNode) (x:Ex):Prop:=PCall Tryz.prog 174 [plE p n,x.enc] (tyA (headP p n x (ofL p n x.subs)))
theorem subsP (p:DProg) (n:DNode) (e:Ex) (hb:e.subs.length≤200) (ih:∀ x∈e.subs,OfC p n x):PCall Tryz.prog 221 [plE p n,e.enc] (subsA (allS (ofL p n e.subs))):=by
 refine pcall_of_vc tabOK Tryz.func221 (by kernel_rfl) rfl (pure_cons (pure_plE p n) (pure_cons (pure_enc e) pure_nil)) (pure_subsA _) (n:=32) rfl (rs:=[.tmp 4,.tmp 5]) rfl ?_
 rw[ofL_map]
 simp only[go_sem]
 intro _
 refine loop_ghost (ghost_tok 6 42 3 rfl) ?_
 refine loop_fr [4,5,6,8,9,10,14,15,16,17,18,19,20,21,22,23,24,25,26,27,28,29,30] (fun m C hh=>∃(i:Nat) (r:List Blk) (ts:List DTy),i≤e.subs.length∧m=e.subs.length-i∧allS ((e.subs.take i).map (ofT p n))=some ts∧ts.length=i∧C=[(14,.raw (.int .i64 (i:Nat))),(6,.lst 3 (ts.map DTy.enc) (some 2))] ∧
  hh=.cells 204 [.lst 2 (p.Enums.map DEnum.enc) none,.lst 5 (p.Nodes.map DNode.enc) none,.s n.Name,.lst 6 (n.Ins.map DDecl.enc) none,.lst 6 (n.Outs.map DDecl.enc) none,.lst 6 (n.Vars.map DDecl.enc) none,.lst 7 (n.Eqs.map DEq.enc) none]::.cells 72 [.i e.kind,.i e.n,.s e.name,.i e.op,.lst 1 (e.arms.map AV.s) none,.lst 6 (e.subs.map Ex.enc) none]::.tok 42 3 i::r) e.subs.length _ ⟨0,[],[],by omega,by omega,rfl,rfl,rfl,rfl⟩ (.cons rfl (.cons rfl .nil)) ?_
 rintro m C ja hh ⟨i,r,ts,hi,rfl,hA,hl,rfl,rfl⟩
 simp only[go_sem]
 refine brK_dec (fun hlt=>?_) (fun hge=>?_)
 ·
  simp only[go_sem]
  refine elemMap (by omega) (by omega) (fun x hx=>?_)
  have hxm:=List.mem_of_getElem? hx
  have hst:=take_mapS (f:=ofT p n) hx
  have hoT:=ofT_eq p n x
  simp only[go_sem]
  refine PCall.call (ih x hxm) ?_
  generalize headP p n x (ofL p n x.subs)=q at hoT
  obtain⟨t,ok⟩:=q
  cases ok with
  | false =>
   simp only[go_sem]
   exact finS0 rfl (allS_none (List.mem_map.2 ⟨x,hxm,by rw[hoT];rfl⟩))
  | true =>
   simp only[go_sem]
   refine⟨by omega,?_⟩
   exact loopFr _ (by omega) ⟨i+1,_,ts++[t],by omega,rfl,by rw[hst,hoT];exact allS_snoc t hA,by simp[hl],rfl,by rw[hl]⟩ (.next rfl (by omega) (.cons (by simp[slot]) .nil)) rfl
 ·
  rw[List.take_of_length_le (by omega)] at hA
  simp only[go_sem]
  exact finSk rfl hA
theorem delayedP (p:DProg) (n:DNode) (e c x:Ex) (hs:e.subs=[c,x]) (h8:e.kind=8) (hc:okE c) (ih:OfC p n x):PCall Tryz.prog 220 [plE p n,e.enc] (tyA (headP p n e (ofL p n e.subs))):=by
 refine pcall_of_vc tabOK Tryz.func220 (by kernel_rfl) rfl (pure_cons (pure_plE p n) (pure_cons (pure_enc e) pure_nil)) (pure_tyA _) (n:=42) rfl (rs:=[.cell 4 42,.tmp 5]) rfl ?_
 have hf:headP p n e (ofL p n e.subs)=((constT p.Enums c).2.1,(constT p.Enums c).2.2&&decide (ofT p n x=some (constT p.Enums c).2.1)):=by
  unfold headP
  rw[if_neg (by omega),if_neg (by omega),if_pos h8,hs,ofL_map]
  rfl
 have hoT:=ofT_eq p n x
 rw[hf]
 have e0:e.subs[0]?=some c:=by rw[hs];rfl
 have e1:e.subs[1]?=some x:=by rw[hs];rfl
 generalize hq:constT p.Enums c=q
 obtain⟨l,t,ok⟩:=q
 generalize hq2:headP p n x (ofL p n x.subs)=q2 at hoT
 obtain⟨u,is⟩:=q2
 have hcP:=constP p.Enums c hc
 rw[hq] at hcP
 have hx:=ih
 unfold OfC at hx
 rw[hq2] at hx
 repeat' first
  | simp only[go_sem]
  | refine drawC [2] mo (by kernel_rfl) ?_
  | refine elemHave (x:=c) (by omega) e0 ?_
  | refine elemHave (x:=x) (by omega) e1 ?_
  | (refine pcK_of hcP ?_)
  | (refine pcK_of hx ?_)
  | refine gqK_split (fun _=>?_) (fun _=>?_)
  | refine gqK_dec (fun _=>?_) (fun _=>?_)
 all_goals (refine finTy rfl ?_;rw[hoT];first|(simp[opt, *];done)|(simp[opt, *];exact eq_comm))
abbrev progBd (p:DProg):Blk:=.cells 25 [.lst 2 (p.Enums.map DEnum.enc) none,.lst 5 (p.Nodes.map DNode.enc) none]
theorem some37 {p:DProg} {q:DNode→Bool} {g:Nat} {first capt:List AV} {h:List Blk} {K:AV→List Blk→Prop} (hp:∀ x∈p.Nodes,∀(r:List Blk) (K:AV→List Blk→Prop),K (.b (q x)) (h++r)→ACall Tryz.prog g (first++DNode.enc x::capt) (h++r) K)
  (hK:K (.b (p.Nodes.any q)) h):ACall Tryz.prog 238 [p.enc,.fn (.func g) first capt] h K:=by
 refine acall_of_vc tabOK Tryz.func238 (by kernel_rfl) rfl (n:=9) rfl (rs:=[.tmp 4]) rfl ?_
 simp only[go_sem]
 refine containsNo (p:=q) (fun x hx K hK=>hp x hx _ K hK) ?_
 simp only[go_sem]
 exact finH0 _ rfl (.raw _) hK
theorem check39 (p:DProg) (n:DNode) (hn:okNode n) {k:Nat} {h:List Blk} {K:AV→List Blk→Prop} (hk:h[k]?=some (progBd p)) (hK:K (.b (!(nodeF p.Enums.length n))) h):ACall Tryz.prog 240 [n.enc,.ptr k 0] h K:=by
 have hkl:=(List.getElem?_eq_some_iff.1 hk).1
 have hk1:∀ r,(h++r)[k]?=some (.cells 25 [.lst 2 (p.Enums.map DEnum.enc) none,.lst 5 (p.Nodes.map DNode.enc) none]):=fun r=>by rw[List.getElem?_append_left hkl];exact hk
 refine acall_of_vc tabOK Tryz.func240 (by kernel_rfl) rfl (n:=9) rfl (rs:=[.tmp 3]) rfl ?_
 simp only[go_sem,hk1]
 refine PCall.call (rightN p.Enums n hn) ?_
 simp only[go_sem]
 exact finH0 _ rfl (.raw _) hK
theorem check41 (n:DNode) (hl:(allV n).length≤60) {h:List Blk} {K:AV→List Blk→Prop} (hK:K (.b (!(onceN n))) h):ACall Tryz.prog 242 [n.enc] h K:=by
 refine acall_of_vc tabOK Tryz.func242 (by kernel_rfl) rfl (n:=6) rfl (rs:=[.tmp 2]) rfl ?_
 simp only[go_sem]
 refine PCall.call (onceP n hl) ?_
 simp only[go_sem]
 exact finH0 _ rfl (.raw _) hK
theorem great_f (n:DNode) {h:List Blk} {K:AV→List Blk→Prop} (hK:K (.b (greatF n)) h):ACall Tryz.prog 239 [n.enc] h K:=by
 refine PCall.call (greatP n) ?_
 exact hK
theorem okN_len {n:DNode} (h:okNode n):(allV n).length≤60:=by
 have h1:=h.1.1
 have h2:=h.2.1.1
 have h3:=h.2.2.1.1
 simp[allV]
 omega
theorem checkP (p:DProg) (hp:okProg p):PCall Tryz.prog 194 [p.enc] (.i (checkF p)):=by
 have hp6:=hp.2.1
 refine pcall_of_vc tabOK Tryz.func194 (by kernel_rfl) rfl pureL pureI (n:=52) rfl (rs:=[.tmp 2]) rfl ?_
 unfold checkF
 simp only[go_sem]
 refine PCall.call (enumsP p.Enums hp.1) ?_
 generalize enumsF p.Enums=e
 simp only[go_sem]
 refine brK_dec (fun h0=>?_) (fun h0=>?_)
 ·
  simp only[go_sem]
  exact finIq rfl (by rw[if_pos (by simpa using h0)])
 rw[if_neg (by simpa using h0)]
 simp only[go_sem]
 intro _
 refine loop_ghost (ghost_tok 4 9 1 rfl) ?_
 refine loop_fr [4,6,16,17,18,19,20,21,22,23,24,25] (fun m C hh=>∃(i:Nat) (r:List Blk),i≤p.Nodes.length∧m=p.Nodes.length-i∧C=[(16,.raw (.int .i64 (i:Nat))),(4,.lst 1 (((p.Nodes.take i).map DNode.Name).map AV.s) (some 1))]∧hh=progBd p::.tok 9 1 (p.Nodes.take i).length::r) p.Nodes.length _ ⟨0,[],by omega,by omega,rfl,rfl⟩ (.cons rfl (.cons rfl .nil)) ?_
 rintro m C j hh ⟨i,r,hi,rfl,rfl,rfl⟩
 simp only[go_sem]
 refine brK_dec (fun hlt=>?_) (fun hge=>?_)
 ·
  simp only[go_sem]
  refine elemMap (by omega) (by omega) (fun d hd=>?_)
  have hli:(p.Nodes.take i).length=i:=by rw[List.length_take];omega
  have hli2:(p.Nodes.take (i+1)).length=i+1:=by rw[List.length_take];omega
  have hst:=take_mapS (f:=DNode.Name) hd
  try simp only[go_sem]
  refine⟨by simp;omega,?_⟩
  try simp only[go_sem]
  exact loopFr _ (by omega) ⟨i+1,_,by omega,rfl,rfl,by rw[hli2,hli]⟩ (.next rfl (by omega) (.cons (by rw[hst];simp[slot]) .nil)) rfl
 ·
  rw[List.take_of_length_le (by omega)]
  have hany1:p.Nodes.all (nodeF p.Enums.length)=!(p.Nodes.any fun n=>!(nodeF p.Enums.length n)):=List.all_eq_not_any_not
  have hany2:p.Nodes.all onceN=!(p.Nodes.any fun n=>!(onceN n)):=List.all_eq_not_any_not
  rw[hany1,hany2]
  repeat' first
   | (exfalso;omega)
   | simp only[go_sem]
   | (intro _)
   | refine brK_dec (fun _=>?_) (fun _=>?_)
   | refine gK_dec (fun _=>?_) (fun _=>?_)
   | (refine some37 (q:=greatF) (fun x hx r K hK=>great_f x hK) ?_;generalize p.Nodes.any greatF=b;cases b)
   | (refine some37 (q:=fun n=>!(nodeF p.Enums.length n)) (fun x hx r K hK=>check39 p x (hp.2.2 x hx) (k:=0) rfl hK) ?_;generalize (p.Nodes.any fun n=>!(nodeF p.Enums.length n))=b;cases b)
   | (refine some37 (q:=fun n=>!(onceN n)) (fun x hx r K hK=>check41 x (okN_len (hp.2.2 x hx)) hK) ?_;generalize (p.Nodes.any fun n=>!(onceN n))=b;cases b)
   | (refine PCall.callW (once12 (p.Nodes.map DNode.Name)) ⟨.tok _ _ _,trivial⟩ ?_;generalize onceB (p.Nodes.map DNode.Name)=b;cases b)
   | (refine finIq rfl ?_;rw[if_pos (c:=p.Nodes.length=0) (by omega)];done)
   | (refine finIq rfl ?_;(try rw[if_pos (c:=p.Nodes.length=0) (by omega)]);(try rw[if_neg (c:=p.Nodes.length=0) (by omega)]);(try rw[decide_eq_true (p:=p.Nodes.length>6) (by omega)]);(try rw[decide_eq_false (p:=p.Nodes.length>6) (by omega)]);simp;done)
end Go.Proofs.YtpamokpmlplopaaGreatDoor
