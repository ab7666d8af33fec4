/-
  TyU, TyZ, TyOf, ScopeP4, ScopeL, TyK, CkK: put together.
-/
import Derived.Test.YtpamokpmlplopaaGreatDoorUniAm
import Derived.Test.YtpamokpmlplopaaGreatDoorUniAr
import Derived.Test.YtpamokpmlplopaaGreatDoorUniAt
import Derived.Test.YtpamokpmlplopaaGreatDoorUniAu
import Derived.Test.YtpamokpmlplopaaGreatDoorUniAv
import Derived.Test.YtpamokpmlplopaaGreatDoorUniAw
namespace Go.Proofs.YtpamokpmlplopaaGreatDoor
open Go.Abs
set_option maxRecDepth 20000
set_option linter.unusedSimpArgs false
set_option linter.unusedVariables false
set_option maxHeartbeats 1000000
attribute [local irreducible] vc vcOps vcStep vcGuard prK hrK gK gsK brK callK ElemK SeqK BlockK ScopeK OpsK CallK LoopK LoopGo finPost ACall PCall PCallE BCall vqOps vqStep vqGuard qrK heK pcK gqK gqsK QOpsK qcallK DrawK
theorem part_facts {e:Ex} (h:partE e=true):(1≤e.kind∧e.kind≤17)∧(subsE e).1≤e.subs.length∧(e.subs.length:Int)≤(subsE e).2∧(e.kind=11→0<e.arms.length)∧(e.kind=12→0<e.arms.length)∧(e.kind=13→e.n=0∨e.n=1):=by
 obtain⟨h1,h2,_⟩:=partE_len h
 unfold partE at h
 simp only[Bool.and_eq_true,decide_eq_true_eq] at h
 obtain⟨⟨⟨⟨⟨⟨hk,hn⟩,_⟩,ha⟩,_⟩,_⟩,_⟩:=h
 refine⟨hk,h1,h2,fun k=>?_,fun k=>?_,fun k=>?_⟩
 ·
  unfold armsE at ha
  rw[if_pos k] at ha
  simp only[Bool.and_eq_true,decide_eq_true_eq] at ha
  omega
 ·
  unfold armsE at ha
  rw[if_neg (by omega),if_pos k] at ha
  simp only[Bool.and_eq_true,decide_eq_true_eq] at ha
  omega
 ·
  unfold numbersE at hn
  rw[if_neg (by omega),if_neg (by omega),if_neg (by omega),if_pos (.inr k)] at hn
  simp only[Bool.and_eq_true,decide_eq_true_eq] at hn
  exact hn.2
def tyOK (p:DProg) (n:DNode):Prop:=(allV n).length≤60∧∀ nm,(decl n nm).1.Ty.Kind=3→0≤(decl n nm).1.Ty.Enum∧(decl n nm).1.Ty.Enum<p.Enums.length
theorem sub_ok {e x:Ex} (h:∀ y∈parts e,partE y=true) (hx:x∈e.subs):∀ y∈parts x,partE y=true:=fun y hy=>h y (sub_parts hx hy)
theorem sub_okE {e x:Ex} (h:okE e) (hx:x∈e.subs):okE x:=ok_part h (sub_parts hx (self_parts x))
theorem ofP (p:DProg) (n:DNode) (ho:tyOK p n):∀(e:Ex),(∀ y∈parts e,partE y=true)→okE e→OfC p n e:=by
 intro e
 induction e using Ex.ind with
 | _ e ih =>
 intro hp hok
 have hsl:=subs_le hok
 obtain⟨hk,hlo,hhi,ha11,ha12,hn13⟩:=part_facts (hp e (self_parts e))
 have ih':∀ x∈e.subs,OfC p n x:=fun x hx=>ih x hx (sub_ok hp hx) (sub_okE hok hx)
 unfold OfC
 refine pcall_of_vc tabOK Tryz.func174 (by kernel_rfl) rfl (pure_cons (pure_plE p n) (pure_cons (pure_enc e) pure_nil)) (pure_tyA _) (n:=82) rfl (rs:=[.cell 4 42,.tmp 5]) rfl ?_
 by_cases h124:e.kind=1∨e.kind=2∨e.kind=4
 ·
  have hf:headP p n e (ofL p n e.subs)=((constT p.Enums e).2.1,(constT p.Enums e).2.2):=by unfold headP;rw[if_pos h124]
  rw[hf]
  have hc:=constP p.Enums e hok
  generalize constT p.Enums e=q at hc
  obtain⟨l,t,ok⟩:=q
  repeat' first
   | (exfalso;omega)
   | simp only[go_sem]
   | refine brK_dec (fun _=>?_) (fun _=>?_)
   | (refine PCall.call hc ?_)
   | exact finTy rfl rfl
 by_cases h3:e.kind=3
 ·
  have hf:headP p n e (ofL p n e.subs)=((decl n e.name).1.Ty,(decl n e.name).2):=by unfold headP;rw[if_neg h124,if_pos h3]
  rw[hf]
  have hc:=decl25 n e.name (by have:=ho.1;omega)
  generalize decl n e.name=q at hc
  obtain⟨d,ok⟩:=q
  repeat' first
   | (exfalso;omega)
   | simp only[go_sem]
   | refine brK_dec (fun _=>?_) (fun _=>?_)
   | (refine PCall.call hc ?_)
   | exact finTy rfl rfl
 by_cases h8:e.kind=8
 ·
  have hs2:(subsE e).1=2∧(subsE e).2=2:=by simp[subsE,h8]
  match hs:e.subs,(show e.subs.length=2 by omega) with
  | [c,x],_ =>
   have hd:=delayedP p n e c x hs h8 (sub_okE hok (by rw[hs];simp)) (ih' x (by rw[hs];simp))
   rw[hs] at hd
   generalize headP p n e (ofL p n [c,x])=q at hd
   obtain⟨t,ok⟩:=q
   repeat' first
    | (exfalso;omega)
    | simp only[go_sem]
    | refine brK_dec (fun _=>?_) (fun _=>?_)
    | (refine PCall.call hd ?_)
    | exact finTy rfl rfl
 by_cases h17:e.kind=17
 ·
  have hf:headP p n e (ofL p n e.subs)=(ty0,false):=by unfold headP;rw[if_neg h124,if_neg h3,if_neg h8,if_pos h17]
  rw[hf]
  repeat' first
   | (exfalso;omega)
   | simp only[go_sem]
   | refine brK_dec (fun _=>?_) (fun _=>?_)
   | exact finTy rfl rfl
 have hf0:allS (ofL p n e.subs)=none→headP p n e (ofL p n e.subs)=(ty0,false):=fun h=>by
  unfold headP;rw[if_neg h124,if_neg h3,if_neg h8,if_neg h17,h]
 have hf1:∀ ts,allS (ofL p n e.subs)=some ts→headP p n e (ofL p n e.subs)=if 9≤e.kind∧e.kind≤13 then flowT p n e ts else plainT e ts:=fun ts h=>by
  unfold headP;rw[if_neg h124,if_neg h3,if_neg h8,if_neg h17,h]
 have hsub:=subsP p n e hsl ih'
 have hlen:∀ ts,allS (ofL p n e.subs)=some ts→ts.length=e.subs.length:=fun ts h=>by rw[allS_len h,ofL_map,List.length_map]
 generalize headP p n e (ofL p n e.subs)=HH at hf0 hf1 ⊢
 generalize allS (ofL p n e.subs)=S at hsub hlen hf0 hf1
 cases S with
 | none =>
  rw[hf0 rfl]
  have hsub:PCall Tryz.prog 221 [plE p n,e.enc] (.tup [.lst 3 [] none,.b false]):=hsub
  repeat' first
   | (exfalso;omega)
   | simp only[go_sem]
   | refine brK_dec (fun _=>?_) (fun _=>?_)
   | (refine PCall.call hsub ?_)
   | exact finTy rfl rfl
 | some ts =>
  have hl:=hlen ts rfl
  have hsub:PCall Tryz.prog 221 [plE p n,e.enc] (.tup [.lst 3 (ts.map DTy.enc) none,.b true]):=hsub
  rw[hf1 ts rfl]
  by_cases hfl:9≤e.kind∧e.kind≤13
  ·
   rw[if_pos hfl]
   have hfp:=flowP p n ho.1 e ts hfl
    (fun h=>by
     have:1≤(subsE e).1:=by
      rcases(show e.kind=9∨e.kind=10∨e.kind=11∨e.kind=12 by omega) with k|k|k|k
      ·
       simp[subsE,k]
      ·
       simp[subsE,k]
      ·
       simp[subsE,k]
      ·
       have:=ha12 k;simp[subsE,k];omega
     omega)
    (fun h=>by have:(subsE e).1=2:=by simp[subsE,h]
               omega) ha11 (ho.2 e.name)
    (fun h=>⟨hn13 h,by have:(subsE e).1=e.n:=by simp[subsE,h]
                       omega⟩)
   generalize flowT p n e ts=q at hfp
   obtain⟨t,ok⟩:=q
   repeat' first
    | (exfalso;omega)
    | simp only[go_sem]
    | refine brK_dec (fun _=>?_) (fun _=>?_)
    | (refine PCall.call hsub ?_)
    | (refine PCall.call hfp ?_)
    | exact finTy rfl rfl
  ·
   rw[if_neg hfl]
   have hk2:e.kind=5∨e.kind=6∨e.kind=7∨e.kind=14∨e.kind=15∨e.kind=16:=by omega
   have hpp:=plainP p n e ts hk2
    (by
     have:1≤(subsE e).1:=by rcases hk2 with k|k|k|k|k|k<;>simp[subsE,k]
     omega)
    (fun h=>by
     have:(subsE e).1=2:=by rcases h with k|k<;>simp[subsE,k]
     omega)
    (fun h=>by
     have:(subsE e).1=3:=by rcases h with k|k<;>simp[subsE,k]
     omega)
   generalize plainT e ts=q at hpp
   obtain⟨t,ok⟩:=q
   repeat' first
    | (exfalso;omega)
    | simp only[go_sem]
    | refine brK_dec (fun _=>?_) (fun _=>?_)
    | (refine PCall.call hsub ?_)
    | (refine PCall.call hpp ?_)
    | exact finTy rfl rfl
def normT (o:Option DTy):DTy × Bool:=(o.getD ty0,o.isSome)
theorem normT_opt (q:DTy × Bool):normT (opt q)=if q.2=true then q else(ty0,false):=by
 obtain⟨t,ok⟩:=q
 cases ok<;>rfl
noncomputable def headX (p:DProg) (n:DNode) (e:Ex) (S:List (Option DTy)):DTy × Bool :=
 if e.kind=8 then((normT (S.getD 1 none)).1,(constT p.Enums (e.subs.headD e)).2.2&&decide (S.getD 1 none=some (constT p.Enums (e.subs.headD e)).2.1)) else headP p n e S
theorem opt_headX (p:DProg) (n:DNode) (e:Ex) (S:List (Option DTy)):opt (headX p n e S)=opt (headP p n e S):=by
 unfold headX
 by_cases h8:e.kind=8
 ·
  rw[if_pos h8]
  unfold headP
  rw[if_neg (by omega),if_neg (by omega),if_pos h8]
  generalize constT p.Enums (e.subs.headD e)=c
  obtain⟨l,t,ok⟩:=c
  by_cases h:S.getD 1 none=some t
  ·
   rw[h];cases ok<;>simp[opt,normT]
  ·
   rw[decide_eq_false h];cases ok<;>simp[opt]
 ·
  rw[if_neg h8]
abbrev OfXC (p:DProg) (j:Nat) (n:DNode) (x:Ex):Prop:=PCall Tryz.prog 66 [p.enc,.i (j:Int),x.enc] (tyA (normT (ofT p n x)))
theorem subsX (p:DProg) (j:Nat) (n:DNode) (e:Ex) (hb:e.subs.length≤200) (ih:∀ x∈e.subs,OfXC p j n x):PCall Tryz.prog 145 [p.enc,.i (j:Int),e.enc] (subsA (allS (ofL p n e.subs))):=by
 refine pcall_of_vc tabOK Tryz.func145 (by kernel_rfl) rfl (pure_cons (DProg.pure _) (pure_cons (.raw _) (pure_cons (pure_enc e) pure_nil))) (pure_subsA _) (n:=38) rfl (rs:=[.tmp 6,.tmp 7]) rfl ?_
 rw[ofL_map]
 simp only[go_sem]
 refine loop_fr [6,7,8,9,10,11,13,14,15,16,17,18,19,20,21,22,23,24,25,26,27,28,29,30,31,32,33,34,35,36] (fun m C hh=>∃(i:Nat) (r:List Blk) (ts:List DTy),i≤e.subs.length∧m=e.subs.length-i∧allS ((e.subs.take i).map (ofT p n))=some ts∧ts.length=i∧C=[(9,.raw (.int .i64 (i:Nat))),(8,.lst 3 (ts.map DTy.enc) (some 2))] ∧
  hh=.cells 25 [.lst 2 (p.Enums.map DEnum.enc) none,.lst 5 (p.Nodes.map DNode.enc) none]::.cells 72 [.i e.kind,.i e.n,.s e.name,.i e.op,.lst 1 (e.arms.map AV.s) none,.lst 6 (e.subs.map Ex.enc) none]::.tok 42 3 i::r) e.subs.length _ ⟨0,[],[],by omega,by omega,rfl,rfl,rfl,rfl⟩ (.cons rfl (.cons rfl .nil)) ?_
 rintro m C ja hh ⟨i,r,ts,hi,rfl,hA,hl,rfl,rfl⟩
 simp only[go_sem]
 intro _
 refine brK_dec (fun hlt=>?_) (fun hge=>?_)
 ·
  simp only[go_sem]
  refine drawK mo (by kernel_rfl) ?_
  simp only[go_sem]
  refine elemMap (by omega) (by omega) (fun x hx=>?_)
  have hxm:=List.mem_of_getElem? hx
  have hst:=take_mapS (f:=ofT p n) hx
  have hx':=ih x hxm
  unfold OfXC at hx'
  generalize hoT:ofT p n x=o at hst hx'
  cases o with
  | none =>
   have hx':PCall Tryz.prog 66 [p.enc,.i (j:Int),x.enc] (tyA (ty0,false)):=hx'
   simp only[go_sem]
   refine pcK_of hx' ?_
   simp only[go_sem]
   exact finS0 rfl (allS_none (List.mem_map.2 ⟨x,hxm,hoT⟩))
  | some t =>
   have hx':PCall Tryz.prog 66 [p.enc,.i (j:Int),x.enc] (tyA (t,true)):=hx'
   simp only[go_sem]
   refine pcK_of hx' ?_
   simp only[go_sem]
   refine⟨by omega,?_⟩
   exact loopFr _ (by omega) ⟨i+1,_,ts++[t],by omega,rfl,by rw[hst];exact allS_snoc t hA,by simp[hl],rfl,by rw[hl]⟩ (.next rfl (by omega) (.cons (by simp[slot]) .nil)) rfl
 ·
  rw[List.take_of_length_le (by omega)] at hA
  simp only[go_sem]
  exact finSk rfl hA
theorem ofX (p:DProg) (j:Nat) (n:DNode) (hj:p.Nodes[j]?=some n) (ho:tyOK p n) (e:Ex) (hp:∀ y∈parts e,partE y=true) (hok:okE e) (ih:∀ x∈e.subs,OfXC p j n x):PCall Tryz.prog 107 [p.enc,.i (j:Int),e.enc] (tyA (headX p n e (ofL p n e.subs))):=by
 have hsl:=subs_le hok
 obtain⟨hk,hlo,hhi,ha11,ha12,hn13⟩:=part_facts (hp e (self_parts e))
 refine pcall_of_vc tabOK Tryz.func107 (by kernel_rfl) rfl (pure_cons (DProg.pure _) (pure_cons (.raw _) (pure_cons (pure_enc e) pure_nil))) (pure_tyA _) (n:=118) rfl (rs:=[.cell 6 42,.tmp 7]) rfl ?_
 by_cases h8:e.kind=8
 ·
  have hs2:(subsE e).1=2∧(subsE e).2=2:=by simp[subsE,h8]
  match hs:e.subs,(show e.subs.length=2 by omega) with
  | [c,x],_ =>
   have hf:headX p n e (ofL p n [c,x])=((normT (ofT p n x)).1,(constT p.Enums c).2.2&&decide (ofT p n x=some (constT p.Enums c).2.1)):=by
    unfold headX
    rw[if_pos h8,hs,ofL_map]
    rfl
   rw[hf]
   have e0:e.subs[0]?=some c:=by rw[hs];rfl
   have e1:e.subs[1]?=some x:=by rw[hs];rfl
   have hcX:=constX p.Enums c (sub_okE hok (by rw[hs];simp))
   generalize constT p.Enums c=q at hcX
   obtain⟨l,t,ok⟩:=q
   have hx:=ih x (by rw[hs];simp)
   unfold OfXC at hx
   generalize ofT p n x=o at hx
   cases o with
   | none =>
    have hx:PCall Tryz.prog 66 [p.enc,.i (j:Int),x.enc] (tyA (ty0,false)):=hx
    repeat' first
     | (exfalso;omega)
     | simp only[go_sem]
     | refine brK_dec (fun _=>?_) (fun _=>?_)
     | refine drawC [2] mo (by kernel_rfl) ?_
     | refine elemHave (x:=c) (by omega) e0 ?_
     | refine elemHave (x:=x) (by omega) e1 ?_
     | (refine pcK_of hcX ?_)
     | (refine pcK_of hx ?_)
     | refine gqK_split (fun _=>?_) (fun _=>?_)
     | refine gqK_dec (fun _=>?_) (fun _=>?_)
     | (refine finTy rfl ?_;simp[normT, *];done)
   | some u =>
    have hx:PCall Tryz.prog 66 [p.enc,.i (j:Int),x.enc] (tyA (u,true)):=hx
    repeat' first
     | (exfalso;omega)
     | simp only[go_sem]
     | refine brK_dec (fun _=>?_) (fun _=>?_)
     | refine drawC [2] mo (by kernel_rfl) ?_
     | refine elemHave (x:=c) (by omega) e0 ?_
     | refine elemHave (x:=x) (by omega) e1 ?_
     | (refine pcK_of hcX ?_)
     | (refine pcK_of hx ?_)
     | refine gqK_split (fun _=>?_) (fun _=>?_)
     | refine gqK_dec (fun _=>?_) (fun _=>?_)
     | (refine finTy rfl ?_;simp[normT, *];done)
     | (refine finTy rfl ?_;simp[normT, *];exact eq_comm)
 have hhx:headX p n e (ofL p n e.subs)=headP p n e (ofL p n e.subs):=by unfold headX;rw[if_neg h8]
 rw[hhx]
 by_cases h124:e.kind=1∨e.kind=2∨e.kind=4
 ·
  have hf:headP p n e (ofL p n e.subs)=((constT p.Enums e).2.1,(constT p.Enums e).2.2):=by unfold headP;rw[if_pos h124]
  rw[hf]
  have hc:=constX p.Enums e hok
  generalize constT p.Enums e=q at hc
  obtain⟨l,t,ok⟩:=q
  repeat' first
   | (exfalso;omega)
   | simp only[go_sem]
   | refine brK_dec (fun _=>?_) (fun _=>?_)
   | (refine PCall.call hc ?_)
   | exact finTy rfl rfl
 by_cases h3:e.kind=3
 ·
  have hf:headP p n e (ofL p n e.subs)=((decl n e.name).1.Ty,(decl n e.name).2):=by unfold headP;rw[if_neg h124,if_pos h3]
  rw[hf]
  have hc:=decl26 n e.name (by have:=ho.1;omega)
  generalize decl n e.name=q at hc
  obtain⟨d,ok⟩:=q
  repeat' first
   | (exfalso;omega)
   | simp only[go_sem]
   | refine brK_dec (fun _=>?_) (fun _=>?_)
   | refine drawC [2] mo (by kernel_rfl) ?_
   | refine elemHave (x:=n) (by omega) hj ?_
   | (refine pcK_of hc ?_)
   | exact finTy rfl rfl
 by_cases h17:e.kind=17
 ·
  have hf:headP p n e (ofL p n e.subs)=(ty0,false):=by unfold headP;rw[if_neg h124,if_neg h3,if_neg h8,if_pos h17]
  rw[hf]
  repeat' first
   | (exfalso;omega)
   | simp only[go_sem]
   | refine brK_dec (fun _=>?_) (fun _=>?_)
   | exact finTy rfl rfl
 have hf0:allS (ofL p n e.subs)=none→headP p n e (ofL p n e.subs)=(ty0,false):=fun h=>by
  unfold headP;rw[if_neg h124,if_neg h3,if_neg h8,if_neg h17,h]
 have hf1:∀ ts,allS (ofL p n e.subs)=some ts→headP p n e (ofL p n e.subs)=if 9≤e.kind∧e.kind≤13 then flowT p n e ts else plainT e ts:=fun ts h=>by
  unfold headP;rw[if_neg h124,if_neg h3,if_neg h8,if_neg h17,h]
 have hsub:=subsX p j n e hsl ih
 have hlen:∀ ts,allS (ofL p n e.subs)=some ts→ts.length=e.subs.length:=fun ts h=>by rw[allS_len h,ofL_map,List.length_map]
 clear hhx
 generalize headP p n e (ofL p n e.subs)=HH at hf0 hf1 ⊢
 generalize allS (ofL p n e.subs)=S at hsub hlen hf0 hf1
 cases S with
 | none =>
  rw[hf0 rfl]
  have hsub:PCall Tryz.prog 145 [p.enc,.i (j:Int),e.enc] (.tup [.lst 3 [] none,.b false]):=hsub
  repeat' first
   | (exfalso;omega)
   | simp only[go_sem]
   | refine brK_dec (fun _=>?_) (fun _=>?_)
   | (refine PCall.call hsub ?_)
   | exact finTy rfl rfl
 | some ts =>
  have hl:=hlen ts rfl
  have hsub:PCall Tryz.prog 145 [p.enc,.i (j:Int),e.enc] (.tup [.lst 3 (ts.map DTy.enc) none,.b true]):=hsub
  rw[hf1 ts rfl]
  by_cases hfl:9≤e.kind∧e.kind≤13
  ·
   rw[if_pos hfl]
   have hfp:=flowX p j n hj ho.1 e ts (by omega) hfl
    (fun h=>by
     have:1≤(subsE e).1:=by
      rcases(show e.kind=9∨e.kind=10∨e.kind=11∨e.kind=12 by omega) with k|k|k|k
      ·
       simp[subsE,k]
      ·
       simp[subsE,k]
      ·
       simp[subsE,k]
      ·
       have:=ha12 k;simp[subsE,k];omega
     omega)
    (fun h=>by have:(subsE e).1=2:=by simp[subsE,h]
               omega) ha11 (ho.2 e.name)
    (fun h=>⟨hn13 h,by have:(subsE e).1=e.n:=by simp[subsE,h]
                       omega⟩)
   generalize flowT p n e ts=q at hfp
   obtain⟨t,ok⟩:=q
   repeat' first
    | (exfalso;omega)
    | simp only[go_sem]
    | refine brK_dec (fun _=>?_) (fun _=>?_)
    | refine gK_dec (fun _=>?_) (fun _=>?_)
    | (refine PCall.call hsub ?_)
    | (refine PCall.call hfp ?_)
    | exact finTy rfl rfl
  ·
   rw[if_neg hfl]
   have hk2:e.kind=5∨e.kind=6∨e.kind=7∨e.kind=14∨e.kind=15∨e.kind=16:=by omega
   have hpp:=plainX p n e ts hk2
    (by
     have:1≤(subsE e).1:=by rcases hk2 with k|k|k|k|k|k<;>simp[subsE,k]
     omega)
    (fun h=>by
     have:(subsE e).1=2:=by rcases h with k|k<;>simp[subsE,k]
     omega)
    (fun h=>by
     have:(subsE e).1=3:=by rcases h with k|k<;>simp[subsE,k]
     omega)
   generalize plainT e ts=q at hpp
   obtain⟨t,ok⟩:=q
   repeat' first
    | (exfalso;omega)
    | simp only[go_sem]
    | refine brK_dec (fun _=>?_) (fun _=>?_)
    | refine gK_dec (fun _=>?_) (fun _=>?_)
    | (refine PCall.call hsub ?_)
    | (refine PCall.call hpp ?_)
    | exact finTy rfl rfl
theorem OfXj (p:DProg) (j:Nat) (n:DNode) (hj:p.Nodes[j]?=some n) (ho:tyOK p n):∀(e:Ex),(∀ y∈parts e,partE y=true)→okE e→OfXC p j n e:=by
 intro e
 induction e using Ex.ind with
 | _ e ih =>
 intro hp hok
 have hjl:j<p.Nodes.length:=(List.getElem?_eq_some_iff.1 hj).1
 have hof:=ofX p j n hj ho e hp hok (fun x hx=>ih x hx (sub_ok hp hx) (sub_okE hok hx))
 unfold OfXC
 rw[ofT_eq,← opt_headX,normT_opt]
 refine pcall_of_vc tabOK Tryz.func66 (by kernel_rfl) rfl (pure_cons (DProg.pure _) (pure_cons (.raw _) (pure_cons (pure_enc e) pure_nil))) (pure_tyA _) (n:=31) rfl (rs:=[.cell 6 42,.tmp 7]) rfl ?_
 generalize headX p n e (ofL p n e.subs)=q at hof
 obtain⟨t,ok⟩:=q
 cases ok
 all_goals
  repeat' first
   | (exfalso;omega)
   | simp only[go_sem]
   | (intro _)
   | refine brK_dec (fun _=>?_) (fun _=>?_)
   | refine gK_dec (fun _=>?_) (fun _=>?_)
   | (refine PCall.call hof ?_)
   | exact finTy rfl rfl
theorem check_nodes {p:DProg} (h:checkF p=0):p.Nodes.all (nodeF p.Enums.length)=true:=by
 unfold checkF at h
 split at h
 ·
  rename_i h0;exact absurd h h0
 ·
  split at h
  ·
   omega
  ·
   split at h
   ·
    omega
   ·
    split at h
    ·
     assumption
    ·
     omega
theorem declF_mem (nm:ByteArray):∀ l:List DDecl,(declF nm l).1∈l∨(declF nm l).1=zeroD
 | []=>.inr rfl
 | d::l=>by
  rw[declF]
  split
  ·
   exact .inl List.mem_cons_self
  ·
   rcases declF_mem nm l with h|h
   ·
    exact .inl (List.mem_cons_of_mem _ h)
   ·
    exact .inr h
theorem tyOK_of {p:DProg} (hp:okProg p) (h:checkF p=0):∀ n∈p.Nodes,tyOK p n:=by
 intro n hn
 have h0:=hp.2.2 n hn
 have h1:=h0.1.1
 have h2:=h0.2.1.1
 have h3:=h0.2.2.1.1
 refine⟨by simp[allV];omega,fun nm hk=>?_⟩
 have hnf:=List.all_eq_true.1 (check_nodes h) n hn
 unfold nodeF at hnf
 simp only[Bool.and_eq_true] at hnf
 rcases declF_mem nm (allV n) with hm|hm
 ·
  have hd:=List.all_eq_true.1 hnf.1.1.1 _ hm
  unfold declaredF at hd
  simp only[Bool.and_eq_true] at hd
  have hr:=hd.1.2
  unfold rightTyF at hr
  have hr:=of_decide_eq_true hr
  have hk':(declF nm (allV n)).1.Ty.Kind=3:=hk
  show 0≤(declF nm (allV n)).1.Ty.Enum∧(declF nm (allV n)).1.Ty.Enum<p.Enums.length
  omega
 ·
  have hk':(declF nm (allV n)).1.Ty.Kind=3:=hk
  rw[hm] at hk'
  cases hk'
def ofN0 (o:Option (DTy × Bool)):DTy × Bool:=o.getD (ty0,false)
noncomputable def ofN (p:DProg) (k:Int) (e:Ex):DTy × Bool:=if k<0 then(ty0,false) else ofN0 (p.Nodes[k.toNat]?.map fun n=>normT (ofT p n e))
theorem OfPk (p:DProg) (k:Int) (e:Ex) (hty:∀ n∈p.Nodes,tyOK p n) (hp:∀ y∈parts e,partE y=true) (hok:okE e):PCall Tryz.prog 138 [p.enc,.i k,e.enc] (tyA (ofN p k e)):=by
 refine pcall_of_vc tabOK Tryz.func138 (by kernel_rfl) rfl (pure_cons (DProg.pure _) (pure_cons (.raw _) (pure_cons (pure_enc e) pure_nil))) (pure_tyA _) (n:=36) rfl (rs:=[.cell 6 42,.tmp 7]) rfl ?_
 by_cases hk:k<0
 ·
  have hf:ofN p k e=(ty0,false):=by unfold ofN;rw[if_pos hk]
  rw[hf]
  repeat' first
   | (exfalso;omega)
   | simp only[go_sem]
   | (intro _)
   | refine brK_dec (fun _=>?_) (fun _=>?_)
   | refine gK_dec (fun _=>?_) (fun _=>?_)
   | exact finTy rfl rfl
 ·
  cases hn:p.Nodes[k.toNat]? with
  | none =>
   have hl:p.Nodes.length≤k.toNat:=List.getElem?_eq_none_iff.1 hn
   have hf:ofN p k e=(ty0,false):=by unfold ofN;rw[if_neg hk,hn];rfl
   rw[hf]
   repeat' first
    | (exfalso;omega)
    | simp only[go_sem]
    | (intro _)
    | refine brK_dec (fun _=>?_) (fun _=>?_)
    | refine gK_dec (fun _=>?_) (fun _=>?_)
    | exact finTy rfl rfl
  | some n =>
   have hl:k.toNat<p.Nodes.length:=(List.getElem?_eq_some_iff.1 hn).1
   have hf:ofN p k e=normT (ofT p n e):=by unfold ofN;rw[if_neg hk,hn];rfl
   have hof:=ofP p n (hty n (List.mem_of_getElem? hn)) e hp hok
   unfold OfC at hof
   rw[hf,ofT_eq,normT_opt]
   generalize headP p n e (ofL p n e.subs)=q at hof
   obtain⟨t,ok⟩:=q
   cases ok
   all_goals
    repeat' first
     | (exfalso;omega)
     | simp only[go_sem]
     | (intro _)
     | refine brK_dec (fun _=>?_) (fun _=>?_)
     | refine gK_dec (fun _=>?_) (fun _=>?_)
     | refine drawK mo (by kernel_rfl) ?_
     | refine elemHave (x:=n) (by omega) hn ?_
     | (refine pcK_of hof ?_)
     | exact finTy rfl rfl
theorem OfXk (p:DProg) (k:Int) (e:Ex) (hty:∀ n∈p.Nodes,tyOK p n) (hp:∀ y∈parts e,partE y=true) (hok:okE e):PCall Tryz.prog 66 [p.enc,.i k,e.enc] (tyA (ofN p k e)):=by
 by_cases hk:k<0
 ·
  refine pcall_of_vc tabOK Tryz.func66 (by kernel_rfl) rfl (pure_cons (DProg.pure _) (pure_cons (.raw _) (pure_cons (pure_enc e) pure_nil))) (pure_tyA _) (n:=31) rfl (rs:=[.cell 6 42,.tmp 7]) rfl ?_
  have hf:ofN p k e=(ty0,false):=by unfold ofN;rw[if_pos hk]
  rw[hf]
  repeat' first
   | (exfalso;omega)
   | simp only[go_sem]
   | (intro _)
   | refine brK_dec (fun _=>?_) (fun _=>?_)
   | refine gK_dec (fun _=>?_) (fun _=>?_)
   | exact finTy rfl rfl
 ·
  cases hn:p.Nodes[k.toNat]? with
  | none =>
   refine pcall_of_vc tabOK Tryz.func66 (by kernel_rfl) rfl (pure_cons (DProg.pure _) (pure_cons (.raw _) (pure_cons (pure_enc e) pure_nil))) (pure_tyA _) (n:=31) rfl (rs:=[.cell 6 42,.tmp 7]) rfl ?_
   have hl:p.Nodes.length≤k.toNat:=List.getElem?_eq_none_iff.1 hn
   have hf:ofN p k e=(ty0,false):=by unfold ofN;rw[if_neg hk,hn];rfl
   rw[hf]
   repeat' first
    | (exfalso;omega)
    | simp only[go_sem]
    | (intro _)
    | refine brK_dec (fun _=>?_) (fun _=>?_)
    | refine gK_dec (fun _=>?_) (fun _=>?_)
    | exact finTy rfl rfl
  | some n =>
   have hf:ofN p k e=normT (ofT p n e):=by unfold ofN;rw[if_neg hk,hn];rfl
   have h:=OfXj p k.toNat n hn (hty n (List.mem_of_getElem? hn)) e hp hok
   unfold OfXC at h
   rw[hf,show k=((k.toNat:Nat):Int) by omega]
   exact h
theorem right_parts {e:Ex} (h:rightE e=true):∀ y∈parts e,partE y=true:=by
 unfold rightE at h
 simp only[Bool.and_eq_true] at h
 exact fun y hy=>List.all_eq_true.1 h.2 y hy
theorem any_next {α:Type} {l:List α} {i:Nat} {x:α} (f:α→Bool) (hx:l[i]?=some x):(l.take (i+1)).any f=((l.take i).any f || f x):=by
 obtain⟨hi,rfl⟩:=List.getElem?_eq_some_iff.1 hx
 rw[List.take_succ_eq_append_getElem hi,List.any_append]
 simp
def nmD (l:List DDecl) (s:ByteArray):Bool:=l.any fun d=>decide (d.Name=s)
theorem nmD_next {l:List DDecl} {i:Nat} {x:DDecl} (hx:l[i]?=some x) (s:ByteArray):nmD (l.take (i+1)) s=(nmD (l.take i) s || decide (x.Name=s)):=any_next _ hx
def gOpen (l m:List DDecl) (s:ByteArray):Nat:=if nmD l s=true then 1 else if nmD m s=true then 2 else 0
theorem gOpen_end (n:DNode) (s:ByteArray):gOpen n.Ins (n.Outs++n.Vars) s=knF n [] s:=by
 unfold gOpen knF inF nmD memB
 simp
theorem open_free {f:Value→Option AV} {W:List DDecl} {i:Nat} {d:DDecl} (hM:MapN f (gOpen [] (W.take i))) (hd:W[i]?=some d):MapN (mput f (.string d.Name) (.raw (.int .i64 2))) (gOpen [] (W.take (i+1))):=by
 refine hM.put d.Name 2 _ ?_ (fun s hs=>?_)
 ·
  unfold gOpen;rw[nmD_next hd];simp[nmD]
 ·
  have:¬ d.Name=s:=fun e=>hs e.symm
  unfold gOpen;rw[nmD_next hd];simp[this]
theorem open_in {f:Value→Option AV} {L W:List DDecl} {i:Nat} {d:DDecl} (hM:MapN f (gOpen (L.take i) W)) (hd:L[i]?=some d):MapN (mput f (.string d.Name) (.raw (.int .i64 1))) (gOpen (L.take (i+1)) W):=by
 refine hM.put d.Name 1 _ ?_ (fun s hs=>?_)
 ·
  unfold gOpen;rw[nmD_next hd];simp
 ·
  have:¬ d.Name=s:=fun e=>hs e.symm
  unfold gOpen;rw[nmD_next hd];simp[this]
theorem snoc3 {α:Type} (h:List α) (a b c:α):h++[a,b,c]=(h++[a])++[b,c]:=by simp
theorem open48 {p:DProg} {j:Nat} {n:DNode} (hj:p.Nodes[j]?=some n) (hn:okNode n) {h:List Blk} {K:AV→List Blk→Prop} (hK:∀ A c f r,A=h++[progBd p]→MapN f (knF n [])→K (.ptr (A.length+1) 0) (HS A p (j:Int) c f r)):ACall Tryz.prog 195 [p.enc,.i (j:Int)] h K:=by
 have hh1:=hn.1.1
 have hh2:=hn.2.1.1
 have hh3:=hn.2.2.1.1
 have hL:[n.Outs,n.Vars].flatten=n.Outs++n.Vars:=by simp
 have hll:(n.Outs++n.Vars).length≤60:=by simp;omega
 refine acallK_of_vc tabOK Tryz.func195 (by kernel_rfl) rfl (n:=51) rfl (rs:=[.tmp 4]) rfl ?_
 simp only[go_sem]
 rw[snoc3]
 obtain⟨A,hA⟩:∃ A,A=h++[progBd p]:=⟨_,rfl⟩
 rw[← hA]
 have hl1:h.length+1=A.length:=by rw[hA];simp
 have hl2:h.length+2=A.length+1:=by omega
 rw[hl1,hl2]
 refine node87 hj (fun r1=>?_)
 simp only[go_sem]
 simp only[DNode.enc_eq]
 simp only[go_sem]
 refine node87 hj (fun r2=>?_)
 simp only[go_sem]
 simp only[DNode.enc_eq]
 simp only[go_sem]
 refine PCall.callW (concatD [n.Outs,n.Vars] (by show([n.Outs,n.Vars].flatten).length≤_;rw[hL];omega)) ⟨.tok _ _ _,trivial⟩ ?_
 rw[hL]
 generalize hW:n.Outs++n.Vars=W at hll
 simp only[go_sem]
 intro _
 refine loop_fr [7,24,25,26,27,28,29,30,31,32,33,34] (fun m C hh=>∃(i c':Nat) (f':Value→Option AV) (r':List Blk),i≤W.length∧m=W.length-i∧MapN f' (gOpen [] (W.take i))∧C=[(24,.raw (.int .i64 (i:Nat)))]∧hh=HS A p (j:Int) c' f' r') W.length _ ⟨0,0,_,_,by omega,by omega,MapN.nil.cast (fun s=>by simp[gOpen,nmD]),rfl,rfl⟩ (.cons rfl .nil) ?_
 rintro m C jb hh ⟨i,c',f',r',hi,rfl,hM,rfl,rfl⟩
 simp only[go_sem]
 refine brK_dec (fun hlt=>?_) (fun hge=>?_)
 ·
  simp only[go_sem]
  refine elemMap (by omega) (by omega) (fun d hd=>?_)
  have hM2:=open_free hM (by simpa using hd)
  simp only[go_sem]
  refine drawZ mo (by kernel_rfl) rfl ?_
  simp only[List.dropLast_cons_cons,List.dropLast_singleton,List.getLast_cons_cons,List.getLast_singleton]
  simp only[go_sem]
  exact loopFr _ (by omega) ⟨i+1,_,_,_,by omega,rfl,hM2,rfl,rfl⟩ (.next rfl (by omega) .nil) rfl
 ·
  rw[List.take_of_length_le (by omega)] at hM
  simp only[go_sem]
  refine node87 hj (fun r3=>?_)
  simp only[go_sem]
  simp only[DNode.enc_eq]
  simp only[go_sem]
  intro _
  refine loop_fr [9,39,40,41,42,43,44,45,46,47,48,49] (fun m C hh=>∃(i c':Nat) (f':Value→Option AV) (r':List Blk),i≤n.Ins.length∧m=n.Ins.length-i∧MapN f' (gOpen (n.Ins.take i) W)∧C=[(39,.raw (.int .i64 (i:Nat)))]∧hh=HS A p (j:Int) c' f' r') n.Ins.length _ ⟨0,_,_,_,by omega,by omega,hM,rfl,rfl⟩ (.cons rfl .nil) ?_
  rintro m C jd hh ⟨i2,c2,f2,r4,hi2,rfl,hM2,rfl,rfl⟩
  simp only[go_sem]
  refine brK_dec (fun hlt2=>?_) (fun hge2=>?_)
  ·
   simp only[go_sem]
   refine elemMap (by omega) (by omega) (fun d hd=>?_)
   have hM3:=open_in hM2 (by simpa using hd)
   simp only[go_sem]
   refine drawZ mo (by kernel_rfl) rfl ?_
   simp only[List.dropLast_cons_cons,List.dropLast_singleton,List.getLast_cons_cons,List.getLast_singleton]
   simp only[go_sem]
   exact loopFr _ (by omega) ⟨i2+1,_,_,_,by omega,rfl,hM3,rfl,rfl⟩ (.next rfl (by omega) .nil) rfl
  ·
   rw[List.take_of_length_le (by omega)] at hM2
   simp only[go_sem]
   exact finK (r:=.ptr (A.length+1) 0) rfl (hK A c2 f2 r4 hA (hM2.cast (fun s=>by rw[← hW];exact gOpen_end n s)))
theorem scopeCheck (p:DProg) (hp:okProg p):PCall Tryz.prog 155 [p.enc] (scopeF p).enc:=by
 refine pcall_of_vc tabOK Tryz.func155 (by kernel_rfl) rfl (by first|exact pureL|exact pureI) (by first|exact pureL|exact pureI) (n:=28) rfl (rs:=[.cell 2 61]) rfl ?_
 have hp6:=hp.2.1
 unfold scopeF
 simp only[go_sem]
 refine PCall.call (checkP p hp) ?_
 generalize checkF p=e
 simp only[go_sem]
 refine brK_dec (fun h0=>?_) (fun h0=>?_)
 ·
  rw[if_neg h0,DFault.enc_eq]
  simp only[go_sem]
  exact⟨_,rfl,false,.refl _⟩
 rw[if_pos (by simpa using h0)]
 simp only[go_sem]
 intro _
 generalize hE:nodesFault p 0 p.Nodes=E
 refine loop_frX [4,5,15,16,17,18,19,20,21,22,23,24,25,26] (fun m C=>∃ i:Nat,i≤p.Nodes.length∧m=p.Nodes.length-i∧nodesFault p i (p.Nodes.drop i)=E∧C=[(15,.raw (.int .i64 (i:Nat)))]) p.Nodes.length _ ⟨0,by omega,by omega,hE,rfl⟩ (.cons rfl .nil) ?_
 rintro m C ja r ⟨i,hi,rfl,hE',rfl⟩
 simp only[go_sem]
 refine brK_dec (fun hlt=>?_) (fun hge=>?_)
 ·
  obtain⟨n,hj⟩:∃ n,p.Nodes[i]?=some n:=⟨_,List.getElem?_eq_getElem (by omega)⟩
  have hn:=hp.2.2 n (List.mem_of_getElem? hj)
  simp only[go_sem]
  refine open48 hj hn (fun A c f r1 hA hM=>?_)
  simp only[go_sem]
  refine check49 hj hn hM (fun c' f' r2=>?_)
  subst hA
  by_cases hF:(nodeFault p (i:Int) n).Err=0
  ·
   have hE1:=nodes_next hE' (by simpa using hj) hF
   have hz:=nodeFault_zero hF
   rw[hz,DFault.enc_eq]
   simp only[go_sem]
   exact loopFrX _ (by omega) _ ⟨i+1,by omega,rfl,hE1,rfl⟩ (.next rfl (by omega) .nil) rfl (by first|rfl|(simp only[List.append_assoc,List.cons_append,List.nil_append];rfl))
  ·
   have hE1:=nodes_at hE' (by simpa using hj) hF
   rw[hE1]
   generalize nodeFault p (i:Int) n=F at hF
   rw[DFault.enc_eq]
   simp only[go_sem]
   refine brK_dec (fun _=>?_) (fun hq=>absurd hF hq)
   simp only[go_sem]
   exact⟨_,rfl,false,by rw[DFault.enc_eq];exact .refl _⟩
 ·
  have h0:=nodes_0 hE' (by omega)
  subst h0
  rw[DFault.enc_eq]
  simp only[go_sem]
  exact⟨_,rfl,false,.refl _⟩
noncomputable def toldP (p:DProg) (n:DNode) (e:Ex):List DTy × Bool :=
 if e.kind=13 then(match allS (ofL p n e.subs) with
  | none=>([],false)
  | some ts=>((callT p e ts).1.Outs.map DDecl.Ty,(callT p e ts).2))
 else([(headP p n e (ofL p n e.subs)).1],(headP p n e (ofL p n e.subs)).2)
noncomputable def eqTy (p:DProg) (n:DNode) (q:DEq):Bool:=(toldP p n q.E).2&&eqB (q.Names.map fun s=>(decl n s).1.Ty) (toldP p n q.E).1
def clkTy (p:DProg) (n:DNode) (d:DDecl):Bool:=decide (d.On=⟨#[]⟩) || whenT p n d.On d.Ctor
noncomputable def nodeTy (p:DProg) (a:Nat) (n:DNode):DFault :=
 if(allV n).all (clkTy p n)=true then firstE (a:Int) 7 (fun _ q=>eqTy p n q) 0 n.Eqs else⟨(a:Int),-1,7⟩
noncomputable def typesF (p:DProg):DFault:=if(scopeF p).Err=0 then firstF (nodeTy p) 0 p.Nodes else scopeF p
theorem nodes_first (p:DProg):∀(l:List DNode) (i:Nat),nodesFault p i l=firstF (fun i n=>nodeFault p (i:Int) n) i l
 | [],_=>rfl
 | n::r,i=>by rw[nodesFault,firstF,nodes_first p r (i+1)]
theorem scope_zero {p:DProg} (h:(scopeF p).Err=0):scopeF p=⟨0,0,0⟩∧checkF p=0∧∀(k:Nat) n,p.Nodes[k]?=some n→(nodeFault p (k:Int) n).Err=0:=by
 unfold scopeF at *
 split at h
 ·
  rename_i h0
  rw[if_pos h0]
  rw[nodes_first] at h ⊢
  obtain⟨h1,h2⟩:=firstF_zero h
  exact⟨h1,h0,fun k n hk=>by have:=h2 k n hk;simpa using this⟩
 ·
  rename_i h0;exact absurd h h0
theorem nodeTy_zero {p:DProg} {a:Nat} {n:DNode} (h:(nodeTy p a n).Err=0):nodeTy p a n=⟨0,0,0⟩∧(∀ d∈allV n,clkTy p n d=true)∧∀ q∈n.Eqs,eqTy p n q=true:=by
 unfold nodeTy at *
 split at h
 ·
  rename_i h0
  rw[if_pos h0]
  obtain⟨h1,h2⟩:=firstE_zero (by decide) h
  refine⟨h1,List.all_eq_true.1 h0,fun q hq=>?_⟩
  obtain⟨i,hi,rfl⟩:=List.getElem_of_mem hq
  exact h2 i _ (List.getElem?_eq_getElem hi)
 ·
  cases h
theorem types_zero {p:DProg} (h:(typesF p).Err=0):typesF p=⟨0,0,0⟩∧scopeF p=⟨0,0,0⟩∧checkF p=0∧∀(k:Nat) n,p.Nodes[k]?=some n→(nodeTy p k n).Err=0:=by
 unfold typesF at *
 split at h
 ·
  rename_i h0
  rw[if_pos h0]
  obtain⟨h1,h2⟩:=firstF_zero h
  obtain⟨k1,k2,k3⟩:=scope_zero h0
  exact⟨h1,k1,k2,fun k n hk=>by have:=h2 k n hk;simpa using this⟩
 ·
  rename_i h0;exact absurd h h0
theorem eqs_right {p:DProg} (h:checkF p=0) {n:DNode} (hn:n∈p.Nodes) {q:DEq} (hq:q∈n.Eqs):0<q.Names.length∧rightE q.E=true:=by
 have hnf:=List.all_eq_true.1 (check_nodes h) n hn
 unfold nodeF at hnf
 simp only[Bool.and_eq_true] at hnf
 have hd:=List.all_eq_true.1 hnf.1.2 q hq
 unfold eqF at hd
 simp only[Bool.and_eq_true,decide_eq_true_eq] at hd
 exact⟨hd.1.1.1,hd.1.1.2⟩
theorem clocked_of {p:DProg} {a:Int} {n:DNode} (h:(nodeFault p a n).Err=0):∀ d∈allV n,clockedF p.Enums n d=true:=by
 unfold nodeFault at h
 split at h
 ·
  rename_i h0;exact List.all_eq_true.1 h0
 ·
  cases h
theorem clkTy_eq {p:DProg} {n:DNode} {d:DDecl} (h:clockedF p.Enums n d=true) (ho:¬ d.On=⟨#[]⟩):clkTy p n d=decide ((decl n d.On).1.Ty=(armF p.Enums d.Ctor).1):=by
 unfold clockedF at h
 unfold clkTy whenT
 rw[decide_eq_false ho] at h ⊢
 simp only[Bool.false_or,Bool.and_eq_true] at h ⊢
 unfold isF at h
 rw[h.1,h.2]
 rfl
def rowsOk (L:List DEnum) (n:DNode):Bool:=(allV n).all fun d=>(rowN L n d.Name).2
noncomputable def eqCk (L:List DEnum) (n:DNode) (q:DEq):Bool:=q.Names.all (fun s=>eqB (rowN L n s).1 (rowN L n (q.Names.headD ⟨#[]⟩)).1)&&fitsF (rowN L n) L q.E (rowN L n (q.Names.headD ⟨#[]⟩)).1
noncomputable def nodeCk (p:DProg) (a:Nat) (n:DNode):DFault :=
 if rowsOk p.Enums n=true then firstE (a:Int) 8 (fun _ q=>eqCk p.Enums n q) 0 n.Eqs else⟨(a:Int),-1,8⟩
noncomputable def clockF (p:DProg):DFault:=if(typesF p).Err=0 then firstF (nodeCk p) 0 p.Nodes else typesF p
theorem nodeCk_zero {p:DProg} {a:Nat} {n:DNode} (h:(nodeCk p a n).Err=0):nodeCk p a n=⟨0,0,0⟩∧rowsOk p.Enums n=true∧∀ q∈n.Eqs,eqCk p.Enums n q=true:=by
 unfold nodeCk at *
 split at h
 ·
  rename_i h0
  rw[if_pos h0]
  obtain⟨h1,h2⟩:=firstE_zero (by decide) h
  refine⟨h1,h0,fun q hq=>?_⟩
  obtain⟨i,hi,rfl⟩:=List.getElem_of_mem hq
  exact h2 i _ (List.getElem?_eq_getElem hi)
 ·
  cases h
theorem clock_zero {p:DProg} (h:(clockF p).Err=0):clockF p=⟨0,0,0⟩∧(typesF p).Err=0∧∀(k:Nat) n,p.Nodes[k]?=some n→(nodeCk p k n).Err=0:=by
 unfold clockF at *
 split at h
 ·
  rename_i h0
  rw[if_pos h0]
  obtain⟨h1,h2⟩:=firstF_zero h
  exact⟨h1,h0,fun k n hk=>by have:=h2 k n hk;simpa using this⟩
 ·
  rename_i h0;exact absurd h h0
theorem names_is {n:DNode}:∀ {l D:List ByteArray},namesErr n D l=0→∀ s∈l,isF n s=true
 | [],_,_=>by simp
 | x::r,D,h=>by
  rw[namesErr] at h
  split at h
  ·
   omega
  ·
   rename_i h0
   split at h
   ·
    omega
   ·
    intro s hs
    rcases List.mem_cons.1 hs with rfl|hs
    ·
     simpa using h0
    ·
     exact names_is h s hs
theorem eqs_is {p:DProg} {a:Int} {n:DNode}:∀ {l:List DEq} {i:Nat} {D:List ByteArray},(eqsErr p a n i D l).2=0→∀ q∈l,(∀ s∈q.Names,isF n s=true)∧(parts q.E).all (leadsF p a n)=true
 | [],_,_,_=>by simp
 | q::r,i,D,h=>by
  rw[eqsErr] at h
  split at h
  ·
   rename_i h0
   intro x hx
   rcases List.mem_cons.1 hx with rfl|hx
   ·
    unfold eqErr at h0
    split at h0
    ·
     rename_i h1
     refine⟨names_is h1,?_⟩
     split at h0
     ·
      assumption
     ·
      omega
    ·
     rename_i h1;exact absurd h0 h1
   ·
    exact eqs_is h x hx
  ·
   rename_i h0;exact absurd h h0
theorem node_is {p:DProg} {a:Int} {n:DNode} (h:(nodeFault p a n).Err=0):∀ q∈n.Eqs,(∀ s∈q.Names,isF n s=true)∧(parts q.E).all (leadsF p a n)=true:=by
 unfold nodeFault at h
 split at h
 ·
  split at h
  ·
   rename_i h2;exact eqs_is h2
  ·
   rename_i h2;exact absurd h h2
 ·
  cases h
theorem is_mem {n:DNode} {s:ByteArray} (h:isF n s=true):∃ d∈allV n,d.Name=s:=by
 unfold isF decl at h
 rw[declF_any,List.any_eq_true] at h
 obtain⟨d,hd,he⟩:=h
 exact⟨d,hd,of_decide_eq_true he⟩
theorem row_is {L:List DEnum} {n:DNode} (hr:rowsOk L n=true) {s:ByteArray} (h:isF n s=true):(rowN L n s).2=true:=by
 obtain⟨d,hd,rfl⟩:=is_mem h
 exact List.all_eq_true.1 hr d hd
end Go.Proofs.YtpamokpmlplopaaGreatDoor
