/-
  TyG, TyH, TyO, TyP, TyQ, TyR, TyI, Sched1: put together.
-/
import Derived.Test.YtpamokpmlplopaaGreatDoorUniAi
import Derived.Test.YtpamokpmlplopaaGreatDoorUniAm
import Derived.Test.YtpamokpmlplopaaGreatDoorUniAp
import Derived.Test.YtpamokpmlplopaaGreatDoorUniAq
namespace Go.Proofs.YtpamokpmlplopaaGreatDoor
open Go.Abs
set_option maxRecDepth 20000
set_option linter.unusedSimpArgs false
set_option linter.unusedVariables false
set_option maxHeartbeats 1000000
attribute [local irreducible] vc vcOps vcStep vcGuard prK hrK gK gsK brK callK ElemK SeqK BlockK ScopeK OpsK CallK LoopK LoopGo finPost ACall PCall PCallE BCall vqOps vqStep vqGuard qrK heK pcK gqK gqsK QOpsK qcallK DrawK
def cellsT (L:List DEnum) (subs:List Ex):List Int × DTy × Bool :=
 if(subs.all (fun x=>(litT L x).2.2)&&sameT (subs.map fun x=>(litT L x).2.1))=true then(subs.map (fun x=>(litT L x).1),(subs.map fun x=>(litT L x).2.1).headD ty0,true) else([],ty0,false)
noncomputable def constT (L:List DEnum) (e:Ex):List Int × DTy × Bool :=
 if(rightE e&&constE e)=true then(if e.kind=14 then(if(cellsT L e.subs).2.2=true then((cellsT L e.subs).1,⟨(cellsT L e.subs).2.1.Kind,(cellsT L e.subs).2.1.Enum,((cellsT L e.subs).1.length:Int)⟩,true) else([],ty0,false)) else cellsT L [e]) else([],ty0,false)
abbrev constA (q:List Int × DTy × Bool):AV:=.tup [.lst 1 (q.1.map AV.i) none,q.2.1.enc,.b q.2.2]
theorem pure_constA (q:List Int × DTy × Bool):Go.Abs.Pure (constA q):=.tup _ (pure_cons (pure_ints _) (pure_cons (DTy.pure _) (pure_cons (.raw _) pure_nil)))
theorem weak_constA {v:AV} {l:List Int} {t:DTy} {ok:Bool} {a b c:Int} (hv:Weak v (.lst 1 (l.map AV.i) none)) (ht:t=⟨a,b,c⟩):Weak (oneOrTup [v,.agg [.i a,.i b,.i c],.b ok]) (constA (l,t,ok)):=by
 subst ht
 show Weak (.tup [v,.agg [.i a,.i b,.i c],.b ok]) (.tup [.lst 1 (l.map AV.i) none,DTy.enc _,.b ok])
 rw[DTy.enc_eq]
 exact Weak.tup _ _ rfl (fun i c d hc hd=>by match i with|0=>(cases hc;cases hd;exact hv)|1=>(cases hc;cases hd;exact .refl _)|2=>(cases hc;cases hd;exact .refl _)|i+3=>simp at hc)
theorem finC0 {T:TypeId→TI} {rs:List ResultVar} {s:List AV} {h:List Blk} {q:List Int × DTy × Bool} (hr:resAV T s h rs=some [.raw (.slice none 0 0),.agg [.i 0,.i 0,.i 0],.b false]) (hq:q=([],ty0,false)):Go.Abs.Fin T rs (constA q) s h:=by
 subst hq
 exact⟨_,hr,false,weak_constA (.nil _) rfl⟩
theorem finCk {T:TypeId→TI} {rs:List ResultVar} {s:List AV} {h:List Blk} {q:List Int × DTy × Bool} {l:List Int} {k:Nat} {a b c:Int} {ok:Bool} (hr:resAV T s h rs=some [.lst 1 (l.map AV.i) (some k),.agg [.i a,.i b,.i c],.b ok]) (hq:q=(l,⟨a,b,c⟩,ok)):Go.Abs.Fin T rs (constA q) s h:=by
 subst hq
 exact⟨_,hr,false,weak_constA (.tok _ _ _) rfl⟩
theorem finCn {T:TypeId→TI} {rs:List ResultVar} {s:List AV} {h:List Blk} {q:List Int × DTy × Bool} {l:List Int} {a b c:Int} {ok:Bool} (hr:resAV T s h rs=some [.lst 1 (l.map AV.i) none,.agg [.i a,.i b,.i c],.b ok]) (hq:q=(l,⟨a,b,c⟩,ok)):Go.Abs.Fin T rs (constA q) s h:=by
 subst hq
 exact⟨_,hr,false,weak_constA (.refl _) rfl⟩
theorem lit5 {x:Ex} (h:litE x=true):x.kind=5→0<x.subs.length:=by
 intro h5
 unfold litE at h
 rw[if_pos h5] at h
 simp only[Bool.and_eq_true,decide_eq_true_eq] at h
 omega
theorem cells_no {L:List DEnum} {subs:List Ex} {i:Nat} {x:Ex} (hx:subs[((i:Nat):Int).toNat]?=some x) (h:(litT L x).2.2=false):cellsT L subs=([],ty0,false):=by
 unfold cellsT
 rw[List.all_eq_false.2 ⟨x,List.mem_of_getElem? hx,by simp[h]⟩]
 rfl
theorem cellsP (L:List DEnum) (subs:List Ex) (hb:subs.length≤100000) (h0:0<subs.length) (hl:∀ x∈subs,litE x=true):PCall Tryz.prog 136 [.lst 2 (L.map DEnum.enc) none,.lst 6 (subs.map Ex.enc) none] (constA (cellsT L subs)):=by
 refine pcall_of_vc tabOK Tryz.func136 (by kernel_rfl) rfl (by first|exact pureL|exact pureI) (pure_constA _) (n:=47) rfl (rs:=[.tmp 4,.cell 5 42,.tmp 6]) rfl ?_
 simp only[go_sem]
 intro _
 refine loop_ghost (ghost_tok 7 2 1 rfl) ?_
 refine loop_ghost (ghost_tok 8 42 3 rfl) ?_
 refine loop_fr [4,6,7,8,10,11,12,13,16,17,18,19,20,21,22,23,24,25,26,27,28,29,30,31,32,33,34,35,36,37,38] (fun m C hh=>∃(i:Nat) (r:List Blk),i≤subs.length∧m=subs.length-i∧(∀ x∈subs.take i,(litT L x).2.2=true)∧C=[(16,.raw (.int .i64 (i:Nat))),(7,.lst 1 (((subs.take i).map fun x=>(litT L x).1).map AV.i) (some 1)),(8,.lst 3 (((subs.take i).map fun x=>(litT L x).2.1).map DTy.enc) (some 2))] ∧
  hh=.cells 42 [.i 0,.i 0,.i 0]::.tok 2 1 (subs.take i).length::.tok 42 3 (subs.take i).length::r) subs.length _ ⟨0,[],by omega,by omega,by simp,rfl,rfl⟩ (.cons rfl (.cons rfl (.cons rfl .nil))) ?_
 rintro m C ja hh ⟨i,r,hi,rfl,hp,rfl,rfl⟩
 simp only[go_sem]
 refine brK_dec (fun hlt=>?_) (fun hge=>?_)
 ·
  simp only[go_sem]
  refine elemMap (by omega) (by omega) (fun x hx=>?_)
  have hli:(subs.take i).length=i:=by rw[List.length_take];omega
  have hli2:(subs.take (i+1)).length=i+1:=by rw[List.length_take];omega
  have hst1:=take_mapS (f:=fun x=>(litT L x).1) hx
  have hst2:=take_mapS (f:=fun x=>(litT L x).2.1) hx
  try simp only[go_sem]
  refine PCall.call (litP L x (lit5 (hl x (List.mem_of_getElem? hx)))) ?_
  generalize hq:litT L x=q at hst1 hst2
  obtain⟨v,t,ok⟩:=q
  cases ok with
  | false =>
   simp only[go_sem]
   exact finC0 rfl (cells_no hx (by rw[hq]))
  | true =>
   simp only[go_sem]
   refine⟨by omega,by omega,?_⟩
   exact loopFr _ (by omega) ⟨i+1,_,by omega,rfl,take_all hp (by simpa using hx) (by rw[hq]),rfl,by rw[hli2,hli]⟩ (.next rfl (by omega) (.cons (by rw[hst1];simp[slot]) (.cons (by rw[hst2];simp[slot]) .nil))) rfl
 ·
  simp only[go_sem]
  rw[List.take_of_length_le (by omega)] at hp ⊢
  have hall:subs.all (fun x=>(litT L x).2.2)=true:=List.all_eq_true.2 hp
  refine PCall.callW (sameP (subs.map fun x=>(litT L x).2.1)) ⟨.tok _ _ _,trivial⟩ ?_
  have hc:cellsT L subs=if sameT (subs.map fun x=>(litT L x).2.1)=true then(subs.map (fun x=>(litT L x).1),(subs.map fun x=>(litT L x).2.1).headD ty0,true) else([],ty0,false):=by
   unfold cellsT
   rw[hall,Bool.true_and]
  rw[hc]
  generalize sameT (subs.map fun x=>(litT L x).2.1)=b
  cases b with
  | false =>
   simp only[go_sem]
   exact finC0 rfl rfl
  | true =>
   have hlen:(subs.map fun x=>(litT L x).2.1).length=subs.length:=List.length_map _
   generalize (subs.map fun x=>(litT L x).2.1)=W at hlen
   simp only[go_sem]
   refine drawC [0] mo (by kernel_rfl) ?_
   simp only[go_sem]
   refine elemMap (by omega) (by omega) (fun t ht=>?_)
   have hh:=headD_at ht
   simp only[go_sem]
   exact finCk rfl (by rw[if_pos trivial,hh])
theorem right_self {e:Ex} (h:rightE e=true):partE e=true:=by
 unfold rightE at h
 simp only[Bool.and_eq_true] at h
 exact List.all_eq_true.1 h.2 e (self_parts e)
theorem const_lits {e:Ex} (hr:rightE e=true) (hc:constE e=true):(e.kind=14→(∀ x∈e.subs,litE x=true)∧0<e.subs.length)∧(¬ e.kind=14→litE e=true):=by
 unfold constE at hc
 refine⟨fun h=>?_,fun h=>?_⟩
 ·
  rw[if_pos h] at hc
  refine⟨List.all_eq_true.1 hc,?_⟩
  have:=(partE_len (right_self hr)).1
  have h1:(subsE e).1=1:=by simp[subsE,h]
  omega
 ·
  rw[if_neg h] at hc
  exact hc
theorem subs_le {e:Ex} (ho:okE e):e.subs.length≤200:=by
 have h1:=ho.1
 have h2:∀ l:List Ex,l.length≤(partsL l).length:=by
  intro l
  induction l with
  | nil=>simp[partsL]
  | cons x l ih =>
   have:1≤(parts x).length:=by rw[parts_eq];simp
   simp only[partsL,List.length_append,List.length_cons];omega
 have h3:=h2 e.subs
 rw[parts_eq,List.length_cons] at h1
 omega
theorem constP (L:List DEnum) (e:Ex) (ho:okE e):PCall Tryz.prog 94 [.lst 2 (L.map DEnum.enc) none,e.enc] (constA (constT L e)):=by
 have hsl:=subs_le ho
 refine pcall_of_vc tabOK Tryz.func94 (by kernel_rfl) rfl (by first|exact pureL|exact pureI) (pure_constA _) (n:=44) rfl (rs:=[.tmp 4,.cell 5 42,.tmp 6]) rfl ?_
 unfold constT
 have hlits:=const_lits (e:=e)
 simp only[go_sem]
 refine PCall.call (right16 e ho) ?_
 generalize rightE e=r at hlits
 cases r with
 | false =>
  simp only[go_sem]
  exact finC0 rfl (by simp)
 | true =>
 simp only[go_sem]
 refine PCall.call (const18 e) ?_
 generalize constE e=k at hlits
 cases k with
 | false =>
  simp only[go_sem]
  exact finC0 rfl (by simp)
 | true =>
 obtain⟨l1,l2⟩:=hlits rfl rfl
 simp only[go_sem]
 refine brK_dec (fun h=>?_) (fun h=>?_)
 ·
  simp only[go_sem]
  refine PCall.callW (cellsP L [e] (by simp) (by simp) (fun x hx=>by rw[List.mem_singleton.1 hx];exact l2 h)) ⟨.refl _,.tok _ _ _,trivial⟩ ?_
  generalize hq:cellsT L [e]=q
  obtain⟨l,t,ok⟩:=q
  simp only[go_sem]
  exact finCn rfl (by simp[h])
 ·
  have h14:e.kind=14:=Classical.not_not.1 h
  simp only[go_sem]
  refine PCall.call (cellsP L e.subs (by omega) (l1 h14).2 (l1 h14).1) ?_
  generalize hq:cellsT L e.subs=q
  obtain⟨l,t,ok⟩:=q
  cases ok with
  | false =>
   have hq0:l=[]∧t=ty0:=by
    unfold cellsT at hq
    split at hq
    ·
     cases hq
    ·
     cases hq;exact⟨rfl,rfl⟩
   obtain⟨rfl,rfl⟩:=hq0
   simp only[go_sem]
   refine drawC [1] mo (by kernel_rfl) ?_
   simp only[go_sem]
   exact finCn (l:=[]) (a:=0) (b:=0) (c:=0) (ok:=false) rfl (by simp[h14])
  | true =>
   simp only[go_sem]
   intro _
   refine drawC [1] mo (by kernel_rfl) ?_
   simp only[go_sem]
   exact finCn rfl (by simp[h14])
def opt (q:DTy × Bool):Option DTy:=if q.2=true then some q.1 else none
def allS:List (Option DTy)→Option (List DTy)
 | []=>some []
 | none::_=>none
 | some t::l=>(allS l).map (t::·)
def whenT (p:DProg) (n:DNode) (nm arm:ByteArray):Bool:=(decl n nm).2&&armOk p.Enums arm&&decide ((decl n nm).1.Ty=(armF p.Enums arm).1)
noncomputable def armsT (L:List DEnum) (t:DTy) (arms:List ByteArray):Bool :=
 if t=tyB then eqB arms [tTrue,tFalse] else if t.Kind=3∧t.Len=0 then eqB arms ((L[t.Enum.toNat]?.map DEnum.Ctors).getD []) else false
def nodeD:DNode:=⟨⟨#[]⟩,[],[],[],[]⟩
noncomputable def callT (p:DProg) (e:Ex) (ts:List DTy):DNode × Bool :=
 if findF p e.name<0 then(nodeD,false)
 else if e.n=1∧¬ ts.getD (ts.length-e.n.toNat) ty0=tyB then(nodeD,false)
 else(p.Nodes[(findF p e.name).toNat]?.getD nodeD,eqB ((p.Nodes[(findF p e.name).toNat]?.getD nodeD).Ins.map DDecl.Ty) (ts.take (ts.length-e.n.toNat)))
noncomputable def flowT (p:DProg) (n:DNode) (e:Ex) (ts:List DTy):DTy × Bool :=
 if e.kind=9 then(ts.getD 0 ty0,decide (ts.getD 0 ty0=ts.getD 1 ty0))
 else if e.kind=11 then(ts.getD 0 ty0,whenT p n e.name (e.arms.headD ⟨#[]⟩))
 else if e.kind=12 then(ts.getD 0 ty0,(decl n e.name).2&&sameT ts&&armsT p.Enums (decl n e.name).1.Ty e.arms)
 else if e.kind=13 then(if(callT p e ts).2=true∧(callT p e ts).1.Outs.length=1 then(((callT p e ts).1.Outs.headD zeroD).Ty,true) else(ty0,false))
 else(ts.getD 0 ty0,true)
def oneT (t:DTy):DTy:=⟨t.Kind,t.Enum,0⟩
def plainT (e:Ex) (ts:List DTy):DTy × Bool :=
 if e.kind=5 then unT e.op (ts.getD 0 ty0)
 else if e.kind=6 then binT e.op (ts.getD 0 ty0) (ts.getD 1 ty0)
 else if e.kind=7 then(ts.getD 1 ty0,decide (ts.getD 0 ty0=tyB)&&decide (ts.getD 1 ty0=ts.getD 2 ty0))
 else if e.kind=14 then(⟨(ts.getD 0 ty0).Kind,(ts.getD 0 ty0).Enum,(ts.length:Int)⟩,sameT ts&&decide ((ts.getD 0 ty0).Len=0))
 else if e.kind=15 then(oneT (ts.getD 0 ty0),decide ((ts.getD 0 ty0).Len>0)&&decide (ts.getD 1 ty0=tyI))
 else(ts.getD 0 ty0,decide ((ts.getD 0 ty0).Len>0)&&decide (ts.getD 1 ty0=tyI)&&decide (ts.getD 2 ty0=oneT (ts.getD 0 ty0)))
noncomputable def headP (p:DProg) (n:DNode) (e:Ex) (S:List (Option DTy)):DTy × Bool :=
 if e.kind=1∨e.kind=2∨e.kind=4 then((constT p.Enums e).2.1,(constT p.Enums e).2.2)
 else if e.kind=3 then((decl n e.name).1.Ty,(decl n e.name).2)
 else if e.kind=8 then((constT p.Enums (e.subs.headD e)).2.1,(constT p.Enums (e.subs.headD e)).2.2&&decide (S.getD 1 none=some (constT p.Enums (e.subs.headD e)).2.1))
 else if e.kind=17 then(ty0,false)
 else match allS S with
  | none=>(ty0,false)
  | some ts=>if 9≤e.kind∧e.kind≤13 then flowT p n e ts else plainT e ts
mutual
noncomputable def ofT (p:DProg) (n:DNode):Ex→Option DTy
 | .mk k m nm op arms subs=>opt (headP p n (.mk k m nm op arms subs) (ofL p n subs))
noncomputable def ofL (p:DProg) (n:DNode):List Ex→List (Option DTy)
 | []=>[]
 | x::l=>ofT p n x::ofL p n l
end
theorem ofT_eq (p:DProg) (n:DNode) (e:Ex):ofT p n e=opt (headP p n e (ofL p n e.subs)):=by cases e;rw[ofT];rfl
theorem ofL_map (p:DProg) (n:DNode) (l:List Ex):ofL p n l=l.map (ofT p n):=by
 induction l with
 | nil=>rw[ofL];rfl
 | cons x l ih=>rw[ofL,ih];rfl
abbrev plE (p:DProg) (n:DNode):AV:=.agg [.lst 2 (p.Enums.map DEnum.enc) none,.lst 5 (p.Nodes.map DNode.enc) none,.s n.Name,.lst 6 (n.Ins.map DDecl.enc) none,.lst 6 (n.Outs.map DDecl.enc) none,.lst 6 (n.Vars.map DDecl.enc) none,.lst 7 (n.Eqs.map DEq.enc) none]
theorem pure_plE (p:DProg) (n:DNode):Go.Abs.Pure (plE p n):=.agg _ (pure_cons (DEnum.pures _) (pure_cons (DNode.pures _) (pure_cons (.raw _) (pure_cons (DDecl.pures _) (pure_cons (DDecl.pures _) (pure_cons (DDecl.pures _) (pure_cons (DEq.pures _) pure_nil)))))))
theorem whenP (p:DProg) (n:DNode) (hl:(allV n).length≤60) (nm arm:ByteArray):PCall Tryz.prog 197 [plE p n,.s nm,.s arm] (.b (whenT p n nm arm)):=by
 refine pcall_of_vc tabOK Tryz.func197 (by kernel_rfl) rfl (pure_cons (pure_plE p n) (pure_cons (.raw _) (pure_cons (.raw _) pure_nil))) (.raw _) (n:=38) rfl (rs:=[.tmp 6]) rfl ?_
 unfold whenT armOk
 repeat' first
  | exact finB rfl
  | exact finI rfl
  | exact finP rfl
  | exact absurd rfl (by assumption)
  | simp only[go_sem]
  | (intro _)
  | refine brK_dec (fun _=>?_) (fun _=>?_)
  | refine brK_split (fun hb_=>?_) (fun hb_=>?_)
  | refine gK_dec (fun _=>?_) (fun _=>?_)
  | refine gK_split (fun hb_=>?_) (fun hb_=>?_)
  | refine gqK_dec (fun _=>?_) (fun _=>?_)
  | refine⟨by omega,?_⟩
  | refine elemHave (by omega) (by assumption) ?_
  | refine elemMap (by omega) (by omega) (fun x hx=>?_)
  | refine drawK mo (by kernel_rfl) ?_
  | (refine PCall.call (decl25 n nm (by omega)) ?_;generalize decl n nm=d;obtain⟨d,ok⟩:=d)
  | (refine PCall.call (arm146 p.Enums arm) ?_;generalize armF p.Enums arm=q;obtain⟨t,v,is⟩:=q)
  | (exact finBq rfl (by simp[*]))
theorem armsP (p:DProg) (n:DNode) (t:DTy) (arms:List ByteArray) (hT:t.Kind=3→0≤t.Enum∧t.Enum<p.Enums.length):PCall Tryz.prog 267 [plE p n,t.enc,.lst 1 (arms.map AV.s) none] (.b (armsT p.Enums t arms)):=by
 refine pcall_of_vc tabOK Tryz.func267 (by kernel_rfl) rfl (pure_cons (pure_plE p n) (pure_cons (DTy.pure _) (pure_cons (pure_strs _) pure_nil))) (.raw _) (n:=32) rfl (rs:=[.tmp 6]) rfl ?_
 unfold armsT
 repeat' first
  | exact finB rfl
  | exact finI rfl
  | exact finP rfl
  | exact absurd rfl (by assumption)
  | simp only[go_sem]
  | (intro _)
  | refine brK_dec (fun _=>?_) (fun _=>?_)
  | refine brK_any ?_ ?_
  | refine gK_dec (fun _=>?_) (fun _=>?_)
  | refine gK_any ?_ ?_
  | refine gqK_dec (fun _=>?_) (fun _=>?_)
  | refine⟨by omega,?_⟩
  | refine elemHave (by omega) (by assumption) ?_
  | refine elemMap (by omega) (by omega) (fun x hx=>?_)
  | refine drawK mo (by kernel_rfl) ?_
  | (refine PCall.call (truthP t) ?_)
  | (refine PCall.callW (equalStr arms [tTrue,tFalse]) ⟨.refl _,.tok _ _ _,trivial⟩ ?_)
  | (have hk3:t.Kind=3:=(by omega);have hk4:=hT hk3;refine elemMap (by omega) (by omega) (fun x hx=>?_))
  | (refine PCall.call (equalStr arms x.Ctors) ?_)
  | (exact finBq rfl (by simp[*]))
  | (exact finBq rfl (by rw[if_neg (by assumption),if_pos ⟨by assumption,by assumption⟩,hx];rfl))
theorem call182 (d:DDecl) (t:DTy):PCall Tryz.prog 303 [d.enc,t.enc] (.b (decide (d.Ty=t))):=by
 refine pcall_of_vc tabOK Tryz.func303 (by kernel_rfl) rfl pureL pureI (n:=9) rfl (rs:=[.tmp 4]) rfl ?_
 repeat' first
  | exact finB rfl
  | exact finI rfl
  | exact finP rfl
  | exact absurd rfl (by assumption)
  | simp only[go_sem]
  | (intro _)
  | refine brK_dec (fun _=>?_) (fun _=>?_)
  | refine brK_any ?_ ?_
  | refine gK_dec (fun _=>?_) (fun _=>?_)
  | refine gK_any ?_ ?_
  | refine gqK_dec (fun _=>?_) (fun _=>?_)
  | refine⟨by omega,?_⟩
  | refine elemHave (by omega) (by assumption) ?_
  | refine elemMap (by omega) (by omega) (fun x hx=>?_)
  | refine drawK mo (by kernel_rfl) ?_
  | (exact finBq rfl rfl)
theorem dt_step {l:List DDecl} {m:List DTy} {i:Nat} {y:DDecl} {x:DTy} (h:(l.take i).map DDecl.Ty=m.take i) (hy:l[((i:Nat):Int).toNat]?=some y) (hx:m[((i:Nat):Int).toNat]?=some x) (e:y.Ty=x):(l.take (i+1)).map DDecl.Ty=m.take (i+1):=by
 rw[take_mapS hy,h,e]
 rw[Int.toNat_natCast] at hx
 obtain⟨hi,rfl⟩:=List.getElem?_eq_some_iff.1 hx
 rw[List.take_succ_eq_append_getElem hi]
theorem dt_no {l:List DDecl} {m:List DTy} {i:Nat} {y:DDecl} {x:DTy} (hy:l[((i:Nat):Int).toNat]?=some y) (hx:m[((i:Nat):Int).toNat]?=some x) (e:¬ y.Ty=x):eqB (l.map DDecl.Ty) m=false:=by
 refine eqB_ne fun h=>e ?_
 rw[Int.toNat_natCast] at hx hy
 rw[← h,List.getElem?_map,hy] at hx
 exact Option.some.inj hx
theorem dt_len {l:List DDecl} {m:List DTy} (h:¬ (l.length:Int)=(m.length:Int)):eqB (l.map DDecl.Ty) m=false:=eqB_ne fun e=>h (by rw[← e,List.length_map])
theorem dt_yes {l:List DDecl} {m:List DTy} {i:Nat} (h:(l.take i).map DDecl.Ty=m.take i) (hl:(l.length:Int)=(m.length:Int)) (hi:l.length≤i):eqB (l.map DDecl.Ty) m=true:=by
 rw[List.take_of_length_le hi,List.take_of_length_le (by omega)] at h
 exact eqB_eq h
theorem eqDT (l:List DDecl) (m:List DTy):PCall Tryz.prog 304 [.lst 6 (l.map DDecl.enc) none,.lst 3 (m.map DTy.enc) none,.fn (.func 303) [] []] (.b (eqB (l.map DDecl.Ty) m)):=by
 refine pcall_of_vc tabOK Tryz.func304 (by kernel_rfl) rfl pureL pureI (n:=32) rfl (rs:=[.tmp 6]) rfl ?_
 repeat' first
  | exact finB rfl
  | exact finI rfl
  | exact finP rfl
  | exact absurd rfl (by assumption)
  | simp only[go_sem]
  | (intro _)
  | refine brK_dec (fun _=>?_) (fun _=>?_)
  | refine brK_any ?_ ?_
  | refine gK_dec (fun _=>?_) (fun _=>?_)
  | refine gK_any ?_ ?_
  | refine gqK_dec (fun _=>?_) (fun _=>?_)
  | refine⟨by omega,?_⟩
  | refine elemHave (by omega) (by assumption) ?_
  | ((fail_if_success (clear hy));refine elemMap (by omega) (by omega) (fun y hy=>?_))
  | refine elemMap (by omega) (by omega) (fun x hx=>?_)
  | refine drawK mo (by kernel_rfl) ?_
  | (refine PCall.call (call182 y x) ?_)
  | (refine finBq rfl ?_;rw[dt_len (by assumption)];done)
  | (refine finBq rfl ?_;rw[dt_no hy hx (by assumption)];done)
  | (refine finBq rfl ?_;rw[dt_yes hpi (by first|assumption|omega) (by omega)];done)
  | exact loopFrX _ (by omega) _ ⟨i+1,by omega,rfl,dt_step hpi hy hx (by first|assumption|exact Classical.not_not.1 (by assumption)),rfl⟩ (.next rfl (by omega) .nil) rfl (by first|rfl|(simp only[List.append_assoc,List.cons_append,List.nil_append];rfl))
  | (refine loop_frX [6,7,8,9,17,18,19,20,21,22,23,24,25,26,27,28,29,30,31] (fun mm_ CC_=>∃(i:Nat),i≤l.length∧mm_=l.length-i∧((l.take i).map DDecl.Ty=m.take i)∧CC_=[(17,.raw (.int .i64 ((i:Nat):Int)))]) (l.length) _ ⟨0,by omega,by omega,rfl,rfl⟩ (.cons rfl .nil) ?_;rintro mm_ CC_ ji ri ⟨i,hi,rfl,hpi,rfl⟩)
theorem find_at {p:DProg} {s:ByteArray} (h:¬ findF p s<0):∃ m,p.Nodes[(findF p s).toNat]?=some m:=by
 unfold findF at *
 rcases idxOf_cases (fun n:DNode=>decide (n.Name=s)) p.Nodes with ⟨h1,h2⟩|⟨i,x,h1,h2,h3,_,h4⟩
 ·
  rw[h1] at h;omega
 ·
  rw[h1]
  exact⟨x,by rw[Int.toNat_natCast];exact h2⟩
abbrev nodeA (q:DNode × Bool):AV:=.tup [q.1.enc,.b q.2]
theorem pure_nodeA (q:DNode × Bool):Go.Abs.Pure (nodeA q):=.tup _ (pure_cons (DNode.pure _) (pure_cons (.raw _) pure_nil))
theorem finNode {T:TypeId→TI} {rs:List ResultVar} {s:List AV} {h:List Blk} {q:DNode × Bool} {nm:ByteArray} {a b c:List DDecl} {es:List DEq} {ok:Bool} (hr:resAV T s h rs=some [.agg [.s nm,.lst 6 (a.map DDecl.enc) none,.lst 6 (b.map DDecl.enc) none,.lst 6 (c.map DDecl.enc) none,.lst 7 (es.map DEq.enc) none],.b ok]) (hp:q=(⟨nm,a,b,c,es⟩,ok)):Go.Abs.Fin T rs (nodeA q) s h:=by
 subst hp
 exact⟨_,hr,false,by rw[show nodeA (⟨nm,a,b,c,es⟩,ok)=.tup [.agg [.s nm,.lst 6 (a.map DDecl.enc) none,.lst 6 (b.map DDecl.enc) none,.lst 6 (c.map DDecl.enc) none,.lst 7 (es.map DEq.enc) none],.b ok] by show AV.tup [DNode.enc _,_]=_;rw[DNode.enc_eq]];exact .refl _⟩
theorem finNode0 {T:TypeId→TI} {rs:List ResultVar} {s:List AV} {h:List Blk} {q:DNode × Bool} (hr:resAV T s h rs=some [.agg [.s ⟨#[]⟩,.raw (.slice none 0 0),.raw (.slice none 0 0),.raw (.slice none 0 0),.raw (.slice none 0 0)],.b false]) (hp:q=(nodeD,false)):Go.Abs.Fin T rs (nodeA q) s h:=by
 subst hp
 refine⟨_,hr,false,?_⟩
 show Weak (.tup [_,_]) (.tup [DNode.enc _,_])
 rw[DNode.enc_eq]
 refine Weak.tup _ _ rfl (fun i c d hc hd=>?_)
 match i with
 | 0 =>
  cases hc;cases hd
  exact Weak.aggs ⟨.refl _,.nil _,.nil _,.nil _,.nil _,trivial⟩
 | 1=>(cases hc;cases hd;exact .refl _)
 | i+2=>simp at hc
theorem callP (p:DProg) (n:DNode) (e:Ex) (ts:List DTy) (hn:e.n=0∨e.n=1) (hts:e.n≤(ts.length:Int)):PCall Tryz.prog 268 [plE p n,e.enc,.lst 3 (ts.map DTy.enc) none] (nodeA (callT p e ts)):=by
 refine pcall_of_vc tabOK Tryz.func268 (by kernel_rfl) rfl (pure_cons (pure_plE p n) (pure_cons (pure_enc e) (pure_cons (DTy.pures _) pure_nil))) (pure_nodeA _) (n:=52) rfl (rs:=[.cell 6 68,.tmp 7]) rfl ?_
 simp only[go_sem]
 refine PCall.call (find23 p e.name) ?_
 by_cases hi:findF p e.name<0
 ·
  have hc:callT p e ts=(nodeD,false):=by unfold callT;rw[if_pos hi]
  rw[hc]
  generalize findF p e.name=f at hi
  simp only[go_sem]
  refine brK_dec (fun _=>?_) (fun hq=>absurd hi hq)
  simp only[go_sem]
  exact finNode0 rfl rfl
 ·
  obtain⟨m,hm⟩:=find_at hi
  have hc:callT p e ts=if e.n=1∧¬ ts.getD (ts.length-e.n.toNat) ty0=tyB then(nodeD,false) else(m,eqB (m.Ins.map DDecl.Ty) (ts.take (ts.length-e.n.toNat))):=by
   unfold callT;rw[if_neg hi,hm];rfl
  rw[hc]
  generalize findF p e.name=f at hi hm
  simp only[go_sem]
  refine brK_dec (fun hq=>absurd hq hi) (fun _=>?_)
  simp only[go_sem]
  refine elemHave (by omega) hm ?_
  simp only[go_sem]
  rcases hn with h0|h1
  ·
   rw[h0,if_neg (by simp)]
   intro hle
   rw[wrap_in _ (by omega) (by omega)]
   have e0:((ts.length:Int)-0).toNat=ts.length:=by omega
   have e1:ts.length-Int.toNat 0=ts.length:=by simp
   rw[e0,e1]
   refine⟨⟨by omega,by omega⟩,?_⟩
   repeat' first
    | simp only[go_sem]
    | refine drawC [2] mo (by kernel_rfl) ?_
    | (refine pcK_of (eqDT m.Ins (ts.take ts.length)) ?_)
    | exact finNode rfl rfl
  ·
   rw[h1]
   intro hle
   rw[wrap_in _ (by omega) (by omega)]
   have e0:((ts.length:Int)-1).toNat=ts.length-1:=by omega
   have e1:ts.length-Int.toNat 1=ts.length-1:=by simp
   have e2:(ts.take (ts.length-1)).length=ts.length-1:=by rw[List.length_take];omega
   rw[e0,e1]
   refine⟨⟨by omega,by omega⟩,?_⟩
   obtain⟨x,hx⟩:∃ x,ts[ts.length-1]?=some x:=⟨_,List.getElem?_eq_getElem (by rw[h1] at hts;omega)⟩
   have hg:ts.getD (ts.length-1) ty0=x:=by rw[List.getD_eq_getElem?_getD,hx];rfl
   rw[hg]
   simp only[go_sem]
   rw[h1] at hts
   try intro _
   try rw[e2]
   try simp only[go_sem]
   refine elemHave (x:=x) (by omega) (by simpa using hx) ?_
   repeat' first
    | simp only[go_sem]
    | (refine PCall.call (truthP x) ?_)
    | refine brK_dec (fun _=>?_) (fun _=>?_)
    | refine drawC [2] mo (by kernel_rfl) ?_
    | (refine pcK_of (eqDT m.Ins (ts.take (ts.length-1))) ?_)
    | exact finNode0 rfl (by simp[*])
    | exact finNode rfl (by simp[*])
theorem getD_at {l:List DTy} {i:Nat} {x:DTy} (hx:l[i]?=some x):l.getD i ty0=x:=by rw[List.getD_eq_getElem?_getD,hx];rfl
theorem arms_hd {l:List ByteArray} {x:ByteArray} (hx:l[((0:Int)).toNat]?=some x):l.headD ⟨#[]⟩=x:=by
 match l with
 | y::l=>simp at hx;rw[hx];rfl
theorem outs_hd {l:List DDecl} {x:DDecl} (hx:l[((0:Int)).toNat]?=some x):l.headD zeroD=x:=by
 match l with
 | y::l=>simp at hx;rw[hx];rfl
theorem flowP (p:DProg) (n:DNode) (hl:(allV n).length≤60) (e:Ex) (ts:List DTy) (hk:9≤e.kind∧e.kind≤13) (hlen:¬ e.kind=13→0<ts.length) (h9:e.kind=9→1<ts.length) (h11:e.kind=11→0<e.arms.length) (h12:(decl n e.name).1.Ty.Kind=3→0≤(decl n e.name).1.Ty.Enum∧(decl n e.name).1.Ty.Enum<p.Enums.length)
  (h13:e.kind=13→(e.n=0∨e.n=1)∧e.n≤(ts.length:Int)):PCall Tryz.prog 222 [plE p n,e.enc,.lst 3 (ts.map DTy.enc) none] (tyA (flowT p n e ts)):=by
 refine pcall_of_vc tabOK Tryz.func222 (by kernel_rfl) rfl (pure_cons (pure_plE p n) (pure_cons (pure_enc e) (pure_cons (DTy.pures _) pure_nil))) (pure_tyA _) (n:=91) rfl (rs:=[.cell 6 42,.tmp 7]) rfl ?_
 rcases(show e.kind=9∨e.kind=11∨e.kind=12∨e.kind=13∨e.kind=10 by omega) with hk|hk|hk|hk|hk
 ·
  have h1:=h9 hk
  obtain⟨t0,ht0⟩:∃ t,ts[0]?=some t:=⟨_,List.getElem?_eq_getElem (by omega)⟩
  obtain⟨t1,ht1⟩:∃ t,ts[1]?=some t:=⟨_,List.getElem?_eq_getElem (by omega)⟩
  have hf:flowT p n e ts=(t0,decide (t0=t1)):=by unfold flowT;rw[if_pos hk,getD_at ht0,getD_at ht1]
  rw[hf]
  repeat' first
   | simp only[go_sem,hk]
   | refine drawC [2] mo (by kernel_rfl) ?_
   | refine elemHave (x:=t0) (by omega) ht0 ?_
   | refine elemHave (x:=t1) (by omega) ht1 ?_
   | exact finTy rfl rfl
 ·
  obtain⟨t0,ht0⟩:∃ t,ts[0]?=some t:=⟨_,List.getElem?_eq_getElem (hlen (by omega))⟩
  obtain⟨a,ha⟩:∃ a,e.arms[0]?=some a:=⟨_,List.getElem?_eq_getElem (h11 hk)⟩
  have hf:flowT p n e ts=(t0,whenT p n e.name a):=by unfold flowT;rw[if_neg (by omega),if_pos hk,getD_at ht0,arms_hd (by simpa using ha)]
  rw[hf]
  repeat' first
   | simp only[go_sem,hk]
   | refine drawC [2] mo (by kernel_rfl) ?_
   | refine elemHave (x:=t0) (by omega) ht0 ?_
   | refine elemHave (x:=a) (by omega) ha ?_
   | (refine pcK_of (whenP p n hl e.name a) ?_)
   | exact finTy rfl rfl
 ·
  obtain⟨t0,ht0⟩:∃ t,ts[0]?=some t:=⟨_,List.getElem?_eq_getElem (hlen (by omega))⟩
  have hf:flowT p n e ts=(t0,(decl n e.name).2&&sameT ts&&armsT p.Enums (decl n e.name).1.Ty e.arms):=by unfold flowT;rw[if_neg (by omega),if_neg (by omega),if_pos hk,getD_at ht0]
  rw[hf]
  simp only[go_sem,hk]
  refine PCall.call (decl25 n e.name (by omega)) ?_
  generalize decl n e.name=d at h12
  obtain⟨d,ok⟩:=d
  repeat' first
   | simp only[go_sem,hk]
   | refine drawC [2] mo (by kernel_rfl) ?_
   | refine elemHave (x:=t0) (by omega) ht0 ?_
   | (refine pcK_of (sameP ts) ?_;generalize sameT ts=b;cases b)
   | (refine pcK_of (armsP p n d.Ty e.arms h12) ?_)
   | exact finTy rfl (by simp)
   | (cases ok)
 ·
  have h14:=h13 hk
  have hf:flowT p n e ts=if(callT p e ts).2=true∧(callT p e ts).1.Outs.length=1 then(((callT p e ts).1.Outs.headD zeroD).Ty,true) else(ty0,false):=by unfold flowT;rw[if_neg (by omega),if_neg (by omega),if_neg (by omega),if_pos hk]
  rw[hf]
  repeat' first
   | (exfalso;omega)
   | simp only[go_sem]
   | (intro _)
   | (refine PCall.call (callP p n e ts h14.1 h14.2) ?_;generalize callT p e ts=q;obtain⟨m,ok⟩:=q;cases ok)
   | refine gK_dec (fun _=>?_) (fun _=>?_)
   | refine brK_dec (fun _=>?_) (fun _=>?_)
   | refine elemMap (by omega) (by omega) (fun x hx=>?_)
   | (have hz:m.Outs.length=1:=(by omega);have ho:=outs_hd hx;refine finTy rfl ?_;rw[if_pos hz,ho])
   | (have hz:¬ m.Outs.length=1:=(by omega);refine finTy rfl ?_;rw[if_neg hz])
   | (refine finTy rfl ?_;simp;done)
 ·
  obtain⟨t0,ht0⟩:∃ t,ts[0]?=some t:=⟨_,List.getElem?_eq_getElem (hlen (by omega))⟩
  have hf:flowT p n e ts=(t0,true):=by unfold flowT;rw[if_neg (by omega),if_neg (by omega),if_neg (by omega),if_neg (by omega),getD_at ht0]
  rw[hf]
  repeat' first
   | simp only[go_sem,hk]
   | refine elemHave (x:=t0) (by omega) ht0 ?_
   | exact finTy rfl rfl
theorem cells_one {L:List DEnum} {e:Ex} {v:Int} {t:DTy} {ok:Bool} (h:litT L e=(v,t,ok)):cellsT L [e]=if ok=true then([v],t,true) else([],ty0,false):=by
 unfold cellsT sameT
 simp[h]
theorem same_no {L:List DEnum} {subs:List Ex} {i:Nat} {x u:Ex} (hx:subs[((i:Nat):Int).toNat]?=some x) (hu:subs[((0:Int)).toNat]?=some u) (hne:¬ (litT L x).2.1=(litT L u).2.1):cellsT L subs=([],ty0,false):=by
 have h0:(subs.map fun x=>(litT L x).2.1).headD ty0=(litT L u).2.1:=by
  match subs,hu with
  | y::l,hu=>simp at hu;rw[hu];rfl
 unfold cellsT sameT
 rw[List.all_eq_false.2 ⟨(litT L x).2.1,List.mem_map.2 ⟨x,List.mem_of_getElem? hx,rfl⟩,by rw[h0];simpa using hne⟩,Bool.and_false]
 rfl
theorem same_yes {L:List DEnum} {subs:List Ex} {u:Ex} (hu:subs[((0:Int)).toNat]?=some u) (h1:∀ x∈subs,(litT L x).2.2=true∧(litT L x).2.1=(litT L u).2.1):cellsT L subs=(subs.map (fun x=>(litT L x).1),(litT L u).2.1,true):=by
 have h0:(subs.map fun x=>(litT L x).2.1).headD ty0=(litT L u).2.1:=by
  match subs,hu with
  | y::l,hu=>simp at hu;rw[hu];rfl
 unfold cellsT sameT
 rw[List.all_eq_true.2 (fun x hx=>(h1 x hx).1),List.all_eq_true.2 (fun t ht=>by obtain⟨x,hx,rfl⟩:=List.mem_map.1 ht;rw[h0];exact decide_eq_true (h1 x hx).2),h0]
 rfl
theorem constX (L:List DEnum) (e:Ex) (ho:okE e):PCall Tryz.prog 142 [.lst 2 (L.map DEnum.enc) none,e.enc] (constA (constT L e)):=by
 have hsl:=subs_le ho
 refine pcall_of_vc tabOK Tryz.func142 (by kernel_rfl) rfl (by first|exact pureL|exact pureI) (pure_constA _) (n:=83) rfl (rs:=[.tmp 4,.cell 5 42,.tmp 6]) rfl ?_
 unfold constT
 have hlits:=const_lits (e:=e)
 simp only[go_sem]
 refine PCall.call (right17x e ho) ?_
 generalize rightE e=r at hlits
 cases r with
 | false =>
  simp only[go_sem]
  exact finC0 rfl (by simp)
 | true =>
 simp only[go_sem]
 refine PCall.call (const19 e) ?_
 generalize constE e=k at hlits
 cases k with
 | false =>
  simp only[go_sem]
  exact finC0 rfl (by simp)
 | true =>
 obtain⟨l1,l2⟩:=hlits rfl rfl
 simp only[go_sem]
 refine brK_dec (fun h=>?_) (fun h=>?_)
 ·
  simp only[go_sem]
  refine PCall.call (litX L e (lit5 (l2 h))) ?_
  generalize hq:litT L e=q
  obtain⟨v,t,ok⟩:=q
  have hc:=cells_one hq
  cases ok with
  | false =>
   simp only[go_sem]
   exact finC0 rfl (by simp[h,hc])
  | true =>
   simp only[go_sem]
   refine drawC [1] mo (by kernel_rfl) ?_
   simp only[go_sem]
   exact finCk (l:=[v]) rfl (by simp[h,hc])
 ·
  have h14:e.kind=14:=Classical.not_not.1 h
  obtain⟨l3,l4⟩:=l1 h14
  obtain⟨u,hu⟩:∃ u,e.subs[0]?=some u:=⟨_,List.getElem?_eq_getElem l4⟩
  simp only[go_sem]
  refine loop_fr [4,6,10,12,13,14,15,43,44,45,46,47,48,49,50,51,52,53,54,55,56,57,58,59,60,61,62,63,64,65,66,67,68,69,70,71,72,73,74,75,76,77] (fun m C hh=>∃(i:Nat) (r:List Blk) (F:DTy),i≤e.subs.length∧m=e.subs.length-i∧(∀ x∈e.subs.take i,(litT L x).2.2=true∧(litT L x).2.1=(litT L u).2.1)∧((i=0∧F=ty0)∨(0<i∧F=(litT L u).2.1)) ∧
   C=[(12,.raw (.int .i64 (i:Nat))),(10,.lst 1 (((e.subs.take i).map fun x=>(litT L x).1).map AV.i) (some 2))] ∧
   hh=.cells 72 [.i e.kind,.i e.n,.s e.name,.i e.op,.lst 1 (e.arms.map AV.s) none,.lst 6 (e.subs.map Ex.enc) none]::.cells 42 [.i 0,.i 0,.i 0]::.tok 2 1 (e.subs.take i).length::.cells 42 [.i F.Kind,.i F.Enum,.i F.Len]::r) e.subs.length _ ⟨0,[],ty0,by omega,by omega,by simp,.inl ⟨rfl,rfl⟩,rfl,rfl⟩ (.cons rfl (.cons rfl .nil)) ?_
  rintro m C ja hh ⟨i,r,F,hi,rfl,hp,hF,rfl,rfl⟩
  simp only[go_sem]
  intro _
  refine brK_dec (fun hlt=>?_) (fun hge=>?_)
  ·
   simp only[go_sem]
   refine elemMap (by omega) (by omega) (fun x hx=>?_)
   have hli:(e.subs.take i).length=i:=by rw[List.length_take];omega
   have hli2:(e.subs.take (i+1)).length=i+1:=by rw[List.length_take];omega
   have hst:=take_mapS (f:=fun x=>(litT L x).1) hx
   simp only[go_sem]
   refine PCall.call (litX L x (lit5 (l3 x (List.mem_of_getElem? hx)))) ?_
   generalize hq:litT L x=q at hst
   obtain⟨v,t,ok⟩:=q
   cases ok with
   | false =>
    simp only[go_sem]
    exact finC0 rfl (by rw[cells_no hx (by rw[hq])];simp[h14])
   | true =>
    have hx0:i=0→x=u:=fun h0=>by
     subst h0
     have:=hx.symm.trans (by simpa using hu)
     exact Option.some.inj this
    simp only[go_sem]
    refine gK_dec (fun hpos=>?_) (fun hpos=>?_)
    ·
     have hFu:F=(litT L u).2.1:=by rcases hF with ⟨h0,_⟩|⟨_,h1⟩;omega;exact h1
     simp only[go_sem]
     refine brK_dec (fun hne=>?_) (fun hne=>?_)
     ·
      simp only[go_sem]
      exact finC0 rfl (by rw[same_no hx (by simpa using hu) (by rw[hq,← hFu];exact hne)];simp[h14])
     ·
      have hte:t=F:=Classical.not_not.1 hne
      simp only[go_sem]
      refine drawC [3] mo (by kernel_rfl) ?_
      simp only[go_sem]
      refine⟨by omega,?_⟩
      exact loopFr _ (by omega) ⟨i+1,_,t,by omega,rfl,take_all hp (by simpa using hx) ⟨by rw[hq],by rw[hq];exact hte.trans hFu⟩,.inr ⟨by omega,hte.trans hFu⟩,rfl,by rw[hli2,hli]⟩ (.next rfl (by omega) (.cons (by rw[hst];simp[slot]) .nil)) rfl
    ·
     have hi0:i=0:=by omega
     have hxu:=hx0 hi0
     have hte:t=(litT L u).2.1:=by rw[← hxu,hq]
     simp only[go_sem]
     refine drawC [3] mo (by kernel_rfl) ?_
     simp only[go_sem]
     refine⟨by omega,?_⟩
     exact loopFr _ (by omega) ⟨i+1,_,t,by omega,rfl,take_all hp (by simpa using hx) ⟨by rw[hq],by rw[hq];exact hte⟩,.inr ⟨by omega,hte⟩,rfl,by rw[hli2,hli]⟩ (.next rfl (by omega) (.cons (by rw[hst];simp[slot]) .nil)) rfl
  ·
   have hil:i=e.subs.length:=by omega
   subst hil
   rw[List.take_length] at hp ⊢
   have hFu:F=(litT L u).2.1:=by rcases hF with ⟨h0,_⟩|⟨_,h1⟩;omega;exact h1
   have hc:=same_yes (by simpa using hu) hp
   rw[hc,← hFu]
   simp only[go_sem]
   intro _
   refine drawC [1] mo (by kernel_rfl) ?_
   simp only[go_sem]
   exact finCk rfl (by simp[h14])
abbrev namesP (f:DFlow):List (List ByteArray):=f.Eqs.map DPlain.Names
theorem waits110 (f:DFlow) (pl:List Bool) (s:ByteArray) (hl:pl.length=f.Eqs.length) {h:List Blk} {k:Nat} {K:AV→List Blk→Prop} (hb:blkCells h k=some (pl.map AV.b)) (hK:K (.b (waitsF (namesP f) pl s)) h) :
  ACall Tryz.prog 149 [f.enc,.sl 1 k 0 pl.length,.s s] h K:=by
 obtain⟨t,hb⟩:=blk_at hb
 refine acall_of_vc tabOK Tryz.func149 (by kernel_rfl) rfl (n:=45) rfl (rs:=[.tmp 6]) rfl ?_
 repeat' first
  | exact finB rfl
  | exact finI rfl
  | exact finP rfl
  | exact absurd rfl (by assumption)
  | simp only[go_sem]
  | (intro _)
  | refine brK_dec (fun _=>?_) (fun _=>?_)
  | refine brK_any ?_ ?_
  | refine gK_dec (fun _=>?_) (fun _=>?_)
  | refine gK_any ?_ ?_
  | refine gqK_dec (fun _=>?_) (fun _=>?_)
  | refine⟨by omega,?_⟩
  | refine elemHave (by omega) (by assumption) ?_
  | refine elemMap (by omega) (by omega) (fun x hx=>?_)
  | refine drawK mo (by kernel_rfl) ?_
  | (simp only[go_sem,at_app0])
  | (rw[NoW.done hpi (by rw[List.length_map];omega)] at hK;exact finH0 _ rfl (.raw _) hK)
  | (rw[waits_yes (map_some hq) hpx (mem_eq hx (by assumption))] at hK;exact finH0 _ rfl (.raw _) hK)
  | ((fail_if_success (clear hq));obtain⟨q,hq⟩:∃ q,f.Eqs[((i:Nat):Int).toNat]?=some q:=⟨_,List.getElem?_eq_getElem (by rw[Int.toNat_natCast];omega)⟩;have hpx:pl[i]?=some pl[i]:=List.getElem?_eq_getElem (by omega);generalize pl[i]=b at hpx;cases b)
  | (simp only[go_sem,at_old hb,Nat.zero_add,Nat.mul_one,Int.toNat_natCast,dropB hpx])
  | exact loopFrH _ (by omega) ⟨i+1,by omega,rfl,NoW.step hpi (map_some hq) (not_take hpj (by omega)),rfl⟩ (.next rfl (by omega) .nil) rfl
  | (refine loop_frH [6,7,8,9,10,11,12,13,14,15,16,17,18,19,20,21,22,23,24,25,26,27,28,29,30,31,32,33,34,35,36,37,38,39,40,41,42,43,44] (fun mm_ CC_=>∃(i:Nat),i≤f.Eqs.length∧mm_=f.Eqs.length-i∧(NoW (namesP f) pl s i)∧CC_=[(7,.raw (.int .i64 ((i:Nat):Int)))]) (f.Eqs.length) _ ⟨0,by omega,by omega,NoW.zero,rfl⟩ (.cons rfl .nil) ?_;rintro mm_ CC_ ji ⟨i,hi,rfl,hpi,rfl⟩)
  | exact loopFrH _ (by omega) ⟨j+1,by omega,rfl,(by first|exact not_step hpj (by assumption) (fun _=>by assumption)|exact fun h=>absurd (hpx.symm.trans h) (by simp)),rfl⟩ (.next rfl (by omega) .nil) rfl
  | (refine loop_frH [6,8,16,17,18,19,20,21,22,23,24,25,26,27,28,29,30,31,32,33,34,35,36,37,38,39,40,41,42,43,44] (fun mm_ CC_=>∃(j:Nat),j≤q.Names.length∧mm_=q.Names.length-j∧(pl[i]?=some false→s ∉ q.Names.take j)∧CC_=[(8,.raw (.int .i64 ((j:Nat):Int)))]) (q.Names.length) _ ⟨0,by omega,by omega,by simp,rfl⟩ (.cons rfl .nil) ?_;rintro mm_ CC_ jj ⟨j,hj,rfl,hpj,rfl⟩)
end Go.Proofs.YtpamokpmlplopaaGreatDoor
