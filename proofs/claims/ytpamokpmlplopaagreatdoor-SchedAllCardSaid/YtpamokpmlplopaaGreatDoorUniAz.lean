/-
  CaK, StK, NmD, NmE, TyKP, TyKC, CkP: put together.
-/
import Derived.Test.YtpamokpmlplopaaGreatDoorUniAk
import Derived.Test.YtpamokpmlplopaaGreatDoorUniAo
import Derived.Test.YtpamokpmlplopaaGreatDoorUniAq
import Derived.Test.YtpamokpmlplopaaGreatDoorUniAw
import Derived.Test.YtpamokpmlplopaaGreatDoorUniAy
namespace Go.Proofs.YtpamokpmlplopaaGreatDoor
open Go.Abs
set_option maxRecDepth 20000
set_option linter.unusedSimpArgs false
set_option linter.unusedVariables false
set_option maxHeartbeats 1000000
attribute [local irreducible] vc vcOps vcStep vcGuard prK hrK gK gsK brK callK ElemK SeqK BlockK ScopeK OpsK CallK LoopK LoopGo finPost ACall PCall PCallE BCall vqOps vqStep vqGuard qrK heK pcK gqK gqsK QOpsK qcallK DrawK
def nodeCa (a:Nat) (n:DNode):DFault :=
 if(orderF (namesC n) (hangsC n)).2=true then⟨0,0,0⟩ else firstE (a:Int) 9 (fun k _=>decide (k∈(orderF (namesC n) (hangsC n)).1)) 0 n.Eqs
noncomputable def causeF (p:DProg):DFault:=if(clockF p).Err=0 then firstF nodeCa 0 p.Nodes else clockF p
theorem nodeCa_zero {a:Nat} {n:DNode} (h:(nodeCa a n).Err=0):nodeCa a n=⟨0,0,0⟩∧((orderF (namesC n) (hangsC n)).2=true∨∀(k:Nat) q,n.Eqs[k]?=some q→k∈(orderF (namesC n) (hangsC n)).1):=by
 unfold nodeCa at *
 split at h
 ·
  rename_i h0
  rw[if_pos h0]
  exact⟨rfl,.inl h0⟩
 ·
  rename_i h0
  rw[if_neg h0]
  obtain⟨h1,h2⟩:=firstE_zero (by decide) h
  exact⟨h1,.inr fun k q hq=>by simpa using h2 k q hq⟩
theorem cause_zero {p:DProg} (h:(causeF p).Err=0):causeF p=⟨0,0,0⟩∧(clockF p).Err=0∧∀(k:Nat) n,p.Nodes[k]?=some n→(nodeCa k n).Err=0:=by
 unfold causeF at *
 split at h
 ·
  rename_i h0
  rw[if_pos h0]
  obtain⟨h1,h2⟩:=firstF_zero h
  exact⟨h1,h0,fun k n hk=>by have:=h2 k n hk;simpa using this⟩
 ·
  rename_i h0;exact absurd h h0
def eqSt (q:DEq):Bool:=!(lt q.E).1&&(lt q.E).2
def nodeSt (a:Nat) (n:DNode):DFault:=firstE (a:Int) 10 (fun _ q=>eqSt q) 0 n.Eqs
noncomputable def startF (p:DProg):DFault:=if(causeF p).Err=0 then firstF nodeSt 0 p.Nodes else causeF p
theorem start_zero {p:DProg} (h:(startF p).Err=0):startF p=⟨0,0,0⟩∧(causeF p).Err=0∧∀(k:Nat) n,p.Nodes[k]?=some n→(nodeSt k n).Err=0:=by
 unfold startF at *
 split at h
 ·
  rename_i h0
  rw[if_pos h0]
  obtain⟨h1,h2⟩:=firstF_zero h
  exact⟨h1,h0,fun k n hk=>by have:=h2 k n hk;simpa using this⟩
 ·
  rename_i h0;exact absurd h h0
section
structure NmSt where
 vars:List DVar
 eqs:List DPlain
 k:Nat
abbrev noAtom:DAtom:=⟨⟨#[]⟩,0⟩
def plain0 (kind op:Int) (args:List DAtom):DPlain:=⟨kind,[],op,args,[],0,false,noAtom,[]⟩
def cellsZ (t:DTy):Nat:=if t.Len<1 then 1 else if t.Len>8 then 8 else t.Len.toNat
section
variable (nm:Nat→ByteArray) (ty:Ex→DTy) (cn:Ex→List Int) (va:ByteArray→Int) (fi:ByteArray→Int)
def freshN (q:DPlain) (t:DTy) (on:List DCond) (st:NmSt):DAtom × NmSt :=
 (⟨nm (st.k+1),0⟩,⟨st.vars++[⟨nm (st.k+1),t,on⟩],st.eqs++[{ q with Names:=[nm (st.k+1)],On:=on }],st.k+1⟩)
def leafK (k:Int):Bool:=decide (k=1∨k=2∨k=3∨k=4)
def leafA (e:Ex):DAtom:=if e.kind=3 then⟨e.name,0⟩ else if e.kind=4 then⟨⟨#[]⟩,va e.name⟩ else⟨⟨#[]⟩,e.n⟩
def headN (e:Ex) (ats:List DAtom) (frst:DAtom):DPlain :=
 if e.kind=5 then plain0 2 e.op ats else if e.kind=6 then plain0 3 e.op ats else if e.kind=7 then plain0 4 e.op ats
 else if e.kind=14 then plain0 8 e.op ats else if e.kind=15 then plain0 9 e.op ats else if e.kind=16 then plain0 10 e.op ats
 else if e.kind=8 then { plain0 5 0 ats with Init:=cn (e.subs.headD e) }
 else if e.kind=10 then { plain0 5 0 ats with Init:=List.replicate (cellsZ (ty e)) 0 }
 else if e.kind=9 then plain0 4 0 (frst::ats)
 else if e.kind=11 then plain0 1 0 ats
 else if e.kind=12 then plain0 6 0 (⟨e.name,0⟩::ats)
 else if e.kind=13 then(if e.n=1 then { plain0 7 0 (ats.take (ats.length-1)) with Node:=fi e.name,Reset:=true,Every:=ats.getLastD noAtom } else { plain0 7 0 ats with Node:=fi e.name })
 else plain0 1 0 [leafA va e]
def frstN (e:Ex) (on:List DCond) (st:NmSt):DAtom × NmSt :=
 if e.kind=9 then freshN nm { plain0 5 0 [noAtom] with Init:=[1] } tyB on st else(noAtom,st)
def onN (e:Ex) (on:List DCond):List DCond:=if e.kind=11 then on.dropLast else on
mutual
def plainN:Ex→List DCond→NmSt→DPlain × NmSt
 | .mk k n m op arms subs,on,st =>
  let f:=frstN nm (.mk k n m op arms subs) on st
  let r:=if k=12 then mergeN m arms subs on f.2 else if k=8 then tailN subs on f.2 else eachN subs (onN (.mk k n m op arms subs) on) f.2
  (headN ty cn va fi (.mk k n m op arms subs) r.1 f.1,r.2)
def eachN:List Ex→List DCond→NmSt→List DAtom × NmSt
 | [],_,st=>([],st)
 | x::l,on,st =>
  let a:=if leafK x.kind=true then(leafA va x,st) else freshN nm (plainN x on st).1 (ty x) on (plainN x on st).2
  ((a.1::(eachN l on a.2).1),(eachN l on a.2).2)
def tailN:List Ex→List DCond→NmSt→List DAtom × NmSt
 | [],_,st=>([],st)
 | _::l,on,st=>eachN l on st
def mergeN (m:ByteArray):List ByteArray→List Ex→List DCond→NmSt→List DAtom × NmSt
 | _,[],_,st=>([],st)
 | [],_::_,_,st=>([],st)
 | c::cs,x::l,on,st =>
  let a:=if leafK x.kind=true then(leafA va x,st) else freshN nm (plainN x (on++[⟨m,va c⟩]) st).1 (ty x) (on++[⟨m,va c⟩]) (plainN x (on++[⟨m,va c⟩]) st).2
  ((a.1::(mergeN m cs l on a.2).1),(mergeN m cs l on a.2).2)
end
def atomN (x:Ex) (on:List DCond) (st:NmSt):DAtom × NmSt:=if leafK x.kind=true then(leafA va x,st) else freshN nm (plainN nm ty cn va fi x on st).1 (ty x) on (plainN nm ty cn va fi x on st).2
def argsN (e:Ex) (on:List DCond) (st:NmSt):List DAtom × NmSt :=
 if e.kind=12 then mergeN nm ty cn va fi e.name e.arms e.subs on st else if e.kind=8 then eachN nm ty cn va fi (e.subs.drop 1) on st else eachN nm ty cn va fi e.subs (onN e on) st
theorem plainN_eq (e:Ex) (on:List DCond) (st:NmSt):plainN nm ty cn va fi e on st=(headN ty cn va fi e (argsN nm ty cn va fi e on (frstN nm e on st).2).1 (frstN nm e on st).1,(argsN nm ty cn va fi e on (frstN nm e on st).2).2):=by
 cases e with
 | mk k n m op arms subs =>
  have ht:∀ st,tailN nm ty cn va fi subs on st=eachN nm ty cn va fi (subs.drop 1) on st:=fun st=>by cases subs<;>simp[tailN,eachN]
  rw[plainN]
  unfold argsN
  simp only[Ex.kind,Ex.name,Ex.arms,Ex.subs]
  rw[ht]
  rfl
theorem eachN_nil (on:List DCond) (st:NmSt):eachN nm ty cn va fi [] on st=([],st):=by rw[eachN]
theorem eachN_cons (x:Ex) (l:List Ex) (on:List DCond) (st:NmSt):eachN nm ty cn va fi (x::l) on st=((atomN nm ty cn va fi x on st).1::(eachN nm ty cn va fi l on (atomN nm ty cn va fi x on st).2).1,(eachN nm ty cn va fi l on (atomN nm ty cn va fi x on st).2).2):=by
 rw[eachN]
 rfl
theorem mergeN_cons (m c:ByteArray) (cs:List ByteArray) (x:Ex) (l:List Ex) (on:List DCond) (st:NmSt):mergeN nm ty cn va fi m (c::cs) (x::l) on st=((atomN nm ty cn va fi x (on++[⟨m,va c⟩]) st).1::(mergeN nm ty cn va fi m cs l on (atomN nm ty cn va fi x (on++[⟨m,va c⟩]) st).2).1,(mergeN nm ty cn va fi m cs l on (atomN nm ty cn va fi x (on++[⟨m,va c⟩]) st).2).2):=by
 rw[mergeN]
 rfl
theorem eachN_append:∀(l m:List Ex) (on:List DCond) (st:NmSt),eachN nm ty cn va fi (l++m) on st=((eachN nm ty cn va fi l on st).1++(eachN nm ty cn va fi m on (eachN nm ty cn va fi l on st).2).1,(eachN nm ty cn va fi m on (eachN nm ty cn va fi l on st).2).2)
 | [],m,on,st=>by rw[eachN_nil];simp
 | x::l,m,on,st=>by
  rw[List.cons_append,eachN_cons,eachN_cons,eachN_append l m]
  rfl
theorem eachN_len:∀(l:List Ex) (on:List DCond) (st:NmSt),(eachN nm ty cn va fi l on st).1.length=l.length
 | [],on,st=>by rw[eachN_nil];rfl
 | x::l,on,st=>by rw[eachN_cons];simp[eachN_len l]
end
mutual
def frN:Ex→Nat
 | .mk k _ _ _ _ subs=>(if k=9 then 1 else 0)+(if k=8 then frT subs else frL subs)
def frL:List Ex→Nat
 | []=>0
 | x::l=>(if leafK x.kind=true then 0 else frN x+1)+frL l
def frT:List Ex→Nat
 | []=>0
 | _::l=>frL l
end
end
section
section
variable (nm:Nat→ByteArray) (ty:Ex→DTy) (cn:Ex→List Int) (va:ByteArray→Int) (fi:ByteArray→Int)
def grewN (st st':NmSt) (n:Nat):Prop:=st'.k=st.k+n∧st'.vars.length=st.vars.length+n∧st'.eqs.length=st.eqs.length+n
theorem grewN.refl (st:NmSt):grewN st st 0:=⟨rfl,rfl,rfl⟩
theorem grewN.trans {a b c:NmSt} {n m:Nat} (h:grewN a b n) (h2:grewN b c m):grewN a c (n+m):=⟨by rw[h2.1,h.1];omega,by rw[h2.2.1,h.2.1];omega,by rw[h2.2.2,h.2.2];omega⟩
theorem grewN.fresh (q:DPlain) (t:DTy) (on:List DCond) (st:NmSt):grewN st (freshN nm q t on st).2 1:=⟨rfl,by simp[freshN],by simp[freshN]⟩
def gN (x:Ex):Nat:=if leafK x.kind=true then 0 else frN x+1
theorem frL_cons (x:Ex) (l:List Ex):frL (x::l)=gN x+frL l:=by rw[frL];rfl
theorem frL_append (l m:List Ex):frL (l++m)=frL l+frL m:=by
 induction l with
 | nil=>simp[frL]
 | cons x l ih=>rw[List.cons_append,frL_cons,frL_cons,ih];omega
theorem frN_eq (e:Ex):frN e=(if e.kind=9 then 1 else 0)+(if e.kind=8 then frL (e.subs.drop 1) else frL e.subs):=by
 cases e with
 | mk k n m op arms subs =>
  have ht:frT subs=frL (subs.drop 1):=by cases subs<;>simp[frT,frL]
  rw[frN,ht]
  rfl
theorem each_grew_of {l:List Ex} (h:∀ x∈l,∀ on st,grewN st (plainN nm ty cn va fi x on st).2 (frN x)):∀ on st,grewN st (eachN nm ty cn va fi l on st).2 (frL l):=by
 induction l with
 | nil=>intro on st;rw[eachN_nil];exact grewN.refl st
 | cons x l ih =>
  intro on st
  rw[eachN_cons,frL_cons]
  refine grewN.trans ?_ (ih (fun y hy=>h y (List.mem_cons_of_mem _ hy)) on _)
  unfold atomN gN
  split
  ·
   exact grewN.refl st
  ·
   exact(h x List.mem_cons_self on st).trans (grewN.fresh nm _ _ _ _)
theorem merge_grew_of {l:List Ex} (h:∀ x∈l,∀ on st,grewN st (plainN nm ty cn va fi x on st).2 (frN x)) (m:ByteArray):∀(arms:List ByteArray),arms.length=l.length→∀ on st,grewN st (mergeN nm ty cn va fi m arms l on st).2 (frL l):=by
 induction l with
 | nil=>intro arms _ on st;rw[mergeN];exact grewN.refl st
 | cons x l ih =>
  intro arms ha on st
  match arms,ha with
  | c::cs,ha =>
   rw[mergeN_cons,frL_cons]
   refine grewN.trans ?_ (ih (fun y hy=>h y (List.mem_cons_of_mem _ hy)) cs (by simpa using ha) on _)
   unfold atomN gN
   split
   ·
    exact grewN.refl st
   ·
    exact(h x List.mem_cons_self _ st).trans (grewN.fresh nm _ _ _ _)
theorem plain_grew (e:Ex):(∀ y∈parts e,partE y=true)→∀ on st,grewN st (plainN nm ty cn va fi e on st).2 (frN e):=by
 induction e using Ex.ind with
 | _ e ih =>
 intro hp on st
 have ih':∀ x∈e.subs,∀ on st,grewN st (plainN nm ty cn va fi x on st).2 (frN x):=fun x hx=>ih x hx (sub_ok hp hx)
 have hf:grewN st (frstN nm e on st).2 (if e.kind=9 then 1 else 0):=by
  unfold frstN
  split
  ·
   exact grewN.fresh nm _ _ _ _
  ·
   exact grewN.refl st
 rw[plainN_eq,frN_eq]
 refine hf.trans ?_
 unfold argsN
 generalize (frstN nm e on st).2=st1
 by_cases h12:e.kind=12
 ·
  rw[if_pos h12,if_neg (by omega)]
  have h1:e.arms.length=e.subs.length:=by
   obtain⟨_,hlo,hhi,_⟩:=part_facts (hp e (self_parts e))
   have:(subsE e).1=e.arms.length∧(subsE e).2=e.arms.length:=by simp[subsE,h12]
   omega
  exact merge_grew_of nm ty cn va fi ih' e.name e.arms h1 on st1
 ·
  rw[if_neg h12]
  by_cases h8:e.kind=8
  ·
   rw[if_pos h8,if_pos h8]
   exact each_grew_of nm ty cn va fi (fun x hx=>ih' x (List.mem_of_mem_drop hx)) on st1
  ·
   rw[if_neg h8,if_neg h8]
   exact each_grew_of nm ty cn va fi ih' _ st1
theorem each_grew {l:List Ex} (hp:∀ x∈l,∀ y∈parts x,partE y=true) (on:List DCond) (st:NmSt):grewN st (eachN nm ty cn va fi l on st).2 (frL l):=each_grew_of nm ty cn va fi (fun x hx=>plain_grew nm ty cn va fi x (hp x hx)) on st
end
theorem frL_le {l:List Ex} (h:∀ x∈l,2 * gN x+1≤3 * (parts x).length):2 * frL l+l.length≤3 * (partsL l).length:=by
 induction l with
 | nil=>simp[frL,partsL]
 | cons x l ih =>
  have h1:=h x List.mem_cons_self
  have h2:=ih fun y hy=>h y (List.mem_cons_of_mem _ hy)
  rw[frL_cons,partsL,List.length_append,List.length_cons]
  omega
theorem frL_drop (l:List Ex):frL (l.drop 1)≤frL l:=by
 cases l with
 | nil=>simp
 | cons x l=>rw[frL_cons];simp
theorem gN_le (e:Ex):(∀ y∈parts e,partE y=true)→2 * gN e+1≤3 * (parts e).length∧(leafK e.kind=false→2 * frN e+3≤3 * (parts e).length):=by
 induction e using Ex.ind with
 | _ e ih =>
 intro hp
 have hL:=frL_le (l:=e.subs) fun x hx=>(ih x hx (sub_ok hp hx)).1
 have hpl:(parts e).length=(partsL e.subs).length+1:=parts_lenC e
 have hd:=frL_drop e.subs
 have h9:e.kind=9→e.subs.length=2:=fun h=>by
  obtain⟨_,hlo,hhi,_⟩:=part_facts (hp e (self_parts e))
  have:(subsE e).1=2∧(subsE e).2=2:=by simp[subsE,h]
  omega
 have hfr:2 * frN e+3≤3 * (parts e).length:=by
  rw[frN_eq]
  by_cases h:e.kind=9
  ·
   have:=h9 h
   rw[if_pos h,if_neg (by omega)]
   omega
  ·
   rw[if_neg h]
   split<;>omega
 refine⟨?_,fun _=>hfr⟩
 unfold gN
 split<;>omega
end
section
section
variable {α β:Type} {f:α→β} {l:List α} {m:List β} {i:Nat} {x:α} {y:β}
theorem mt_step (h:(l.take i).map f=m.take i) (hx:l[i]?=some x) (hy:m[i]?=some y) (e:f x=y):(l.take (i+1)).map f=m.take (i+1):=by
 obtain⟨hi,rfl⟩:=List.getElem?_eq_some_iff.1 hx
 obtain⟨hj,rfl⟩:=List.getElem?_eq_some_iff.1 hy
 rw[List.take_succ_eq_append_getElem hi,List.take_succ_eq_append_getElem hj,List.map_append,h,← e]
 rfl
theorem mt_no (hx:l[i]?=some x) (hy:m[i]?=some y) (e:¬ f x=y):eqB (l.map f) m=false:=by
 refine eqB_ne fun h=>e ?_
 rw[← h,List.getElem?_map,hx] at hy
 exact Option.some.inj hy
theorem mt_len (h:¬ (l.length:Int)=(m.length:Int)):eqB (l.map f) m=false:=eqB_ne fun e=>h (by rw[← e,List.length_map])
theorem mt_yes (h:(l.take i).map f=m.take i) (hl:(l.length:Int)=(m.length:Int)) (hi:l.length≤i):eqB (l.map f) m=true:=by
 rw[List.take_of_length_le hi,List.take_of_length_le (by omega)] at h
 exact eqB_eq h
end
theorem eqST {l:List ByteArray} {m:List DTy} {f:ByteArray→DTy} {g:Nat} {first capt:List AV} {h:List Blk} {K:AV→List Blk→Prop}
  (hp:∀ x∈l,∀ y∈m,∀(r:List Blk) (K:AV→List Blk→Prop),K (.b (decide (f x=y))) (h++r)→ACall Tryz.prog g (first++AV.s x::DTy.enc y::capt) (h++r) K)
  (hK:K (.b (eqB (l.map f) m)) h):ACall Tryz.prog 249 [.lst 1 (l.map AV.s) none,.lst 3 (m.map DTy.enc) none,.fn (.func g) first capt] h K:=by
 refine acall_of_vc tabOK Tryz.func249 (by kernel_rfl) rfl (n:=32) rfl (rs:=[.tmp 6]) rfl ?_
 simp only[go_sem]
 intro _ _
 refine brK_dec (fun hne=>?_) (fun heq=>?_)
 ·
  rw[mt_len (f:=f) (l:=l) (m:=m) (by omega)] at hK
  simp only[go_sem]
  exact finH1 rfl (.raw _) hK
 have hlm:(l.length:Int)=m.length:=by omega
 simp only[go_sem]
 intro _
 refine loop_frX [6,7,8,9,17,18,19,20,21,22,23,24,25,26,27,28,29,30,31] (fun n C=>∃ i:Nat,i≤l.length∧n=l.length-i∧(l.take i).map f=m.take i∧C=[(17,.raw (.int .i64 (i:Nat)))]) l.length _ ⟨0,by omega,by omega,rfl,rfl⟩ (.cons rfl .nil) ?_
 rintro n C ja r ⟨i,hi,rfl,hp0,rfl⟩
 simp only[go_sem]
 refine brK_dec (fun hlt=>?_) (fun hge=>?_)
 ·
  obtain⟨x,hx⟩:∃ x,l[i]?=some x:=⟨_,List.getElem?_eq_getElem (by omega)⟩
  obtain⟨y,hy⟩:∃ y,m[i]?=some y:=⟨_,List.getElem?_eq_getElem (by omega)⟩
  simp only[go_sem]
  refine elemHave (x:=x) (by omega) (by simpa using hx) ?_
  simp only[go_sem]
  refine elemHave (x:=y) (by omega) (by simpa using hy) ?_
  simp only[go_sem]
  refine hp x (List.mem_of_getElem? hx) y (List.mem_of_getElem? hy) _ _ ?_
  simp only[go_sem]
  refine brK_dec (fun he=>?_) (fun he=>?_)
  ·
   rw[mt_no hx hy he] at hK
   simp only[go_sem]
   exact finH0 _ rfl (.raw _) hK
  ·
   simp only[go_sem]
   exact loopFrX _ (by omega) _ ⟨i+1,by omega,rfl,mt_step hp0 hx hy (Classical.not_not.1 he),rfl⟩ (.next rfl (by omega) .nil) rfl (by first|rfl|(simp only[List.append_assoc,List.cons_append,List.nil_append];rfl))
 ·
  rw[mt_yes hp0 hlm (by omega)] at hK
  simp only[go_sem]
  exact finH0 _ rfl (.raw _) hK
abbrev plB (p:DProg) (n:DNode):Blk:=.cells 204 [.lst 2 (p.Enums.map DEnum.enc) none,.lst 5 (p.Nodes.map DNode.enc) none,.s n.Name,.lst 6 (n.Ins.map DDecl.enc) none,.lst 6 (n.Outs.map DDecl.enc) none,.lst 6 (n.Vars.map DDecl.enc) none,.lst 7 (n.Eqs.map DEq.enc) none]
theorem eqC (p:DProg) (n:DNode) (hl:(allV n).length≤60) (x:ByteArray) (y:DTy) (r:List Blk) {K:AV→List Blk→Prop} (hK:K (.b (decide ((decl n x).1.Ty=y))) (plB p n::r)):ACall Tryz.prog 248 [.s x,y.enc,.ptr 0 0] (plB p n::r) K:=by
 refine acall_of_vc tabOK Tryz.func248 (by kernel_rfl) rfl (n:=19) rfl (rs:=[.tmp 5]) rfl ?_
 simp only[go_sem]
 refine PCall.call (decl25 n x (by omega)) ?_
 generalize decl n x=q at hK
 obtain⟨d,ok⟩:=q
 simp only[go_sem]
 exact finH0 (h:=plB p n::r) _ rfl (.raw _) hK
abbrev toldA (q:List DTy × Bool):AV:=.tup [.lst 3 (q.1.map DTy.enc) none,.b q.2]
theorem pure_toldA (q:List DTy × Bool):Go.Abs.Pure (toldA q):=.tup _ (pure_cons (DTy.pures _) (pure_cons (.raw _) pure_nil))
theorem finTk2 {T:TypeId→TI} {rs:List ResultVar} {s:List AV} {h:List Blk} {q:List DTy × Bool} {ts:List AV} {k:Option Nat} {ok:Bool} (hr:resAV T s h rs=some [.lst 3 ts k,.b ok]) (h1:ts=q.1.map DTy.enc) (h2:ok=q.2):Go.Abs.Fin T rs (toldA q) s h:=by
 subst h1 h2
 refine⟨_,hr,false,Weak.tups ⟨?_,.refl _,trivial⟩⟩
 cases k
 ·
  exact .refl _
 ·
  exact .tok _ _ _
theorem finT0 {T:TypeId→TI} {rs:List ResultVar} {s:List AV} {h:List Blk} {q:List DTy × Bool} {ok:Bool} (hr:resAV T s h rs=some [.raw (.slice none 0 0),.b ok]) (hq:q=([],ok)):Go.Abs.Fin T rs (toldA q) s h:=by
 subst hq
 exact⟨_,hr,false,Weak.tups ⟨.nil _,.refl _,trivial⟩⟩
theorem callT_mem (p:DProg) (e:Ex) (ts:List DTy):(callT p e ts).1∈p.Nodes∨(callT p e ts).1=nodeD:=by
 unfold callT
 split
 ·
  exact .inr rfl
 ·
  rename_i h
  split
  ·
   exact .inr rfl
  ·
   obtain⟨m,hm⟩:=find_at h
   rw[hm]
   exact .inl (List.mem_of_getElem? hm)
theorem toldC (p:DProg) (hN:∀ m∈p.Nodes,m.Outs.length≤1000) (n:DNode) (ho:tyOK p n) (e:Ex) (hp:∀ y∈parts e,partE y=true) (hok:okE e):PCall Tryz.prog 247 [plE p n,e.enc] (toldA (toldP p n e)):=by
 have hsl:=subs_le hok
 obtain⟨hk,hlo,hhi,ha11,ha12,hn13⟩:=part_facts (hp e (self_parts e))
 refine pcall_of_vc tabOK Tryz.func247 (by kernel_rfl) rfl (pure_cons (pure_plE p n) (pure_cons (pure_enc e) pure_nil)) (pure_toldA _) (n:=56) rfl (rs:=[.tmp 4,.tmp 5]) rfl ?_
 unfold toldP
 by_cases h13:e.kind=13
 ·
  rw[if_pos h13]
  have hsub:=subsP p n e hsl (fun x hx=>ofP p n ho x (sub_ok hp hx) (sub_okE hok hx))
  have hlen:∀ ts,allS (ofL p n e.subs)=some ts→ts.length=e.subs.length:=fun ts h=>by rw[allS_len h,ofL_map,List.length_map]
  generalize allS (ofL p n e.subs)=S at hsub hlen
  cases S with
  | none =>
   have hsub:PCall Tryz.prog 221 [plE p n,e.enc] (.tup [.lst 3 [] none,.b false]):=hsub
   simp only[go_sem]
   refine brK_dec (fun hz=>absurd h13 hz) (fun _=>?_)
   simp only[go_sem]
   refine PCall.call hsub ?_
   simp only[go_sem]
   exact finT0 rfl rfl
  | some ts =>
   have hl:=hlen ts rfl
   have hsub:PCall Tryz.prog 221 [plE p n,e.enc] (.tup [.lst 3 (ts.map DTy.enc) none,.b true]):=hsub
   have h1:(subsE e).1=e.n:=by simp[subsE,h13]
   have hc:=callP p n e ts (hn13 h13) (by omega)
   have hmo:(callT p e ts).1.Outs.length≤1000:=by
    rcases callT_mem p e ts with h|h
    ·
     exact hN _ h
    ·
     rw[h];simp[nodeD]
   generalize hc':callT p e ts=q at hc hmo
   obtain⟨m,ok⟩:=q
   dsimp only at hmo
   simp only[go_sem]
   refine brK_dec (fun hz=>absurd h13 hz) (fun _=>?_)
   simp only[go_sem]
   refine PCall.call hsub ?_
   simp only[go_sem]
   refine PCall.call hc ?_
   simp only[go_sem]
   intro _
   refine loop_ghost (ghost_tok 11 42 3 rfl) ?_
   refine loop_fr [11,13,44,45,46,47,48,49,50,51,52,53] (fun n_ C hh=>∃(i:Nat) (r:List Blk),i≤m.Outs.length∧n_=m.Outs.length-i∧C=[(44,.raw (.int .i64 (i:Nat))),(11,.lst 3 (((m.Outs.take i).map DDecl.Ty).map DTy.enc) (some 3))] ∧
    hh=plB p n::.cells 72 [.i e.kind,.i e.n,.s e.name,.i e.op,.lst 1 (e.arms.map AV.s) none,.lst 6 (e.subs.map Ex.enc) none]::nodeB m::.tok 42 3 i::r) m.Outs.length _ ⟨0,[],by omega,by omega,rfl,rfl⟩ (.cons rfl (.cons rfl .nil)) ?_
   rintro n_ C ja hh ⟨i,r,hi,rfl,rfl,rfl⟩
   simp only[go_sem]
   refine brK_dec (fun hlt=>?_) (fun hge=>?_)
   ·
    obtain⟨d,hd⟩:∃ d,m.Outs[i]?=some d:=⟨_,List.getElem?_eq_getElem (by omega)⟩
    simp only[go_sem]
    refine elemHave (x:=d) (by omega) (by simpa using hd) ?_
    simp only[go_sem]
    have hti:(m.Outs.take i).length=i:=by rw[List.length_take];omega
    refine⟨by omega,?_⟩
    exact loopFr _ (by omega) ⟨i+1,_,by omega,rfl,rfl,by rw[hti]⟩ (.next rfl (by omega) (.cons (by rw[take_mapS (f:=DDecl.Ty) (by simpa using hd)];simp[DTy.enc_eq]) .nil)) rfl
   ·
    simp only[go_sem]
    rw[List.take_of_length_le (by omega)]
    exact finTk2 rfl (by rw[hc']) (by rw[hc'])
 ·
  rw[if_neg h13]
  have hc:=ofP p n ho e hp hok
  unfold OfC at hc
  generalize headP p n e (ofL p n e.subs)=q at hc
  obtain⟨t,ok⟩:=q
  simp only[go_sem]
  refine brK_dec (fun _=>?_) (fun hz=>absurd h13 (by omega))
  simp only[go_sem]
  refine PCall.call hc ?_
  simp only[go_sem]
  exact finTk2 rfl (by simp[DTy.enc_eq]) rfl
theorem eqP (p:DProg) (hN:∀ m∈p.Nodes,m.Outs.length≤1000) (n:DNode) (ho:tyOK p n) (q:DEq) (hp:∀ y∈parts q.E,partE y=true) (hok:okE q.E):PCall Tryz.prog 198 [plE p n,q.enc] (.b (eqTy p n q)):=by
 refine pcall_of_vc tabOK Tryz.func198 (by kernel_rfl) rfl (pure_cons (pure_plE p n) (pure_cons (DEq.pure _) pure_nil)) (.raw _) (n:=24) rfl (rs:=[.tmp 4]) rfl ?_
 have ht:=toldC p hN n ho q.E hp hok
 unfold eqTy
 generalize toldP p n q.E=t at ht
 obtain⟨ts,ok⟩:=t
 simp only[go_sem]
 refine PCall.call ht ?_
 simp only[go_sem]
 cases ok
 ·
  simp only[go_sem]
  exact finBq rfl rfl
 ·
  simp only[go_sem]
  refine eqST (f:=fun s=>(decl n s).1.Ty) (fun x hx y hy r K hK=>?_) ?_
  ·
   exact eqC p n ho.1 x y _ hK
  ·
   simp only[go_sem]
   exact finBq rfl rfl
end
theorem nodeTy_clk {p:DProg} {a:Nat} {n:DNode} {d:DDecl} (h:d∈allV n) (hc:clkTy p n d=false):nodeTy p a n=⟨(a:Int),-1,7⟩:=by
 unfold nodeTy
 rw[List.all_eq_false.2 ⟨d,h,by rw[hc];simp⟩,if_neg (by simp)]
theorem nodeTy_eqs {p:DProg} {a:Nat} {n:DNode} (h:∀ d∈allV n,clkTy p n d=true):nodeTy p a n=firstE (a:Int) 7 (fun _ q=>eqTy p n q) 0 n.Eqs:=by
 unfold nodeTy
 rw[if_pos (List.all_eq_true.2 h)]
theorem clkTy_no {p:DProg} {n:DNode} {d:DDecl} (h:d.On=⟨#[]⟩):clkTy p n d=true:=by unfold clkTy;rw[decide_eq_true h];rfl
theorem clkTy_w {p:DProg} {n:DNode} {d:DDecl} {b:Bool} (h:¬ d.On=⟨#[]⟩) (hw:whenT p n d.On d.Ctor=b):clkTy p n d=b:=by unfold clkTy;rw[decide_eq_false h,hw];rfl
theorem checkTy (p:DProg) (hN:∀ m∈p.Nodes,m.Outs.length≤1000) (j:Nat) (n:DNode) (hn:okNode n) (ho:tyOK p n) (hr:∀ q∈n.Eqs,rightE q.E=true):PCall Tryz.prog 156 [plE p n,.i (j:Int)] (nodeTy p j n).enc:=by
 refine pcall_of_vc tabOK Tryz.func156 (by kernel_rfl) rfl (pure_cons (pure_plE p n) (pure_cons (.raw _) pure_nil)) (DFault.pure _) (n:=58) rfl (rs:=[.cell 4 61]) rfl ?_
 have hl:=ho.1
 have hA:[n.Ins,n.Outs,n.Vars].flatten=allV n:=by simp[allV]
 have he4:=hn.2.2.2.1
 simp only[go_sem]
 refine PCall.callW (concatD [n.Ins,n.Outs,n.Vars] (by show([n.Ins,n.Outs,n.Vars].flatten).length≤_;rw[hA];omega)) ⟨.tok _ _ _,trivial⟩ ?_
 rw[hA]
 simp only[go_sem]
 intro _
 refine loop_frX [6,21,22,23,24,25,26,27,28,29,30,31,32,33,34,35,36,37,38,39] (fun m C=>∃ i:Nat,i≤(allV n).length∧m=(allV n).length-i∧(∀ d∈(allV n).take i,clkTy p n d=true)∧C=[(21,.raw (.int .i64 (i:Nat)))]) (allV n).length _ ⟨0,by omega,by omega,by simp,rfl⟩ (.cons rfl .nil) ?_
 rintro m C ja r ⟨i,hi,rfl,hp0,rfl⟩
 simp only[go_sem]
 refine brK_dec (fun hlt=>?_) (fun hge=>?_)
 ·
  obtain⟨d,hd⟩:∃ d,(allV n)[i]?=some d:=⟨_,List.getElem?_eq_getElem (by omega)⟩
  simp only[go_sem]
  refine elemHave (x:=d) (by omega) (by simpa using hd) ?_
  simp only[go_sem]
  by_cases hO:d.On=⟨#[]⟩
  ·
   rw[hO]
   repeat' first
    | simp only[go_sem]
    | refine gqK_dec (fun h=>absurd rfl h) (fun _=>?_)
    | refine gK_dec (fun h=>absurd rfl h) (fun _=>?_)
    | refine brK_dec (fun h=>absurd rfl h) (fun _=>?_)
    | exact loopFrX _ (by omega) _ ⟨i+1,by omega,rfl,take_all hp0 hd (clkTy_no hO),rfl⟩ (.next rfl (by omega) .nil) rfl (by first|rfl|(simp only[List.append_assoc,List.cons_append,List.nil_append];rfl))
  ·
   have hw:=whenP p n hl d.On d.Ctor
   generalize hwb:whenT p n d.On d.Ctor=b at hw
   have hck:=clkTy_w hO hwb
   cases b
   all_goals
    repeat' first
     | simp only[go_sem]
     | refine gqK_dec (fun _=>?_) (fun h=>absurd hO h)
     | refine gK_dec (fun _=>?_) (fun h=>absurd hO h)
     | refine gK_dec (fun _=>?_) (fun h=>absurd (Classical.not_not.1 h) hO)
     | (refine PCall.call hw ?_)
     | (rw[nodeTy_clk (List.mem_of_getElem? hd) hck];exact⟨_,rfl,false,by rw[DFault.enc_eq];exact .refl _⟩)
     | exact loopFrX _ (by omega) _ ⟨i+1,by omega,rfl,take_all hp0 hd hck,rfl⟩ (.next rfl (by omega) .nil) rfl (by first|rfl|(simp only[List.append_assoc,List.cons_append,List.nil_append];rfl))
 ·
  rw[nodeTy_eqs (take_full hp0 (by omega))]
  generalize hE:firstE (j:Int) 7 (fun _ q=>eqTy p n q) 0 n.Eqs=E
  simp only[go_sem]
  intro _
  refine loop_frX [7,8,44,45,46,47,48,49,50,51,52,53,54,55,56] (fun m C=>∃ i:Nat,i≤n.Eqs.length∧m=n.Eqs.length-i∧firstE (j:Int) 7 (fun _ q=>eqTy p n q) i (n.Eqs.drop i)=E∧C=[(44,.raw (.int .i64 (i:Nat)))]) n.Eqs.length _ ⟨0,by omega,by omega,hE,rfl⟩ (.cons rfl .nil) ?_
  rintro m C jb r2 ⟨i2,hi2,rfl,hE',rfl⟩
  simp only[go_sem]
  refine brK_dec (fun hlt=>?_) (fun hge2=>?_)
  ·
   obtain⟨q,hq⟩:∃ q,n.Eqs[i2]?=some q:=⟨_,List.getElem?_eq_getElem (by omega)⟩
   have hqm:=List.mem_of_getElem? hq
   simp only[go_sem]
   refine elemHave (x:=q) (by omega) (by simpa using hq) ?_
   simp only[go_sem]
   refine PCall.call (eqP p hN n ho q (right_parts (hr q hqm)) (hn.2.2.2.2.2 q hqm).2.1) ?_
   generalize hb:eqTy p n q=b
   cases b
   ·
    have hE1:=firstE_at hE' hq hb
    rw[hE1]
    simp only[go_sem]
    exact⟨_,rfl,false,by rw[DFault.enc_eq];exact .refl _⟩
   ·
    have hE1:=firstE_next hE' hq hb
    simp only[go_sem]
    exact loopFrX _ (by omega) _ ⟨i2+1,by omega,rfl,hE1,rfl⟩ (.next rfl (by omega) .nil) rfl (by first|rfl|(simp only[List.append_assoc,List.cons_append,List.nil_append];rfl))
  ·
   have h0:=firstE_0 hE' (by omega)
   subst h0
   simp only[go_sem]
   exact⟨_,rfl,false,by rw[DFault.enc_eq];exact .refl _⟩
theorem outs_le {p:DProg} (hp:okProg p):∀ m∈p.Nodes,m.Outs.length≤1000:=fun m hm=>by
 have:=(hp.2.2 m hm).2.1.1
 omega
theorem typesCheck (p:DProg) (hp:okProg p):PCall Tryz.prog 120 [p.enc] (typesF p).enc:=by
 refine pcall_of_vc tabOK Tryz.func120 (by kernel_rfl) rfl (by first|exact pureL|exact pureI) (by first|exact pureL|exact pureI) (n:=32) rfl (rs:=[.cell 2 61]) rfl ?_
 have hp6:=hp.2.1
 unfold typesF
 simp only[go_sem]
 refine PCall.call (scopeCheck p hp) ?_
 have hz:=scope_zero (p:=p)
 generalize scopeF p=F at hz
 rw[show F.enc=.agg [.i F.Node,.i F.Eq,.i F.Err] from DFault.enc_eq _]
 simp only[go_sem]
 refine brK_dec (fun h0=>?_) (fun h0=>?_)
 ·
  rw[if_neg h0]
  simp only[go_sem]
  exact⟨_,rfl,false,by rw[DFault.enc_eq];exact .refl _⟩
 have h0:F.Err=0:=Classical.not_not.1 h0
 rw[if_pos h0]
 obtain⟨_,hc0,_⟩:=hz h0
 generalize hE:firstF (nodeTy p) 0 p.Nodes=E
 simp only[go_sem]
 intro _
 refine loop_frX [4,5,6,16,17,18,19,20,21,22,23,24,25,26,27,28,29,30] (fun m C=>∃ i:Nat,i≤p.Nodes.length∧m=p.Nodes.length-i∧firstF (nodeTy p) i (p.Nodes.drop i)=E∧C=[(16,.raw (.int .i64 (i:Nat)))]) p.Nodes.length _ ⟨0,by omega,by omega,hE,rfl⟩ (.cons rfl .nil) ?_
 rintro m C ja r ⟨i,hi,rfl,hE',rfl⟩
 simp only[go_sem]
 refine brK_dec (fun hlt=>?_) (fun hge=>?_)
 ·
  obtain⟨n,hj⟩:∃ n,p.Nodes[i]?=some n:=⟨_,List.getElem?_eq_getElem (by omega)⟩
  have hnm:=List.mem_of_getElem? hj
  simp only[go_sem]
  refine elemHave (x:=n) (by omega) (by simpa using hj) ?_
  simp only[go_sem]
  refine PCall.call (checkTy p (outs_le hp) i n (hp.2.2 n hnm) (tyOK_of hp hc0 n hnm) (fun q hq=>(eqs_right hc0 hnm hq).2)) ?_
  by_cases hF:(nodeTy p i n).Err=0
  ·
   have hE1:=first_next hE' hj hF
   rw[(nodeTy_zero hF).1,DFault.enc_eq]
   simp only[go_sem]
   exact loopFrX _ (by omega) _ ⟨i+1,by omega,rfl,hE1,rfl⟩ (.next rfl (by omega) .nil) rfl (by first|rfl|(simp only[List.append_assoc,List.cons_append,List.nil_append];rfl))
  ·
   have hE1:=first_at hE' hj hF
   rw[hE1]
   generalize nodeTy p i n=G at hF
   rw[DFault.enc_eq]
   simp only[go_sem]
   refine brK_dec (fun _=>?_) (fun hq=>absurd hF hq)
   simp only[go_sem]
   exact⟨_,rfl,false,by rw[DFault.enc_eq];exact .refl _⟩
 ·
  have h1:=first_0 hE' (by omega)
  subst h1
  simp only[go_sem]
  exact⟨_,rfl,false,by rw[DFault.enc_eq];exact .refl _⟩
theorem names_any {L:List DEnum} {n:DNode} {l:List ByteArray} {row:List DCond} (hr:∀ s∈l,(rowN L n s).2=true):(l.any fun x=>!((rowN L n x).2&&eqB (rowN L n x).1 row))=!(l.all fun s=>eqB (rowN L n s).1 row):=by
 induction l with
 | nil=>rfl
 | cons x l ih =>
  rw[List.any_cons,List.all_cons,ih (fun s hs=>hr s (List.mem_cons_of_mem _ hs)),hr x List.mem_cons_self,Bool.true_and,Bool.not_and]
theorem headD_at0 {l:List ByteArray} {s:ByteArray} (h:l[0]?=some s):l.headD ⟨#[]⟩=s:=by
 match l with
 | y::l=>simp at h;rw[h];rfl
abbrev placeBk (p:DProg) (k:Nat):Blk:=.cells 169 [.lst 2 (p.Enums.map DEnum.enc) none,.lst 5 (p.Nodes.map DNode.enc) none,.i k]
theorem eqCk1 (p:DProg) (k:Nat) (n:DNode) (hn:p.Nodes[k]?=some n) (hl:(allV n).length≤4294967296) (x:ByteArray) (row:List DCond) (b1:Blk) (r:List Blk) {K:AV→List Blk→Prop} (hK:K (.b (!((rowN p.Enums n x).2&&eqB (rowN p.Enums n x).1 row))) (placeBk p k::b1::.cells 43 [.lst 2 (row.map DCond.enc) none]::r)) :
  ACall Tryz.prog 200 [.s x,.ptr 0 0,.ptr 2 0] (placeBk p k::b1::.cells 43 [.lst 2 (row.map DCond.enc) none]::r) K:=by
 refine acall_of_vc tabOK Tryz.func200 (by kernel_rfl) rfl (n:=10) rfl (rs:=[.tmp 4]) rfl ?_
 simp only[go_sem]
 refine PCall.call (on129 p k n hn hl x row) ?_
 simp only[go_sem]
 exact finH1 rfl (.raw _) hK
theorem eqCkP (p:DProg) (k:Nat) (n:DNode) (hn:p.Nodes[k]?=some n) (hl:(allV n).length≤4294967296) (q:DEq) (h0:0<q.Names.length) (hr:∀ s∈q.Names,(rowN p.Enums n s).2=true) (hb:(parts q.E).length≤200):PCall Tryz.prog 158 [placeE p k,q.enc] (.b (eqCk p.Enums n q)):=by
 refine pcall_of_vc tabOK Tryz.func158 (by kernel_rfl) rfl (pure_cons (pure_place p k) (pure_cons (DEq.pure _) pure_nil)) (.raw _) (n:=28) rfl (rs:=[.tmp 4]) rfl ?_
 obtain⟨s0,hs0⟩:∃ s,q.Names[0]?=some s:=⟨_,List.getElem?_eq_getElem (by omega)⟩
 unfold eqCk
 rw[headD_at0 hs0]
 have hR:=row90 p k n hn s0 hl
 have hr0:=hr s0 (List.mem_of_getElem? hs0)
 have hlen:=rowN_len p.Enums n s0
 generalize rowN p.Enums n s0=R at hR hr0 hlen
 obtain⟨row,ok⟩:=R
 dsimp only at hr0 hlen
 subst hr0
 dsimp only
 have hany:=names_any (row:=row) hr
 simp only[go_sem]
 refine drawK mo (by kernel_rfl) ?_
 simp only[go_sem]
 refine elemHave (x:=s0) (by omega) (by simpa using hs0) ?_
 simp only[go_sem]
 refine pcK_of hR ?_
 simp only[go_sem]
 refine contains106 (p:=fun x=>!((rowN p.Enums n x).2&&eqB (rowN p.Enums n x).1 row)) (fun x hx K hK=>eqCk1 p k n hn hl x row _ _ hK) ?_
 rw[hany]
 generalize (q.Names.all fun s=>eqB (rowN p.Enums n s).1 row)=b
 cases b
 ·
  simp only[go_sem]
  exact finBq rfl rfl
 ·
  simp only[go_sem]
  refine PCall.call (fits92 p k n hn hl q.E row (by omega)) ?_
  simp only[go_sem]
  exact finBq rfl (by simp)
end Go.Proofs.YtpamokpmlplopaaGreatDoor
