/-
  Ctor4, ChkD, ScopeD, TyD, RightP, Walk, Walk2, Ints: put together.
-/
import Derived.Test.YtpamokpmlplopaaGreatDoorUniAh
import Derived.Test.YtpamokpmlplopaaGreatDoorUniAi
import Derived.Test.YtpamokpmlplopaaGreatDoorUniAj
import Derived.Test.YtpamokpmlplopaaGreatDoorUniAl
import Derived.Test.YtpamokpmlplopaaGreatDoorUniAm
namespace Go.Proofs.YtpamokpmlplopaaGreatDoor
open Go.Abs
set_option maxRecDepth 20000
set_option linter.unusedSimpArgs false
set_option linter.unusedVariables false
set_option maxHeartbeats 1000000
attribute [local irreducible] vc vcOps vcStep vcGuard prK hrK gK gsK brK callK ElemK SeqK BlockK ScopeK OpsK CallK LoopK LoopGo finPost ACall PCall PCallE BCall vqOps vqStep vqGuard qrK heK pcK gqK gqsK QOpsK qcallK DrawK
theorem ctor128 (L:List DEnum) (nm:ByteArray):PCall Tryz.prog 102 [.lst 2 (L.map DEnum.enc) none,.s nm] (ctorA (ctorG nm L 0)):=by
 refine pcall_of_vc tabOK Tryz.func102 (by kernel_rfl) rfl pureL pureI (n:=37) rfl (rs:=[.tmp 4,.tmp 5,.tmp 6]) rfl ?_
 simp only[go_sem]
 refine loop_frH [4,5,6,7,8,9,10,11,12,13,14,15,16,17,18,19,20,21,22,23,24,25,26,27,28,29,30,31,32,33,34,35,36] (fun m C=>∃ i:Nat,i≤L.length∧m=L.length-i∧NoC L nm i 0∧C=[(7,.raw (.int .i64 (i:Nat)))]) L.length _ ⟨0,by omega,by omega,NoC.zero,rfl⟩ (.cons rfl .nil) ?_
 rintro m C jo ⟨i,hi,rfl,hN,rfl⟩
 simp only[go_sem]
 intro _
 refine brK_dec (fun hlt=>?_) (fun hge=>?_)
 ·
  have hlt':i<L.length:=by omega
  obtain⟨e,he⟩:∃ e,L[i]?=some e:=⟨_,List.getElem?_eq_getElem hlt'⟩
  simp only[go_sem]
  refine loop_frH [4,5,6,8,15,16,17,18,19,20,21,22,23,24,25,26,27,28,29,30,31,32,33,34,35,36] (fun m C=>∃ k:Nat,k≤e.Ctors.length∧m=e.Ctors.length-k∧NoC L nm i k∧C=[(8,.raw (.int .i64 (k:Nat)))]) e.Ctors.length _ ⟨0,by omega,by omega,hN,rfl⟩ (.cons rfl .nil) ?_
  rintro m C ji ⟨k,hk,rfl,hNk,rfl⟩
  simp only[go_sem]
  refine elemHave (by omega) he ?_
  simp only[go_sem]
  intro _
  refine brK_dec (fun hlt2=>?_) (fun hge2=>?_)
  ·
   simp only[go_sem]
   refine elemHave (by omega) he ?_
   simp only[go_sem]
   refine elemMap (by omega) (by omega) (fun c hc=>?_)
   have hc':e.Ctors[k]?=some c:=by simpa using hc
   simp only[go_sem]
   refine brK_dec (fun hq=>?_) (fun hq=>?_)
   ·
    simp only[go_sem]
    subst hq
    rw[ctorG_at 0 he hc' hNk]
    exact⟨_,rfl,false,by rw[Nat.zero_add];exact .refl _⟩
   ·
    simp only[go_sem]
    exact loopFrH _ (by omega) ⟨k+1,by omega,rfl,hNk.next he hc' hq,rfl⟩ (.next rfl (by omega) .nil) rfl
  ·
   simp only[go_sem]
   have:k=e.Ctors.length:=by omega
   subst this
   exact loopFrH _ (by omega) ⟨i+1,by omega,rfl,hNk.row he,rfl⟩ (.next rfl (by omega) .nil) rfl
 ·
  simp only[go_sem]
  have:i=L.length:=by omega
  subst this
  rw[ctorG_no 0 hN.none_]
  exact⟨_,rfl,false,.refl _⟩
def armF (L:List DEnum) (nm:ByteArray):DTy × Int × Bool :=
 if nm=⟨#[116,114,117,101]⟩ then(⟨2,0,0⟩,1,true) else if nm=⟨#[102,97,108,115,101]⟩ then(⟨2,0,0⟩,0,true)
 else if(ctorG nm L 0).2.2=true then(⟨3,(ctorG nm L 0).1,0⟩,(ctorG nm L 0).2.1,true) else(⟨0,0,0⟩,0,false)
def armOk (L:List DEnum) (s:ByteArray):Bool:=(armF L s).2.2
abbrev armA (p:DTy × Int × Bool):AV:=.tup [p.1.enc,.i p.2.1,.b p.2.2]
theorem pure_armA (p:DTy × Int × Bool):Go.Abs.Pure (armA p):=.tup _ (pure_cons (DTy.pure _) (pure_cons (.raw _) (pure_cons (.raw _) pure_nil)))
theorem armA_mk (a b c v:Int) (ok:Bool):armA (⟨a,b,c⟩,v,ok)=.tup [.agg [.i a,.i b,.i c],.i v,.b ok]:=by
 show AV.tup [DTy.enc _,_,_]=_
 rw[DTy.enc_eq]
theorem arm146 (L:List DEnum) (nm:ByteArray):PCall Tryz.prog 164 [.lst 2 (L.map DEnum.enc) none,.s nm] (armA (armF L nm)):=by
 refine pcall_of_vc tabOK Tryz.func164 (by kernel_rfl) rfl (by first|exact pureL|exact pureI) (pure_armA _) (n:=30) rfl (rs:=[.cell 4 42,.tmp 5,.tmp 6]) rfl ?_
 unfold armF
 simp only[go_sem]
 refine brK_dec (fun h1=>?_) (fun h1=>?_)
 ·
  simp only[go_sem]
  rw[if_pos h1,armA_mk]
  exact⟨_,rfl,false,.refl _⟩
 ·
  rw[if_neg h1]
  simp only[go_sem]
  refine brK_dec (fun h2=>?_) (fun h2=>?_)
  ·
   simp only[go_sem]
   rw[if_pos h2,armA_mk]
   exact⟨_,rfl,false,.refl _⟩
  ·
   rw[if_neg h2]
   simp only[go_sem]
   refine PCall.call (ctor153P _ _) ?_
   generalize ctorG nm L 0=d
   obtain⟨a,b,ok⟩:=d
   cases ok with
   | true =>
    simp only[go_sem]
    rw[if_pos trivial,armA_mk]
    exact⟨_,rfl,false,.refl _⟩
   | false =>
    simp only[go_sem]
    rw[if_neg (by simp),armA_mk]
    exact⟨_,rfl,false,.refl _⟩
theorem arm91 (L:List DEnum) (nm:ByteArray):PCall Tryz.prog 64 [.lst 2 (L.map DEnum.enc) none,.s nm] (armA (armF L nm)):=by
 refine pcall_of_vc tabOK Tryz.func64 (by kernel_rfl) rfl (by first|exact pureL|exact pureI) (pure_armA _) (n:=29) rfl (rs:=[.cell 4 42,.tmp 5,.tmp 6]) rfl ?_
 unfold armF
 simp only[go_sem]
 refine brK_dec (fun h1=>?_) (fun h1=>?_)
 ·
  simp only[go_sem]
  rw[if_pos h1,armA_mk]
  exact⟨_,rfl,false,.refl _⟩
 ·
  rw[if_neg h1]
  simp only[go_sem]
  refine brK_dec (fun h2=>?_) (fun h2=>?_)
  ·
   simp only[go_sem]
   rw[if_pos h2,armA_mk]
   exact⟨_,rfl,false,.refl _⟩
  ·
   rw[if_neg h2]
   simp only[go_sem]
   refine PCall.call (ctor128 _ _) ?_
   generalize ctorG nm L 0=d
   obtain⟨a,b,ok⟩:=d
   cases ok with
   | true =>
    simp only[go_sem]
    rw[if_pos trivial,armA_mk]
    exact⟨_,rfl,false,.refl _⟩
   | false =>
    simp only[go_sem]
    rw[if_neg (by simp),armA_mk]
    exact⟨_,rfl,false,.refl _⟩
def rightTyF (n:Nat) (t:DTy):Bool:=decide (1≤t.Kind∧t.Kind≤3∧0≤t.Len∧t.Len≤8∧((t.Kind=3∧0≤t.Enum∧t.Enum<n)∨(¬ t.Kind=3∧t.Enum=0)))
def bareF (d:DDecl):Bool:=decide (d.On=⟨#[]⟩)&&decide (d.Ctor=⟨#[]⟩)
def declaredF (n:Nat) (d:DDecl):Bool:=lowF d.Name&&rightTyF n d.Ty&&(bareF d || (lowF d.On&&armE d.Ctor))
noncomputable def eqF (x:DEq):Bool:=decide (0<x.Names.length)&&rightE x.E&&(decide (x.Names.length≤1) || decide (x.E.kind=13))&&x.Names.all lowF
def bareN (x:DNode):Bool:=(x.Ins++x.Outs).all fun d=>decide (d.On=⟨#[]⟩)
noncomputable def nodeF (n:Nat) (x:DNode):Bool:=(allV x).all (declaredF n)&&bareN x&&x.Eqs.all eqF&&(lowF x.Name&&decide (0<x.Outs.length))
def greatE (l:List DEnum):Bool:=decide (l.length>4) || l.any fun e=>decide (e.Ctors.length>6)
def rightEn (l:List DEnum):Bool:=l.all (fun e=>lowF e.Name&&decide (0<e.Ctors.length))&&(l.flatMap DEnum.Ctors).all highF
noncomputable def enumsF (l:List DEnum):Int:=if greatE l=true then 4 else if rightEn l=true then(if(onceB (l.map DEnum.Name)&&onceB (l.flatMap DEnum.Ctors))=true then 0 else 6) else 1
def greatF (x:DNode):Bool:=decide (x.Ins.length>6) || decide (x.Outs.length>6) || decide (x.Vars.length>12) || decide (x.Eqs.length>18)
noncomputable def onceN (x:DNode):Bool:=onceB ((allV x).map DDecl.Name)
noncomputable def checkF (p:DProg):Int :=
 if ¬ enumsF p.Enums=0 then enumsF p.Enums
 else if p.Nodes.length=0 then 5
 else if(decide (p.Nodes.length>6) || p.Nodes.any greatF)=true then 4
 else if p.Nodes.all (nodeF p.Enums.length)=true then(if(p.Nodes.all onceN&&onceB (p.Nodes.map DNode.Name))=true then 0 else 6) else 1
theorem all_next {α:Type} {l:List α} {i:Nat} {x:α} (f:α→Bool) (hx:l[i]?=some x):(l.take (i+1)).all f=((l.take i).all f&&f x):=by
 obtain⟨hi,rfl⟩:=List.getElem?_eq_some_iff.1 hx
 rw[List.take_succ_eq_append_getElem hi,List.all_append]
 simp
theorem all_nextZ {α:Type} {l:List α} {i:Nat} {x:α} (f:α→Bool) (hx:l[((i:Nat):Int).toNat]?=some x):(l.take (i+1)).all f=((l.take i).all f&&f x):=all_next f (by simpa using hx)
theorem flatMap_next {α β:Type} {l:List α} {i:Nat} {x:α} (f:α→List β) (hx:l[i]?=some x):(l.take (i+1)).flatMap f=(l.take i).flatMap f++f x:=by
 obtain⟨hi,rfl⟩:=List.getElem?_eq_some_iff.1 hx
 rw[List.take_succ_eq_append_getElem hi,List.flatMap_append]
 simp
theorem finIq {T:TypeId→TI} {t:Nat} {s:List AV} {h:List Blk} {a b:Int} (hs:s[t]?=some (.i a)) (he:a=b):Go.Abs.Fin T [.tmp t] (.i b) s h:=he▸⟨[.i a],by simp only[resAV,opd,List.getD_eq_getElem?_getD,hs];rfl,false,.refl _⟩
theorem bare_at {x:DNode} {i:Nat} {d:DDecl} (h:(allV x)[i]?=some d) (hi:i<x.Ins.length+x.Outs.length):(x.Ins++x.Outs)[i]?=some d:=by
 have e:allV x=(x.Ins++x.Outs)++x.Vars:=by simp[allV]
 rw[e,List.getElem?_append_left (by simpa using hi)] at h
 exact h
theorem bare_next {x:DNode} {i:Nat} {d:DDecl} (h:∀ d∈(x.Ins++x.Outs).take i,decide (d.On=⟨#[]⟩)=true) (hx:(allV x)[((i:Nat):Int).toNat]?=some d) (hc:i<x.Ins.length+x.Outs.length→d.On=⟨#[]⟩):∀ d∈(x.Ins++x.Outs).take (i+1),decide (d.On=⟨#[]⟩)=true:=by
 rw[Int.toNat_natCast] at hx
 by_cases hi:i<x.Ins.length+x.Outs.length
 ·
  exact take_all h (bare_at hx hi) (decide_eq_true (hc hi))
 ·
  rw[List.take_of_length_le (by simp;omega)] at h ⊢
  exact h
theorem bare_no {x:DNode} {i:Nat} {d:DDecl} (hx:(allV x)[((i:Nat):Int).toNat]?=some d) (hi:i<x.Ins.length+x.Outs.length) (hd:¬ d.On=⟨#[]⟩):bareN x=false:=by
 rw[Int.toNat_natCast] at hx
 unfold bareN
 exact List.all_eq_false.2 ⟨d,List.mem_of_getElem? (bare_at hx hi),by simp[hd]⟩
theorem bare_yes {x:DNode} {i:Nat} (h:∀ d∈(x.Ins++x.Outs).take i,decide (d.On=⟨#[]⟩)=true) (hi:(allV x).length≤i):bareN x=true:=by
 unfold bareN
 rw[List.take_of_length_le (by simp[allV] at hi;simp;omega)] at h
 exact List.all_eq_true.2 h
theorem node_no {n:Nat} {x:DNode} {i:Nat} {d:DDecl} (hx:(allV x)[((i:Nat):Int).toNat]?=some d) (hd:declaredF n d=false):nodeF n x=false:=by
 unfold nodeF
 rw[List.all_eq_false.2 ⟨d,List.mem_of_getElem? hx,by simp[hd]⟩]
 rfl
theorem node_no2 {n:Nat} {x:DNode} (hd:bareN x=false):nodeF n x=false:=by
 unfold nodeF
 simp[hd]
theorem node_no3 {n:Nat} {x:DNode} {i:Nat} {d:DEq} (hx:x.Eqs[((i:Nat):Int).toNat]?=some d) (hd:eqF d=false):nodeF n x=false:=by
 unfold nodeF
 rw[List.all_eq_false.2 ⟨d,List.mem_of_getElem? hx,by simp[hd]⟩]
 simp
theorem node_yes {n:Nat} {x:DNode} {i j:Nat} (h1:∀ d∈(allV x).take i,declaredF n d=true) (hi:(allV x).length≤i) (h2:bareN x=true) (h3:∀ d∈x.Eqs.take j,eqF d=true) (hj:x.Eqs.length≤j):nodeF n x=(lowF x.Name&&decide (0<x.Outs.length)):=by
 unfold nodeF
 rw[List.all_eq_true.2 (take_full h1 hi),h2,List.all_eq_true.2 (take_full h3 hj)]
 simp
theorem en_arg1 {l:List DEnum} {i:Nat} {e:DEnum} (hg:greatE l=false) (hx:l[((i:Nat):Int).toNat]?=some e) (h:(lowF e.Name&&decide (0<e.Ctors.length))=false):enumsF l=1:=by
 unfold enumsF rightEn
 rw[hg,List.all_eq_false.2 ⟨e,List.mem_of_getElem? hx,by simp[h]⟩]
 simp
theorem en_arg2 {l:List DEnum} {i:Nat} {c:ByteArray} (hg:greatE l=false) (hx:(l.flatMap DEnum.Ctors)[((i:Nat):Int).toNat]?=some c) (h:highF c=false):enumsF l=1:=by
 unfold enumsF rightEn
 rw[hg,List.all_eq_false.2 ⟨c,List.mem_of_getElem? hx,by simp[h]⟩]
 simp
theorem en_many {l:List DEnum} (hg:greatE l=true):enumsF l=4:=by unfold enumsF;simp[hg]
theorem en_great1 {l:List DEnum} (h:l.length>4):greatE l=true:=by unfold greatE;simp[h]
theorem en_great2 {l:List DEnum} {i:Nat} {e:DEnum} (hx:l[((i:Nat):Int).toNat]?=some e) (h:e.Ctors.length>6):greatE l=true:=by
 unfold greatE
 rw[List.any_eq_true.2 ⟨e,List.mem_of_getElem? hx,decide_eq_true h⟩,Bool.or_true]
theorem en_small {l:List DEnum} {i:Nat} (h:¬ l.length>4) (h2:∀ e∈l.take i,e.Ctors.length≤6) (hi:l.length≤i):greatE l=false:=by
 unfold greatE
 rw[decide_eq_false h,Bool.false_or,List.any_eq_false]
 intro e he
 have:=take_full h2 hi e he
 simp;omega
theorem en_end {l:List DEnum} {i j:Nat} (hg:greatE l=false) (h1:∀ e∈l.take i,(lowF e.Name&&decide (0<e.Ctors.length))=true) (hi:l.length≤i) (h2:∀ c∈(l.flatMap DEnum.Ctors).take j,highF c=true) (hj:(l.flatMap DEnum.Ctors).length≤j):enumsF l=if(onceB (l.map DEnum.Name)&&onceB (l.flatMap DEnum.Ctors))=true then 0 else 6:=by
 unfold enumsF rightEn
 rw[hg,List.all_eq_true.2 (take_full h1 hi),List.all_eq_true.2 (take_full h2 hj)]
 simp
def memB (s:ByteArray) (D:List ByteArray):Bool:=D.any fun t=>decide (t=s)
theorem memB_iff {s:ByteArray} {D:List ByteArray}:memB s D=true↔s∈D:=by
 unfold memB
 rw[List.any_eq_true]
 exact⟨fun⟨t,h,e⟩=>of_decide_eq_true e▸h,fun h=>⟨s,h,by simp⟩⟩
def isF (n:DNode) (s:ByteArray):Bool:=(decl n s).2
def inF (n:DNode) (s:ByteArray):Bool:=n.Ins.any fun d=>decide (d.Name=s)
def clockedF (L:List DEnum) (n:DNode) (d:DDecl):Bool:=decide (d.On=⟨#[]⟩) || (isF n d.On&&armOk L d.Ctor)
def leadsF (p:DProg) (at_:Int) (n:DNode) (e:Ex):Bool:=e.arms.all (armOk p.Enums)&&(if e.kind=3∨e.kind=11∨e.kind=12 then isF n e.name else if e.kind=4 then armOk p.Enums e.name else if e.kind=13 then decide (0≤findF p e.name∧findF p e.name<at_) else decide (¬ e.kind=17))
def namesErr (n:DNode):List ByteArray→List ByteArray→Int
 | _,[]=>0
 | D,s::r=>if isF n s=false then 5 else if(inF n s || memB s D)=true then 6 else namesErr n (D++[s]) r
def eqErr (p:DProg) (at_:Int) (n:DNode) (D:List ByteArray) (q:DEq):Int :=
 if namesErr n D q.Names=0 then(if(parts q.E).all (leadsF p at_ n)=true then 0 else 5) else namesErr n D q.Names
def eqsErr (p:DProg) (at_:Int) (n:DNode):Nat→List ByteArray→List DEq→Int × Int
 | _,_,[]=>(-1,0)
 | i,D,q::r=>if eqErr p at_ n D q=0 then eqsErr p at_ n (i+1) (D++q.Names) r else((i:Int),eqErr p at_ n D q)
def allDef (n:DNode):Bool:=(n.Outs++n.Vars).all fun d=>memB d.Name (n.Eqs.flatMap DEq.Names)
def nodeFault (p:DProg) (at_:Int) (n:DNode):DFault :=
 if(allV n).all (clockedF p.Enums n)=true then
  (if(eqsErr p at_ n 0 [] n.Eqs).2=0 then(if allDef n=true then⟨0,0,0⟩ else⟨at_,-1,5⟩) else⟨at_,(eqsErr p at_ n 0 [] n.Eqs).1,(eqsErr p at_ n 0 [] n.Eqs).2⟩)
 else⟨at_,-1,5⟩
def nodesFault (p:DProg):Nat→List DNode→DFault
 | _,[]=>⟨0,0,0⟩
 | i,n::r=>if(nodeFault p (i:Int) n).Err=0 then nodesFault p (i+1) r else nodeFault p (i:Int) n
noncomputable def scopeF (p:DProg):DFault:=if checkF p=0 then nodesFault p 0 p.Nodes else⟨0,-1,checkF p⟩
theorem namesErr_vals (n:DNode):∀(l D:List ByteArray),namesErr n D l=0∨namesErr n D l=5∨namesErr n D l=6
 | [],_=>.inl rfl
 | s::r,D=>by
  rw[namesErr]
  split
  ·
   exact .inr (.inl rfl)
  ·
   split
   ·
    exact .inr (.inr rfl)
   ·
    exact namesErr_vals n r _
theorem eqErr_vals (p:DProg) (a:Int) (n:DNode) (D:List ByteArray) (q:DEq):eqErr p a n D q=0∨eqErr p a n D q=5∨eqErr p a n D q=6:=by
 unfold eqErr
 split
 ·
  split
  ·
   exact .inl rfl
  ·
   exact .inr (.inl rfl)
 ·
  exact namesErr_vals n _ _
theorem nodeFault_zero {p:DProg} {a:Int} {n:DNode} (h:(nodeFault p a n).Err=0):nodeFault p a n=⟨0,0,0⟩:=by
 unfold nodeFault at *
 by_cases h1:(allV n).all (clockedF p.Enums n)=true
 ·
  rw[if_pos h1] at *
  by_cases h2:(eqsErr p a n 0 [] n.Eqs).2=0
  ·
   rw[if_pos h2] at *
   by_cases h3:allDef n=true
   ·
    rw[if_pos h3]
   ·
    rw[if_neg h3] at h;simp at h
  ·
   rw[if_neg h2] at h;exact absurd h h2
 ·
  rw[if_neg h1] at h;simp at h
theorem names_next {n:DNode} {D l:List ByteArray} {i:Nat} {x:ByteArray} {E:Int} (hE:namesErr n (D++l.take i) (l.drop i)=E) (hx:l[((i:Nat):Int).toNat]?=some x) (h1:isF n x=true) (h2:inF n x=false) (h3:x ∉ D++l.take i):namesErr n (D++l.take (i+1)) (l.drop (i+1))=E:=by
 rw[Int.toNat_natCast] at hx
 obtain⟨hi,rfl⟩:=List.getElem?_eq_some_iff.1 hx
 rw[List.drop_eq_getElem_cons hi,namesErr,h1,h2,if_neg (by simp),if_neg (by rw[Bool.false_or,memB_iff];exact h3)] at hE
 rw[List.take_succ_eq_append_getElem hi,← List.append_assoc]
 exact hE
theorem names_5 {n:DNode} {D l:List ByteArray} {i:Nat} {x:ByteArray} {E:Int} (hE:namesErr n (D++l.take i) (l.drop i)=E) (hx:l[((i:Nat):Int).toNat]?=some x) (h1:isF n x=false):E=5:=by
 rw[Int.toNat_natCast] at hx
 obtain⟨hi,rfl⟩:=List.getElem?_eq_some_iff.1 hx
 rw[List.drop_eq_getElem_cons hi,namesErr,h1,if_pos rfl] at hE
 exact hE.symm
theorem names_6 {n:DNode} {D l:List ByteArray} {i:Nat} {x:ByteArray} {E:Int} (hE:namesErr n (D++l.take i) (l.drop i)=E) (hx:l[((i:Nat):Int).toNat]?=some x) (h1:isF n x=true) (h2:inF n x=true∨x∈D++l.take i):E=6:=by
 rw[Int.toNat_natCast] at hx
 obtain⟨hi,rfl⟩:=List.getElem?_eq_some_iff.1 hx
 rw[List.drop_eq_getElem_cons hi,namesErr,h1,if_neg (by simp),if_pos (by rcases h2 with h2|h2;(rw[h2];rfl);(rw[memB_iff.2 h2,Bool.or_true]))] at hE
 exact hE.symm
theorem names_0 {n:DNode} {D l:List ByteArray} {i:Nat} {E:Int} (hE:namesErr n (D++l.take i) (l.drop i)=E) (hi:l.length≤i):E=0:=by
 rw[List.drop_of_length_le hi,namesErr] at hE
 exact hE.symm
theorem eqs_next {p:DProg} {a:Int} {n:DNode} {l:List DEq} {i:Nat} {q:DEq} {E:Int × Int} (hE:eqsErr p a n i ((l.take i).flatMap DEq.Names) (l.drop i)=E) (hx:l[((i:Nat):Int).toNat]?=some q) (h:eqErr p a n ((l.take i).flatMap DEq.Names) q=0):eqsErr p a n (i+1) ((l.take (i+1)).flatMap DEq.Names) (l.drop (i+1))=E:=by
 rw[Int.toNat_natCast] at hx
 rw[flatMap_next _ hx]
 obtain⟨hi,rfl⟩:=List.getElem?_eq_some_iff.1 hx
 rw[List.drop_eq_getElem_cons hi,eqsErr,if_pos h] at hE
 exact hE
theorem eqs_at {p:DProg} {a:Int} {n:DNode} {l:List DEq} {i:Nat} {q:DEq} {E:Int × Int} (hE:eqsErr p a n i ((l.take i).flatMap DEq.Names) (l.drop i)=E) (hx:l[((i:Nat):Int).toNat]?=some q) (h:¬ eqErr p a n ((l.take i).flatMap DEq.Names) q=0):E=((i:Int),eqErr p a n ((l.take i).flatMap DEq.Names) q):=by
 rw[Int.toNat_natCast] at hx
 obtain⟨hi,rfl⟩:=List.getElem?_eq_some_iff.1 hx
 rw[List.drop_eq_getElem_cons hi,eqsErr,if_neg h] at hE
 exact hE.symm
theorem eqs_0 {p:DProg} {a:Int} {n:DNode} {l:List DEq} {i:Nat} {E:Int × Int} (hE:eqsErr p a n i ((l.take i).flatMap DEq.Names) (l.drop i)=E) (hi:l.length≤i):E=(-1,0):=by
 rw[List.drop_of_length_le hi,eqsErr] at hE
 exact hE.symm
theorem nodes_next {p:DProg} {l:List DNode} {i:Nat} {n:DNode} {E:DFault} (hE:nodesFault p i (l.drop i)=E) (hx:l[((i:Nat):Int).toNat]?=some n) (h:(nodeFault p (i:Int) n).Err=0):nodesFault p (i+1) (l.drop (i+1))=E:=by
 rw[Int.toNat_natCast] at hx
 obtain⟨hi,rfl⟩:=List.getElem?_eq_some_iff.1 hx
 rw[List.drop_eq_getElem_cons hi,nodesFault,if_pos h] at hE
 exact hE
theorem nodes_at {p:DProg} {l:List DNode} {i:Nat} {n:DNode} {E:DFault} (hE:nodesFault p i (l.drop i)=E) (hx:l[((i:Nat):Int).toNat]?=some n) (h:¬ (nodeFault p (i:Int) n).Err=0):E=nodeFault p (i:Int) n:=by
 rw[Int.toNat_natCast] at hx
 obtain⟨hi,rfl⟩:=List.getElem?_eq_some_iff.1 hx
 rw[List.drop_eq_getElem_cons hi,nodesFault,if_neg h] at hE
 exact hE.symm
theorem nodes_0 {p:DProg} {l:List DNode} {i:Nat} {E:DFault} (hE:nodesFault p i (l.drop i)=E) (hi:l.length≤i):E=⟨0,0,0⟩:=by
 rw[List.drop_of_length_le hi,nodesFault] at hE
 exact hE.symm
def knF (n:DNode) (D:List ByteArray) (s:ByteArray):Nat:=if inF n s=true then 1 else if(n.Outs++n.Vars).any (fun d=>decide (d.Name=s))=true then(if memB s D=true then 3 else 2) else 0
theorem declF_any (s:ByteArray):∀ l:List DDecl,(declF s l).2=l.any fun d=>decide (d.Name=s)
 | []=>rfl
 | d::l=>by
  rw[declF]
  by_cases h:d.Name=s
  ·
   simp[h]
  ·
   rw[if_neg h,declF_any s l];simp[h]
theorem isF_eq (n:DNode) (s:ByteArray):isF n s=(inF n s || (n.Outs++n.Vars).any (fun d=>decide (d.Name=s))):=by
 unfold isF decl inF
 rw[declF_any]
 simp[allV]
theorem kn_is (n:DNode) (D:List ByteArray) (s:ByteArray):decide (0<knF n D s)=isF n s:=by
 rw[isF_eq]
 unfold knF
 cases inF n s
 ·
  cases (n.Outs++n.Vars).any (fun d=>decide (d.Name=s))
  ·
   simp
  ·
   cases memB s D<;>simp
 ·
  simp
theorem kn_free {n:DNode} {D:List ByteArray} {s:ByteArray} (h:isF n s=true):(knF n D s=2)↔¬ (inF n s=true∨s∈D):=by
 rw[isF_eq] at h
 rw[← memB_iff]
 unfold knF
 cases hi:inF n s
 ·
  rw[hi] at h
  simp only[Bool.false_or] at h
  rw[h]
  cases memB s D<;>simp
 ·
  simp
theorem kn_put {n:DNode} {D:List ByteArray} {s:ByteArray} (h:knF n D s=2):knF n (D++[s]) s=3∧∀ t,¬ t=s→knF n (D++[s]) t=knF n D t:=by
 unfold knF at *
 split at h
 ·
  omega
 ·
  rename_i h1
  split at h
  ·
   rename_i h2
   refine⟨by rw[if_neg h1,if_pos h2,if_pos (memB_iff.2 (by simp))],fun t ht=>?_⟩
   have:memB t (D++[s])=memB t D:=by
    rw[Bool.eq_iff_iff,memB_iff,memB_iff]
    simp[ht]
   rw[this]
  ·
   omega
theorem kn_done {n:DNode} {D:List ByteArray} {d:DDecl} (hd:d∈n.Outs++n.Vars) (hD:∀ s∈D,inF n s=false):(knF n D d.Name=3)↔memB d.Name D=true:=by
 unfold knF
 have h2:(n.Outs++n.Vars).any (fun e=>decide (e.Name=d.Name))=true:=List.any_eq_true.2 ⟨d,hd,by simp⟩
 rw[h2]
 cases q:memB d.Name D
 ·
  simp;split<;>omega
 ·
  rw[hD _ (memB_iff.1 q)];simp
theorem namesErr_in {n:DNode}:∀ {l D:List ByteArray},namesErr n D l=0→∀ s∈l,inF n s=false
 | [],_,_=>by simp
 | x::r,D,h=>by
  rw[namesErr] at h
  split at h
  ·
   omega
  ·
   split at h
   ·
    omega
   ·
    rename_i h1 h2
    intro s hs
    rcases List.mem_cons.1 hs with rfl|hs
    ·
     cases hq:inF n s
     ·
      rfl
     ·
      simp[hq] at h2
    ·
     exact namesErr_in h s hs
abbrev ty0:DTy:=⟨0,0,0⟩
abbrev tyI:DTy:=⟨1,0,0⟩
abbrev tyB:DTy:=⟨2,0,0⟩
theorem ty000:(AV.agg [.raw (.int .i64 0),.raw (.int .i64 0),.raw (.int .i64 0)])=(⟨0,0,0⟩:DTy).enc:=by rw[DTy.enc_eq]
theorem ty100:(AV.agg [.raw (.int .i64 1),.raw (.int .i64 0),.raw (.int .i64 0)])=(⟨1,0,0⟩:DTy).enc:=by rw[DTy.enc_eq]
theorem ty200:(AV.agg [.raw (.int .i64 2),.raw (.int .i64 0),.raw (.int .i64 0)])=(⟨2,0,0⟩:DTy).enc:=by rw[DTy.enc_eq]
abbrev tyA (q:DTy × Bool):AV:=.tup [q.1.enc,.b q.2]
theorem pure_tyA (q:DTy × Bool):Go.Abs.Pure (tyA q):=.tup _ (pure_cons (DTy.pure _) (pure_cons (.raw _) pure_nil))
theorem finTy {T:TypeId→TI} {rs:List ResultVar} {s:List AV} {h:List Blk} {q:DTy × Bool} {a b c:Int} {ok:Bool} (hr:resAV T s h rs=some [.agg [.i a,.i b,.i c],.b ok]) (hp:q=(⟨a,b,c⟩,ok)):Go.Abs.Fin T rs (tyA q) s h:=by
 subst hp
 exact⟨_,hr,false,by rw[show tyA (⟨a,b,c⟩,ok)=.tup [.agg [.i a,.i b,.i c],.b ok] by show AV.tup [DTy.enc _,_]=_;rw[DTy.enc_eq]];exact .refl _⟩
def unT (op:Int) (t:DTy):DTy × Bool:=if op=1∧t=tyI then(tyI,true) else if op=2∧t=tyB then(tyB,true) else(ty0,false)
def binT (op:Int) (t u:DTy):DTy × Bool :=
 if 3≤op∧op≤7∧t=tyI∧u=tyI then(tyI,true)
 else if(8≤op∧op≤10∧t=tyB∧u=tyB)∨(13≤op∧op≤16∧t=tyI∧u=tyI)∨((op=11∨op=12)∧t=u∧t.Len=0) then(tyB,true) else(ty0,false)
def groupF (op:Int):Int:=if 3≤op∧op≤7 then 1 else if 8≤op∧op≤10 then 2 else if op=11∨op=12 then 4 else if 13≤op∧op≤16 then 3 else 0
def sameT (l:List DTy):Bool:=l.all fun t=>decide (t=l.headD ty0)
theorem nothing88 (e:Ex) (n:Int):PCall Tryz.prog 263 [e.enc,.i n] (nothingE e n).enc:=by
 refine pcall_of_vc tabOK Tryz.func263 (by kernel_rfl) rfl (by first|exact pureL|exact pureI) (DRule.pure _) (n:=17) rfl (rs:=[.cell 4 249]) rfl ?_
 repeat' first
  | simp only[go_sem]
  | (refine drawC [1] mo (by kernel_rfl) ?_)
  | exact finRule rfl rfl
theorem leaf87 (e:Ex) (hn:e.name.size≤1000000):PCall Tryz.prog 262 [e.enc] (leafE e).enc:=by
 refine pcall_of_vc tabOK Tryz.func262 (by kernel_rfl) rfl (by first|exact pureL|exact pureI) (DRule.pure _) (n:=44) rfl (rs:=[.cell 2 249]) rfl ?_
 simp only[go_sem]
 refine PCall.call (nothing88 e 0) ?_
 repeat' first
  | simp only[go_sem,nothingE]
  | refine brK_dec (fun _=>?_) (fun _=>?_)
  | refine gK_dec (fun _=>?_) (fun _=>?_)
  | refine PCall.call (low6 _) ?_
  | refine PCall.call (high8 _) ?_
  | refine PCall.call (path12 _ hn) ?_
  | (refine drawC [2] mo (by kernel_rfl) ?_)
  | (exact finRule rfl (by simp[leafE,nothingE, *]))
theorem of68 (e:Ex) (hn:e.name.size≤1000000):PCall Tryz.prog 213 [e.enc] (ruleA (ofE e)):=by
 refine pcall_of_vc tabOK Tryz.func213 (by kernel_rfl) rfl (by first|exact pureL|exact pureI) (pure_ruleA _) (n:=106) rfl (rs:=[.cell 2 249,.tmp 3]) rfl ?_
 repeat' first
  | (exfalso;omega)
  | simp only[go_sem,nothingE]
  | (intro _)
  | refine brK_dec (fun _=>?_) (fun _=>?_)
  | refine gK_dec (fun _=>?_) (fun _=>?_)
  | refine gqK_dec (fun _=>?_) (fun _=>?_)
  | refine PCall.call (low6 _) ?_
  | refine pcK_of (low6 _) ?_
  | refine PCall.call (leaf87 e hn) ?_
  | refine PCall.call (nothing88 e _) ?_
  | (refine drawC [2] mo (by kernel_rfl) ?_)
  | (exact finRule2 rfl (by simp[ofE,nothingE, *]))
  | (exact finRule2 rfl (by simp[ofE,nothingE, *]<;>omega))
theorem parts_sub {L:List Ex} {e:Ex} {n i:Nat} {x:Ex} (hL:∀(k:Nat) y,(parts e)[k]?=some y→L[n+k]?=some y) (hx:e.subs[i]?=some x) :
  ∀(k:Nat) y,(parts x)[k]?=some y→L[n+1+(partsL (e.subs.take i)).length+k]?=some y:=by
 obtain⟨hi,rfl⟩:=List.getElem?_eq_some_iff.1 hx
 intro k y hy
 have h1:=partsL_take hi
 have h2:partsL e.subs=partsL (e.subs.take i)++parts e.subs[i]++partsL (e.subs.drop (i+1)):=by
  rw[← h1,← partsL_append,List.take_append_drop]
 have:=hL (1+(partsL (e.subs.take i)).length+k) y (by
  rw[parts_eq,h2,show 1+(partsL (e.subs.take i)).length+k=((partsL (e.subs.take i)).length+k)+1 by omega,List.getElem?_cons_succ,List.append_assoc,List.getElem?_append_right (by omega),show(partsL (e.subs.take i)).length+k-(partsL (e.subs.take i)).length=k by omega,
   List.getElem?_append_left (List.getElem?_eq_some_iff.1 hy).1]
  exact hy)
 rw[show n+1+(partsL (e.subs.take i)).length+k=n+(1+(partsL (e.subs.take i)).length+k) by omega]
 exact this
theorem walk53 (yl m0:Nat) (L:List Ex) (I:Nat→List Blk→Prop) (St:List Blk→Prop) (hlen:∀ n h,I n h→h.length=m0) (hst:∀ h,St h→h.length=m0)
  (hy:∀ n x h r (K:AV→List Blk→Prop),L[n]?=some x→I n h→(∀ h' r',I (n+1) h'→K (.b true) (h'++(r++r')))→(∀ h' r',St h'→K (.b false) (h'++(r++r')))→YCall Tryz.prog yl [x.enc] (h++r) K) :
  ∀(e:Ex) (n:Nat) (h r:List Blk) (K:AV→List Blk→Prop),(∀(k:Nat) y,(parts e)[k]?=some y→L[n+k]?=some y)→I n h →
   (∀ h' r',I (n+(parts e).length) h'→K (.b true) (h'++(r++r')))→(∀ h' r',St h'→K (.b false) (h'++(r++r')))→ACall Tryz.prog 212 [e.enc,.fn (.yield yl) [] []] (h++r) K:=by
 intro e
 induction e using Ex.ind with
 | _ e ih =>
 intro n h r K hL hI hT hF
 refine acallK_of_vc tabOK Tryz.func212 (by kernel_rfl) rfl (n:=23) rfl (rs:=[.tmp 4]) rfl ?_
 simp only[go_sem]
 have h0:L[n]?=some e:=by have:=hL 0 e (by rw[parts_eq];rfl);simpa using this
 have hm:=hlen _ _ hI
 refine hy n e h (r++[exBx e]) _ h0 hI (fun h1 r1 hI1=>?_) (fun h1 r1 hS1=>?_)
 ·
  have hm1:=hlen _ _ hI1
  have hbox:(h1++(r++exBx e::r1))[h.length+r.length]?=some (.cells 72 [.i e.kind,.i e.n,.s e.name,.i e.op,.lst 1 (e.arms.map AV.s) none,.lst 6 (e.subs.map Ex.enc) none]):=by
   rw[List.getElem?_append_right (by omega),List.getElem?_append_right (by omega)]
   rw[show h.length+r.length-h1.length-r.length=0 by omega];rfl
  simp only[go_sem,hbox]
  intro _
  refine loop_fr [4,6,14,15,16,17,18,19,20,21,22] (fun m C hh=>∃(i:Nat) (h' r':List Blk),i≤e.subs.length∧m=e.subs.length-i∧I (n+1+(partsL (e.subs.take i)).length) h'∧C=[(14,.raw (.int .i64 (i:Nat)))]∧hh=h'++(r++exBx e::r')) e.subs.length _ ⟨0,h1,r1,by omega,by omega,by simpa[partsL] using hI1,rfl,rfl⟩ (.cons rfl .nil) ?_
  rintro m C j hh ⟨i,h',r',hi,rfl,hI',rfl,rfl⟩
  simp only[go_sem]
  refine brK_dec (fun hlt=>?_) (fun hge=>?_)
  ·
   simp only[go_sem]
   refine elemMap (by omega) (by omega) (fun x hx=>?_)
   have hx':e.subs[i]?=some x:=by simpa using hx
   simp only[go_sem]
   refine ih x (List.mem_of_getElem? hx') (n+1+(partsL (e.subs.take i)).length) h' (r++exBx e::(r'++[exBx x])) _ (parts_sub hL hx') hI' (fun h2 r2 hI2=>?_) (fun h2 r2 hS2=>?_)
   ·
    simp only[go_sem]
    exact loopFr _ (by omega) ⟨i+1,h2,r'++(exBx x::r2),by omega,rfl,by rw[parts_len hx',← Nat.add_assoc];exact hI2,rfl,by simp⟩ (.next rfl (by omega) .nil) rfl
   ·
    simp only[go_sem]
    exact finK (r:=.b false) rfl (by have:=hF h2 (exBx e::(r'++(exBx x::r2))) hS2;simpa using this)
  ·
   simp only[go_sem]
   have hie:i=e.subs.length:=by omega
   subst hie
   rw[List.take_length] at hI'
   exact finK rfl (hT h' (exBx e::r') (by rw[parts_eq,List.length_cons,show n+((partsL e.subs).length+1)=n+1+(partsL e.subs).length by omega];exact hI'))
 ·
  simp only[go_sem]
  exact finK rfl (hF h1 (exBx e::r1) hS1)
theorem each28 (e:Ex) {h:List Blk} {K:AV→List Blk→Prop} (hK:K (.fn (.func 211) [] [.ptr h.length 0]) (h++[exBx e])):ACall Tryz.prog 167 [e.enc] h K:=by
 refine acallK_of_vc tabOK Tryz.func167 (by kernel_rfl) rfl (n:=4) rfl (rs:=[.tmp 2]) rfl ?_
 simp only[go_sem]
 exact finK rfl hK
theorem each52 (e:Ex) (yl m0:Nat) (I:Nat→List Blk→Prop) (St:List Blk→Prop) (hlen:∀ n h,I n h→h.length=m0) (hst:∀ h,St h→h.length=m0)
  (hy:∀ n x h r (K:AV→List Blk→Prop),(parts e)[n]?=some x→I n h→(∀ h' r',I (n+1) h'→K (.b true) (h'++(r++r')))→(∀ h' r',St h'→K (.b false) (h'++(r++r')))→YCall Tryz.prog yl [x.enc] (h++r) K)
  {h:List Blk} {k:Nat} {K:AV→List Blk→Prop} (hk:h[k]?=some (exBx e)) (h0:I 0 h) (hT:∀ h' r',I (parts e).length h'→K (.tup []) (h'++r')) (hF:∀ h' r',St h'→K (.tup []) (h'++r')) :
  ACall Tryz.prog 211 [.fn (.yield yl) [] [],.ptr k 0] h K:=by
 have hk':h[k]?=some (.cells 72 [.i e.kind,.i e.n,.s e.name,.i e.op,.lst 1 (e.arms.map AV.s) none,.lst 6 (e.subs.map Ex.enc) none]):=hk
 refine acallK_of_vc tabOK Tryz.func211 (by kernel_rfl) rfl (n:=6) rfl (rs:=[]) rfl ?_
 simp only[go_sem,hk']
 have hw:=walk53 yl m0 (parts e) I St hlen hst hy e 0 h []
 rw[List.append_nil] at hw
 refine hw _ (fun k y hy=>by simpa using hy) h0 (fun h' r' hI'=>?_) (fun h' r' hS'=>?_)
 ·
  simp only[go_sem]
  rw[Nat.zero_add] at hI'
  exact⟨[],rfl,.tup [],.refl _,hT _ _ hI'⟩
 ·
  simp only[go_sem]
  exact⟨[],rfl,.tup [],.refl _,hF _ _ hS'⟩
theorem acall_ghost {P:Program} {f:FuncId} {args args':List AV} {h h':List Blk} {K:AV→List Blk→Prop} (hg:Ghost args h args' h') (hc:ACall P f args' h' K):ACall P f args h K:=by
 unfold ACall Ghost at *
 intro S φ w vs hr ha
 obtain⟨S1,φ1,k1,k2,k3⟩:=hg S φ w vs ha hr
 obtain⟨h1,h2⟩:=hc S1 φ1 w vs k2 k1
 refine⟨h1,Calls.mono h2 ?_⟩
 rintro e w' ⟨v,r,hh,S',φ',e1,e2,e3,e4,e5⟩
 exact⟨v,r,hh,S',φ',e1,e2,e3,e4,k3.trans e5⟩
theorem each_range (e:Ex) {ps:Array Tmp} {x y:Code} {s:List AV} {l:Nat} {Q:Post} (m k g:Nat) (Inv:Nat→Prop) (H G:Nat→List Blk) (Hs:List Blk→Prop) (hH:∀ n,(H n).length=m) (hG:∀ n,(G n).length=g) (hHs:∀ h,Hs h→h.length=m) (hk:(H 0)[k]?=some (exBx e)) (hps:ps.size=1) (hx:noR x=true) (hy:noR y=true) (h0:Inv 0)
  (hbody:∀(n:Nat) (z:Ex) (r:List Blk) (K:AV→List Blk→Prop),(parts e)[n]?=some z→Inv n→(Inv (n+1)→∀ r',K (.b true) (H (n+1)++(.lp l .ready none ps x y s::(G (n+1)++(r++r')))))→(∀ h' r',Hs h'→K (.b false) (h'++(.lp l .done (some .ret) ps x y s::(G n++(r++r'))))) →
   vc Tryz.prog ti x (roundA Tryz.prog ti l m ps x y s K) (setPs s ps.toList [z.enc]) (H n++(.lp l .ready none ps x y s::(G n++r))))
  (hn:∀ r,Inv (parts e).length→Q .normal s (H (parts e).length++(.dead::(G (parts e).length++r)))) (hr:∀ n h' r,Hs h'→Q .ret s (h'++(.dead::(G n++r)))) :
  ACall Tryz.prog 211 [.fn (.yield l) [] [],.ptr k 0] (H 0++(.lp l .ready none ps x y s::G 0)) (fun _ h'=>loopEnd Q s m h'):=by
 refine each52 e l (m+1+g) (fun n h=>Inv n∧h=H n++(.lp l .ready none ps x y s::G n)) (fun h=>∃ n h',Hs h'∧h=h'++(.lp l .done (some .ret) ps x y s::G n)) ?_ ?_ ?_ ?_ ⟨h0,rfl⟩ ?_ ?_
 ·
  rintro n h ⟨_,rfl⟩;simp[hH,hG];omega
 ·
  rintro h ⟨n,h',hs,rfl⟩;simp[hHs h' hs,hG];omega
 ·
  rintro n z h r K hz ⟨hi,rfl⟩ hK1 hK2
  rw[List.append_assoc,List.cons_append]
  refine ycall_of_vc tabOK (k:=m) (ps:=ps) (x:=x) (y:=y) (s:=s) ?_ (by simp[hps]) hx hy (hbody n z r K hz hi (fun hi' r'=>?_) (fun h' r' hs=>?_))
  ·
   rw[List.getElem?_append_right (by rw[hH];exact Nat.le_refl _),hH,Nat.sub_self];rfl
  ·
   have:=hK1 _ r' ⟨hi',rfl⟩
   rwa[List.append_assoc,List.cons_append] at this
  ·
   have:=hK2 _ r' ⟨n,h',hs,rfl⟩
   rwa[List.append_assoc,List.cons_append] at this
 ·
  rw[List.getElem?_append_left (List.getElem?_eq_some_iff.1 hk).1];exact hk
 ·
  rintro h' r' ⟨hi,rfl⟩
  have e1:((H (parts e).length++(Blk.lp l .ready none ps x y s::G (parts e).length))++r')[m]?=some (.lp l .ready none ps x y s):=by
   rw[List.append_assoc,List.getElem?_append_right (by rw[hH];exact Nat.le_refl _),hH,Nat.sub_self];rfl
  have e2:((H (parts e).length++(Blk.lp l .ready none ps x y s::G (parts e).length))++r').set m .dead=H (parts e).length++(.dead::(G (parts e).length++r')):=by
   rw[List.append_assoc,List.set_append_right _ _ (by rw[hH];exact Nat.le_refl _),hH,Nat.sub_self];rfl
  unfold loopEnd
  rw[e1,e2]
  exact hn r' hi
 ·
  rintro h r' ⟨n,h',hs,rfl⟩
  have e1:((h'++(Blk.lp l .done (some .ret) ps x y s::G n))++r')[m]?=some (.lp l .done (some .ret) ps x y s):=by
   rw[List.append_assoc,List.getElem?_append_right (by rw[hHs h' hs];exact Nat.le_refl _),hHs h' hs,Nat.sub_self];rfl
  have e2:((h'++(Blk.lp l .done (some .ret) ps x y s::G n))++r').set m .dead=h'++(.dead::(G n++r')):=by
   rw[List.append_assoc,List.set_append_right _ _ (by rw[hHs h' hs];exact Nat.le_refl _),hHs h' hs,Nat.sub_self];rfl
  unfold loopEnd
  rw[e1,e2]
  exact hr n h' r' hs
theorem size20 (e:Ex) (hb:(parts e).length≤100000):PCall Tryz.prog 165 [e.enc] (.i ((parts e).length:Nat)):=by
 refine pcall_of_vc tabOK Tryz.func165 (by kernel_rfl) rfl pureL pureI (n:=10) rfl (rs:=[.tmp 2]) rfl ?_
 simp only[go_sem]
 refine each28 e ?_
 simp only[go_sem]
 intro l
 refine each_range e 3 2 0 (fun _=>True) (fun n=>[exBx e,.cells 3 [.i (n:Nat)],exBx e]) (fun _=>[]) (fun _=>False) (fun _=>rfl) (fun _=>rfl) (fun _ h=>h.elim) rfl rfl rfl rfl trivial (fun n z r K hz _ hK1 _=>?_) (fun r _=>?_) (fun _ _ _ h=>h.elim)
 ·
  have hn:=(List.getElem?_eq_some_iff.1 hz).1
  simp only[go_sem,setPs,roundA]
  try refine⟨rfl,?_⟩
  try simp only[go_sem,roundB]
  have:=hK1 trivial []
  rw[wrap_in _ (by omega) (by omega)]
  simpa using this
 ·
  simp only[go_sem]
  exact⟨_,rfl,false,.refl _⟩
theorem ints33 (l m:List Int):PCall Tryz.prog 48 [.lst 1 (l.map (AV.i)) none,.lst 1 (m.map (AV.i)) none] (.b (eqB l m)):=by
 refine pcall_of_vc tabOK Tryz.func48 (by kernel_rfl) rfl pureL pureI (n:=26) rfl (rs:=[.tmp 4]) rfl ?_
 repeat' first
  | exact finB rfl
  | exact finI rfl
  | exact finP rfl
  | exact absurd rfl (by assumption)
  | simp only[go_sem]
  | (intro _)
  | refine brK_dec (fun _=>?_) (fun _=>?_)
  | refine brK_any ?_ ?_
  | refine gK_dec (fun _=>?_) (fun _=>?_)
  | refine gK_any ?_ ?_
  | refine gqK_dec (fun _=>?_) (fun _=>?_)
  | refine⟨by omega,?_⟩
  | refine elemHave (by omega) (by assumption) ?_
  | refine elemMap (by omega) (by omega) (fun x hx=>?_)
  | refine drawK mo (by kernel_rfl) ?_
  | (rw[eqB_ne (len_ne (l:=l) (m:=m) (by omega))];exact⟨_,rfl,false,.refl _⟩)
  | (rw[eqB_ne (at_ne (l:=l) (m:=m) (i:=i) (by assumption) (by assumption) (by assumption))];exact⟨_,rfl,false,.refl _⟩)
  | (rw[eqB_eq (take_eq_full (l:=l) (m:=m) (i:=i) (by omega) hpi (by omega))];exact⟨_,rfl,false,.refl _⟩)
  | exact loopFrH _ (by omega) ⟨i+1,by omega,rfl,take_eq_step hpi (by assumption) (by assumption) (by assumption),rfl⟩ (.next rfl (by omega) .nil) rfl
  | (refine loop_frH [4,5,11,12,13,14,15,16,17,18,19,20,21,22,23,24,25] (fun mm_ CC_=>∃(i:Nat),i≤l.length∧mm_=l.length-i∧(l.take i=m.take i)∧CC_=[(5,.raw (.int .i64 ((i:Nat):Int)))]) (l.length) _ ⟨0,by omega,by omega,rfl,rfl⟩ (.cons rfl .nil) ?_;rintro mm_ CC_ ji ⟨i,hi,rfl,hpi,rfl⟩)
theorem mapN (l:List Nat):l.map AV.n=(l.map fun n:Nat=>(n:Int)).map AV.i:=by simp
end Go.Proofs.YtpamokpmlplopaaGreatDoor
