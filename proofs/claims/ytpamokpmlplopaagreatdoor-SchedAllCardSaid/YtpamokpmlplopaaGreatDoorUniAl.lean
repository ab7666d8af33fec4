/-
  RightD, ExD, DeclPr, AbsTA, Ctor1, Ctor2, Ctor3: put together.
-/
import Derived.Test.YtpamokpmlplopaaGreatDoorUniAf
import Derived.Test.YtpamokpmlplopaaGreatDoorUniAh
import Derived.Test.YtpamokpmlplopaaGreatDoorUniAi
import Derived.Test.YtpamokpmlplopaaGreatDoorUniAj
namespace Go.Proofs.YtpamokpmlplopaaGreatDoor
open Go.Abs
set_option maxRecDepth 20000
set_option linter.unusedSimpArgs false
set_option linter.unusedVariables false
set_option maxHeartbeats 1000000
attribute [local irreducible] vc vcOps vcStep vcGuard prK hrK gK gsK brK callK ElemK SeqK BlockK ScopeK OpsK CallK LoopK LoopGo finPost ACall PCall PCallE BCall vqOps vqStep vqGuard qrK heK pcK gqK gqsK QOpsK qcallK DrawK
structure DRule where
 number:Bool
 name:Bool
 op:Bool
 least:Int
 most:Int
 arms:Int
abbrev DRule.enc (r:DRule):AV:=.agg [.b r.number,.b r.name,.b r.op,.i r.least,.i r.most,.i r.arms]
theorem DRule.pure (r:DRule):Go.Abs.Pure r.enc:=.agg _ (pure_cons (.raw _) (pure_cons (.raw _) (pure_cons (.raw _) (pure_cons (.raw _) (pure_cons (.raw _) (pure_cons (.raw _) pure_nil))))))
abbrev ruleA (p:DRule × Bool):AV:=.tup [p.1.enc,.b p.2]
theorem pure_ruleA (p:DRule × Bool):Go.Abs.Pure (ruleA p):=.tup _ (pure_cons (DRule.pure _) (pure_cons (.raw _) pure_nil))
theorem finRule {T:TypeId→TI} {rs:List ResultVar} {s:List AV} {h:List Blk} {p:DRule} {x y z:Bool} {a b c:Int} (hr:resAV T s h rs=some [.agg [.b x,.b y,.b z,.i a,.i b,.i c]]) (hp:p=⟨x,y,z,a,b,c⟩):Go.Abs.Fin T rs p.enc s h:=by
 subst hp
 exact⟨_,hr,false,.refl _⟩
theorem finRule2 {T:TypeId→TI} {rs:List ResultVar} {s:List AV} {h:List Blk} {p:DRule × Bool} {x y z ok:Bool} {a b c:Int} (hr:resAV T s h rs=some [.agg [.b x,.b y,.b z,.i a,.i b,.i c],.b ok]) (hp:p=(⟨x,y,z,a,b,c⟩,ok)):Go.Abs.Fin T rs (ruleA p) s h:=by
 subst hp
 exact⟨_,hr,false,.refl _⟩
def k0:List Ex→Int
 | []=>0
 | x::_=>x.kind
def litE (e:Ex):Bool:=if e.kind=5 then decide (e.op=1)&&decide (e.subs.length=1)&&decide (k0 e.subs=1) else decide (e.kind=1∨e.kind=2∨e.kind=4)
def constE (e:Ex):Bool:=if e.kind=14 then e.subs.all litE else litE e
abbrev tTrue:ByteArray:=⟨#[116,114,117,101]⟩
abbrev tFalse:ByteArray:=⟨#[102,97,108,115,101]⟩
def armE (s:ByteArray):Bool:=highF s || decide (s=tTrue) || decide (s=tFalse)
def nothingE (e:Ex) (n:Int):DRule:=⟨decide (e.n=0),decide (e.name=⟨#[]⟩),decide (e.op=0),n,n,0⟩
def leafE (e:Ex):DRule :=
 if e.kind=1 then { nothingE e 0 with number:=decide (e.n≥0) }
 else if e.kind=2 then { nothingE e 0 with number:=decide (e.n=0∨e.n=1) }
 else if e.kind=3 then { nothingE e 0 with name:=lowF e.name }
 else if e.kind=4 then { nothingE e 0 with name:=highF e.name }
 else if e.kind=17 then { nothingE e 0 with name:=pathF e.name }
 else nothingE e 0
def ofE (e:Ex):DRule × Bool :=
 if e.kind=1∨e.kind=2∨e.kind=3∨e.kind=4∨e.kind=17 then(leafE e,true)
 else if e.kind=5 then({ nothingE e 1 with op:=decide (e.op=1∨e.op=2) },true)
 else if e.kind=6 then({ nothingE e 2 with op:=decide (3≤e.op∧e.op≤16) },true)
 else if e.kind=7∨e.kind=16 then(nothingE e 3,true)
 else if e.kind=8∨e.kind=9∨e.kind=15 then(nothingE e 2,true)
 else if e.kind=10 then(nothingE e 1,true)
 else if e.kind=11 then({ nothingE e 1 with name:=lowF e.name,arms:=1 },true)
 else if e.kind=12 then({ nothingE e e.arms.length with name:=lowF e.name,arms:=6 },true)
 else if e.kind=13 then(⟨decide (e.n=0∨e.n=1),lowF e.name,decide (e.op=0),e.n,if e.n=0 then 6 else 7,0⟩,true)
 else if e.kind=14 then({ nothingE e 1 with most:=8 },true)
 else(⟨false,false,false,0,0,0⟩,false)
noncomputable def partP (e:Ex):Bool :=
 (ofE e).2&&(ofE e).1.number&&(ofE e).1.name&&(ofE e).1.op&&decide ((ofE e).1.least≤e.subs.length)&&decide ((e.subs.length:Int)≤(ofE e).1.most)&&decide ((e.arms.length:Int)≤(ofE e).1.arms)&&!(decide ((ofE e).1.arms>0)&&decide (e.arms.length=0))
  && onceB e.arms&&e.arms.all armE&&(decide (¬ e.kind=8) || constE (e.subs.headD e))
def numbersE (e:Ex):Bool:=(if e.kind=5 then decide (1≤e.op∧e.op≤2) else if e.kind=6 then decide (3≤e.op∧e.op≤16) else decide (e.op=0))&&(if e.kind=1 then decide (0≤e.n) else if e.kind=2∨e.kind=13 then decide (e.n=0∨e.n=1) else decide (e.n=0))
def namedE (e:Ex):Bool:=if e.kind=3∨e.kind=11∨e.kind=12∨e.kind=13 then lowF e.name else if e.kind=4 then highF e.name else if e.kind=17 then pathF e.name else decide (e.name=⟨#[]⟩)
noncomputable def armsE (e:Ex):Bool:=e.arms.all armE&&(if e.kind=11 then decide (e.arms.length=1) else if e.kind=12 then decide (1≤e.arms.length∧e.arms.length≤6)&&onceB e.arms else decide (e.arms.length=0))
def subsE (e:Ex):Int × Int :=
 if e.kind=5∨e.kind=10∨e.kind=11 then(1,1) else if e.kind=6∨e.kind=8∨e.kind=9∨e.kind=15 then(2,2) else if e.kind=7∨e.kind=16 then(3,3)
 else if e.kind=12 then(e.arms.length,e.arms.length) else if e.kind=13 then(e.n,6+e.n) else if e.kind=14 then(1,8) else(0,0)
noncomputable def partE (e:Ex):Bool:=decide (1≤e.kind∧e.kind≤17)&&numbersE e&&namedE e&&armsE e&&decide ((subsE e).1≤e.subs.length)&&decide ((e.subs.length:Int)≤(subsE e).2)&&(decide (¬ e.kind=8) || constE (e.subs.headD e))
theorem once0 {l:List ByteArray} (h:l.length=0):onceB l=true:=onceB_yes (by rw[List.length_eq_zero_iff.1 h];exact List.nodup_nil)
theorem once1 {l:List ByteArray} (h:l.length=1):onceB l=true:=by
 match l,h with
 | [x],_=>exact onceB_yes (by simp)
mutual
def depthE:Ex→Nat
 | .mk _ _ _ _ _ s=>depthL s+1
def depthL:List Ex→Nat
 | []=>0
 | x::xs=>max (depthE x) (depthL xs)
end
theorem depthE_eq (e:Ex):depthE e=depthL e.subs+1:=by cases e;simp[depthE,Ex.subs]
theorem depthL_append (l m:List Ex):depthL (l++m)=max (depthL l) (depthL m):=by
 induction l with
 | nil=>simp[depthL]
 | cons x l ih=>simp only[List.cons_append,depthL,ih];omega
theorem depthL_take {l:List Ex} {k:Nat} {x:Ex} (hx:l[k]?=some x):depthL (l.take (k+1))=max (depthL (l.take k)) (depthE x):=by
 obtain⟨hk,rfl⟩:=List.getElem?_eq_some_iff.1 hx
 rw[List.take_succ_eq_append_getElem hk,depthL_append]
 simp[depthL]
mutual
theorem depth_le:∀(e:Ex),depthE e≤(parts e).length
 | .mk _ _ _ _ _ s=>by
  have:=depthL_le s
  simp only[depthE,parts,List.length_cons];omega
theorem depthL_le:∀(l:List Ex),depthL l≤(partsL l).length
 | []=>by simp[depthL]
 | x::xs=>by
  have h1:=depth_le x
  have h2:=depthL_le xs
  simp only[depthL,partsL,List.length_append];omega
end
noncomputable def rightE (e:Ex):Bool:=decide ((parts e).length≤60)&&decide (depthE e≤12)&&(parts e).all partE
set_option maxHeartbeats 4000000 in
theorem part_same (e:Ex):partP e=partE e:=by
 unfold partP partE
 by_cases h:1≤e.kind∧e.kind≤17
 ·
  have:e.kind=1∨e.kind=2∨e.kind=3∨e.kind=4∨e.kind=5∨e.kind=6∨e.kind=7∨e.kind=8∨e.kind=9∨e.kind=10∨e.kind=11∨e.kind=12∨e.kind=13∨e.kind=14∨e.kind=15∨e.kind=16∨e.kind=17:=by omega
  rcases this with h|h|h|h|h|h|h|h|h|h|h|h|h|h|h|h|h
  all_goals
   rw[Bool.eq_iff_iff]
   simp only[ofE,leafE,nothingE,numbersE,namedE,armsE,subsE,h]
   have o0:=@once0 e.arms
   have o1:=@once1 e.arms
   simp
   first|(done)|(constructor<;>(intro hh;simp_all<;>omega))|skip
  ·
   intro hc
   rw[← List.length_eq_zero_iff]
   constructor
   ·
    rintro⟨⟨⟨⟨⟨⟨⟨a,b⟩,c⟩,d⟩,f⟩,g⟩,_⟩,j⟩
    exact⟨⟨⟨⟨⟨c,a⟩,b⟩,j,g⟩,d⟩,f⟩
   ·
    rintro⟨⟨⟨⟨⟨c,a⟩,b⟩,j,g⟩,d⟩,f⟩
    exact⟨⟨⟨⟨⟨⟨⟨a,b⟩,c⟩,d⟩,f⟩,g⟩,o0 g⟩,j⟩
  ·
   rw[← List.length_eq_zero_iff]
   constructor
   ·
    rintro⟨⟨⟨⟨⟨⟨⟨⟨a,b⟩,c⟩,d⟩,f⟩,g⟩,g2⟩,_⟩,j⟩
    exact⟨⟨⟨⟨⟨c,a⟩,b⟩,j,by omega⟩,d⟩,f⟩
   ·
    rintro⟨⟨⟨⟨⟨c,a⟩,b⟩,j,g⟩,d⟩,f⟩
    exact⟨⟨⟨⟨⟨⟨⟨⟨a,b⟩,c⟩,d⟩,f⟩,by omega⟩,by omega⟩,o1 g⟩,j⟩
  ·
   rw[← List.length_eq_zero_iff]
   constructor
   ·
    rintro⟨⟨⟨⟨⟨⟨⟨⟨a,b⟩,c⟩,d⟩,f⟩,g⟩,g2⟩,i⟩,j⟩
    exact⟨⟨⟨⟨⟨c,a⟩,b⟩,j,⟨by omega,by omega⟩,i⟩,d⟩,f⟩
   ·
    rintro⟨⟨⟨⟨⟨c,a⟩,b⟩,j,⟨g1,g2⟩,i⟩,d⟩,f⟩
    exact⟨⟨⟨⟨⟨⟨⟨⟨a,b⟩,c⟩,d⟩,f⟩,by omega⟩,by omega⟩,i⟩,j⟩
 ·
  have h2:(ofE e).2=false:=by
   unfold ofE
   repeat' (first|rw[if_neg (by omega)]|rfl)
  rw[h2,decide_eq_false h]
  simp
theorem k0_at {l:List Ex} {x:Ex} (hx:l[((0:Int)).toNat]?=some x):k0 l=x.kind:=by
 match l with
 | y::l=>simp at hx;rw[hx];rfl
theorem head_at {l:List Ex} {x z:Ex} (hx:l[((0:Int)).toNat]?=some x):l.headD z=x:=by
 match l with
 | y::l=>simp at hx;rw[hx];rfl
theorem sub_small {e x:Ex} (hx:x∈e.subs) (h:(parts e).length≤100000):(parts x).length≤100000:=by
 obtain⟨i,hi,rfl⟩:=List.getElem_of_mem hx
 have:=parts_le hi
 rw[parts_eq e] at h
 simp at h
 omega
theorem max_step {l:List Ex} {i:Nat} {x:Ex} (hx:l[i]?=some x):(if((depthE x:Nat):Int)>((depthL (l.take i):Nat):Int) then((depthE x:Nat):Int) else((depthL (l.take i):Nat):Int))=((depthL (l.take (i+1)):Nat):Int):=by
 rw[depthL_take hx]
 split<;>omega
theorem parts_len {e:Ex} {i:Nat} {x:Ex} (hx:e.subs[i]?=some x):(partsL (e.subs.take (i+1))).length=(partsL (e.subs.take i)).length+(parts x).length:=by
 obtain⟨hi,rfl⟩:=List.getElem?_eq_some_iff.1 hx
 rw[partsL_take hi,List.length_append]
abbrev exBx (e:Ex):Blk:=.cells 72 [.i e.kind,.i e.n,.s e.name,.i e.op,.lst 1 (e.arms.map AV.s) none,.lst 6 (e.subs.map Ex.enc) none]
theorem mem_partsL {l:List Ex} {y:Ex} (h:y∈partsL l):∃ x∈l,y∈parts x:=by
 induction l with
 | nil=>simp[partsL] at h
 | cons x l ih =>
  simp only[partsL,List.mem_append] at h
  rcases h with h|h
  ·
   exact⟨x,by simp,h⟩
  ·
   obtain⟨z,hz,hy⟩:=ih h
   exact⟨z,by simp[hz],hy⟩
theorem sub_partsL {l:List Ex} {x y:Ex} (hx:x∈l) (h:y∈parts x):y∈partsL l:=by
 induction l with
 | nil=>simp at hx
 | cons z l ih =>
  simp only[partsL,List.mem_append]
  rcases List.mem_cons.1 hx with rfl|hx
  ·
   exact .inl h
  ·
   exact .inr (ih hx)
theorem sub_parts {e x y:Ex} (hx:x∈e.subs) (h:y∈parts x):y∈parts e:=by
 rw[parts_eq]
 exact List.mem_cons_of_mem _ (sub_partsL hx h)
theorem self_parts (e:Ex):e∈parts e:=by rw[parts_eq];simp
theorem partE_len {e:Ex} (h:partE e=true):(subsE e).1≤e.subs.length∧(e.subs.length:Int)≤(subsE e).2∧(e.kind=8→constE (e.subs.headD e)=true):=by
 unfold partE at h
 simp only[Bool.and_eq_true,Bool.or_eq_true,decide_eq_true_eq] at h
 refine⟨h.1.1.2,h.1.2,fun hk=>?_⟩
 rcases h.2 with h2|h2
 ·
  exact absurd hk h2
 ·
  exact h2
theorem depth_mem {l:List Ex} {x:Ex} (hx:x∈l):depthE x≤depthL l:=by
 induction l with
 | nil=>simp at hx
 | cons y l ih =>
  simp only[depthL]
  rcases List.mem_cons.1 hx with rfl|hx
  ·
   omega
  ·
   have:=ih hx;omega
theorem len_mem {l:List Ex} {x:Ex} (hx:x∈l):(parts x).length≤(partsL l).length:=by
 obtain⟨k,hk,rfl⟩:=List.getElem_of_mem hx
 exact parts_le hk
theorem part_in:∀(e x:Ex),x∈parts e→(∀ y∈parts x,y∈parts e)∧(parts x).length≤(parts e).length∧depthE x≤depthE e:=by
 intro e
 induction e using Ex.ind with
 | _ e ih =>
 intro x hx
 rw[parts_eq] at hx
 rcases List.mem_cons.1 hx with rfl|hx
 ·
  exact⟨fun y h=>h,Nat.le_refl _,Nat.le_refl _⟩
 ·
  obtain⟨z,hz,hxz⟩:=mem_partsL hx
  obtain⟨h1,h2,h3⟩:=ih z hz x hxz
  have h4:=len_mem hz
  have h5:=depth_mem hz
  refine⟨fun y hy=>sub_parts hz (h1 y hy),?_,?_⟩
  ·
   rw[parts_eq e,List.length_cons];omega
  ·
   rw[depthE_eq e];omega
theorem ok_part {e x:Ex} (h:okE e) (hx:x∈parts e):okE x:=by
 obtain⟨h1,h2,h3⟩:=part_in e x hx
 exact⟨Nat.le_trans h2 h.1,fun y hy=>h.2 y (h1 y hy)⟩
end Go.Proofs.YtpamokpmlplopaaGreatDoor
namespace Go.Proofs.YtpamokpmlplopaaGreatDoor
open Go.Abs
set_option maxRecDepth 20000
set_option linter.unusedSimpArgs false
set_option linter.unusedVariables false
set_option maxHeartbeats 1000000
attribute [local irreducible] vc vcOps vcStep vcGuard prK hrK gK gsK brK callK ElemK SeqK BlockK ScopeK OpsK CallK LoopK LoopGo finPost ACall PCall PCallE BCall vqOps vqStep vqGuard qrK heK pcK gqK gqsK QOpsK qcallK DrawK
abbrev allV (n:DNode):List DDecl:=[n.Ins,n.Outs,n.Vars].flatten
abbrev zeroD:DDecl:=⟨⟨#[]⟩,⟨0,0,0⟩,⟨#[]⟩,⟨#[]⟩⟩
def isD (name:ByteArray) (d:DDecl):Bool:=decide (d.Name=name)
def declF (name:ByteArray):List DDecl→DDecl × Bool
 | []=>(zeroD,false)
 | d::l=>if d.Name=name then(d,true) else declF name l
def decl (n:DNode) (name:ByteArray):DDecl × Bool:=declF name (allV n)
abbrev declA (p:DDecl × Bool):AV:=.tup [p.1.enc,.b p.2]
theorem declF_eq (name:ByteArray) (l:List DDecl):declF name l=match l.find? (isD name) with|some d=>(d,true)|none=>(zeroD,false):=by
 induction l with
 | nil=>rfl
 | cons d l ih =>
  simp only[declF,List.find?_cons,isD]
  by_cases h:d.Name=name
  ·
   simp[h]
  ·
   simp[h,ih,isD]
theorem declF_next {name:ByteArray} {l:List DDecl} {i:Nat} {x:DDecl} (hx:l[((i:Int)).toNat]?=some x) (hn:¬ x.Name=name) {D:DDecl × Bool} (hD:declF name (l.drop i)=D):declF name (l.drop (i+1))=D:=by
 rw[← hD]
 rw[Int.toNat_natCast] at hx
 obtain⟨hi,rfl⟩:=List.getElem?_eq_some_iff.1 hx
 rw[List.drop_eq_getElem_cons hi,declF,if_neg hn]
theorem declF_found {name:ByteArray} {l:List DDecl} {i:Nat} {x:DDecl} (hx:l[((i:Int)).toNat]?=some x) (hn:x.Name=name) {D:DDecl × Bool} (hD:declF name (l.drop i)=D):D=(x,true):=by
 rw[← hD]
 rw[Int.toNat_natCast] at hx
 obtain⟨hi,rfl⟩:=List.getElem?_eq_some_iff.1 hx
 rw[List.drop_eq_getElem_cons hi,declF,if_pos hn]
theorem all63 (n:DNode) (hl:(allV n).length≤4294967296):PCall Tryz.prog 258 [n.enc] (.lst 6 ((allV n).map DDecl.enc) none):=by
 refine pcall_of_vc tabOK Tryz.func258 (by kernel_rfl) rfl pureL pureI (n:=11) rfl (rs:=[.tmp 2]) rfl ?_
 repeat' first
  | exact finB rfl
  | exact finI rfl
  | exact finP rfl
  | exact absurd rfl (by assumption)
  | simp only[go_sem]
  | (intro _)
  | refine brK_dec (fun _=>?_) (fun _=>?_)
  | refine brK_any ?_ ?_
  | refine gK_dec (fun _=>?_) (fun _=>?_)
  | refine gK_any ?_ ?_
  | refine gqK_dec (fun _=>?_) (fun _=>?_)
  | refine⟨by omega,?_⟩
  | refine elemHave (by omega) (by assumption) ?_
  | refine elemMap (by omega) (by omega) (fun x hx=>?_)
  | refine drawK mo (by kernel_rfl) ?_
  | (refine PCall.callW (concatD [n.Ins,n.Outs,n.Vars] hl) ⟨.tok _ _ _,trivial⟩ ?_)
theorem decl25 (n:DNode) (name:ByteArray) (hl:(allV n).length≤4294967296):PCall Tryz.prog 208 [n.enc,.s name] (declA (decl n name)):=by
 refine pcall_of_vc tabOK Tryz.func208 (by kernel_rfl) rfl pureL pureI (n:=21) rfl (rs:=[.cell 4 77,.tmp 5]) rfl ?_
 simp only[go_sem]
 refine PCall.call (all63 n hl) ?_
 simp only[go_sem]
 refine acallK_of_vc tabOK Tryz.func260 (by kernel_rfl) rfl (n:=4) rfl (rs:=[.tmp 2]) rfl ?_
 simp only[go_sem]
 refine finK rfl ?_
 simp only[go_sem]
 refine indexDecl (p:=isD name) (fun x hx K hK=>?_) ?_
 ·
  refine acall_of_vc tabOK Tryz.func296 (by kernel_rfl) rfl (n:=8) rfl (rs:=[.tmp 3]) rfl ?_
  simp only[go_sem]
  exact finH0 _ rfl (.raw _) hK
 have hd:=declF_eq name (allV n)
 unfold decl
 rcases idxOf_cases (isD name) (allV n) with ⟨h1,h2⟩|⟨i,x,h1,h2,h3,_,h4⟩
 ·
  rw[h1]
  rw[h2] at hd
  rw[hd]
  repeat' first
  | exact finB rfl
  | exact finI rfl
  | exact finP rfl
  | exact absurd rfl (by assumption)
  | simp only[go_sem]
  | (intro _)
  | refine brK_dec (fun _=>?_) (fun _=>?_)
  | refine brK_any ?_ ?_
  | refine gK_dec (fun _=>?_) (fun _=>?_)
  | refine gK_any ?_ ?_
  | refine gqK_dec (fun _=>?_) (fun _=>?_)
  | refine⟨by omega,?_⟩
  | refine elemHave (by omega) (by assumption) ?_
  | refine elemMap (by omega) (by omega) (fun x hx=>?_)
  | refine drawK mo (by kernel_rfl) ?_
  | (exact finT rfl)
  | omega
  | (rw[show declA (zeroD,false)=.tup [zeroD.enc,.b false] from rfl,DDecl.enc_eq];exact⟨_,(by first|(simp only[go_sem];done)|(simp only[go_sem];exact rfl)|exact rfl),false,.refl _⟩)
 ·
  rw[h1]
  rw[h3] at hd
  rw[hd]
  repeat' first
  | exact finB rfl
  | exact finI rfl
  | exact finP rfl
  | exact absurd rfl (by assumption)
  | simp only[go_sem]
  | (intro _)
  | refine brK_dec (fun _=>?_) (fun _=>?_)
  | refine brK_any ?_ ?_
  | refine gK_dec (fun _=>?_) (fun _=>?_)
  | refine gK_any ?_ ?_
  | refine gqK_dec (fun _=>?_) (fun _=>?_)
  | refine⟨by omega,?_⟩
  | refine elemHave (by omega) (by assumption) ?_
  | refine elemMap (by omega) (by omega) (fun x hx=>?_)
  | refine drawK mo (by kernel_rfl) ?_
  | exact⟨_,(by first|(simp only[go_sem];done)|(simp only[go_sem];exact rfl)|exact rfl),false,.refl _⟩
  | omega
  | (refine elemHave (by omega) (by rw[Int.toNat_natCast];exact h2) ?_)
theorem all66 (n:DNode) (hl:(allV n).length≤4294967296):PCall Tryz.prog 117 [n.enc] (.lst 6 ((allV n).map DDecl.enc) none):=by
 refine pcall_of_vc tabOK Tryz.func117 (by kernel_rfl) rfl pureL pureI (n:=13) rfl (rs:=[.tmp 2]) rfl ?_
 have hl':n.Ins.length+n.Outs.length+n.Vars.length≤4294967296:=by simpa[allV,Nat.add_assoc] using hl
 have e:(allV n).map DDecl.enc=n.Ins.map DDecl.enc++(n.Outs.map DDecl.enc++n.Vars.map DDecl.enc):=by simp[allV]
 repeat' first
  | exact finB rfl
  | exact finI rfl
  | exact finP rfl
  | exact absurd rfl (by assumption)
  | simp only[go_sem]
  | (intro _)
  | refine brK_dec (fun _=>?_) (fun _=>?_)
  | refine brK_any ?_ ?_
  | refine gK_dec (fun _=>?_) (fun _=>?_)
  | refine gK_any ?_ ?_
  | refine gqK_dec (fun _=>?_) (fun _=>?_)
  | refine⟨by omega,?_⟩
  | refine elemHave (by omega) (by assumption) ?_
  | refine elemMap (by omega) (by omega) (fun x hx=>?_)
  | refine drawK mo (by kernel_rfl) ?_
  | (refine⟨⟨by simp,by simp;omega⟩,?_⟩)
  | (rw[e];exact⟨_,rfl,false,.tok _ _ _⟩)
theorem decl26 (n:DNode) (name:ByteArray) (hl:(allV n).length≤4294967296):PCall Tryz.prog 101 [n.enc,.s name] (declA (decl n name)):=by
 refine pcall_of_vc tabOK Tryz.func101 (by kernel_rfl) rfl pureL pureI (n:=28) rfl (rs:=[.cell 4 77,.tmp 5]) rfl ?_
 unfold decl
 repeat' first
  | exact finB rfl
  | exact finI rfl
  | exact finP rfl
  | exact absurd rfl (by assumption)
  | simp only[go_sem]
  | (intro _)
  | refine brK_dec (fun _=>?_) (fun _=>?_)
  | refine brK_any ?_ ?_
  | refine gK_dec (fun _=>?_) (fun _=>?_)
  | refine gK_any ?_ ?_
  | refine gqK_dec (fun _=>?_) (fun _=>?_)
  | refine⟨by omega,?_⟩
  | refine elemHave (by omega) (by assumption) ?_
  | refine elemMap (by omega) (by omega) (fun x hx=>?_)
  | refine drawK mo (by kernel_rfl) ?_
  | (refine PCall.call (all66 n hl) ?_)
  | (rw[← hpi,List.drop_of_length_le (by omega)];simp only[declF];rw[show declA (zeroD,false)=.tup [zeroD.enc,.b false] from rfl,DDecl.enc_eq];exact⟨_,(by first|(simp only[go_sem];done)|(simp only[go_sem];exact rfl)|exact rfl),false,.refl _⟩)
  | (rw[declF_found (by assumption) (by assumption) hpi];exact⟨_,(by first|(simp only[go_sem];done)|(simp only[go_sem];exact rfl)|exact rfl),false,.refl _⟩)
  | exact loopFrH _ (by omega) ⟨i+1,by omega,rfl,declF_next (by assumption) (by assumption) hpi,rfl⟩ (.next rfl (by omega) .nil) rfl
  | (refine loop_frH [5,7,10,11,12,13,14,15,16,17,18,19,20,21,22,23,24,25,26] (fun mm_ CC_=>∃(i:Nat),i≤(allV n).length∧mm_=(allV n).length-i∧(declF name ((allV n).drop i)=declF name (allV n))∧CC_=[(7,.raw (.int .i64 ((i:Nat):Int)))]) ((allV n).length) _ ⟨0,by omega,by omega,rfl,rfl⟩ (.cons rfl .nil) ?_;rintro mm_ CC_ ji ⟨i,hi,rfl,hpi,rfl⟩)
def findF (p:DProg) (name:ByteArray):Int:=idxOf (fun n=>decide (n.Name=name)) p.Nodes
theorem find23 (p:DProg) (name:ByteArray):PCall Tryz.prog 140 [p.enc,.s name] (.i (findF p name)):=by
 refine pcall_of_vc tabOK Tryz.func140 (by kernel_rfl) rfl pureL pureI (n:=9) rfl (rs:=[.tmp 4]) rfl ?_
 simp only[go_sem]
 refine indexNode (p:=fun n=>decide (n.Name=name)) (fun x hx K hK=>?_) ?_
 ·
  refine acall_of_vc tabOK Tryz.func176 (by kernel_rfl) rfl (n:=8) rfl (rs:=[.tmp 3]) rfl ?_
  simp only[go_sem]
  exact finH0 _ rfl (.raw _) hK
 repeat' first
  | exact finB rfl
  | exact finI rfl
  | exact finP rfl
  | exact absurd rfl (by assumption)
  | simp only[go_sem]
  | (intro _)
  | refine brK_dec (fun _=>?_) (fun _=>?_)
  | refine brK_any ?_ ?_
  | refine gK_dec (fun _=>?_) (fun _=>?_)
  | refine gK_any ?_ ?_
  | refine gqK_dec (fun _=>?_) (fun _=>?_)
  | refine⟨by omega,?_⟩
  | refine elemHave (by omega) (by assumption) ?_
  | refine elemMap (by omega) (by omega) (fun x hx=>?_)
  | refine drawK mo (by kernel_rfl) ?_
theorem find24 (p:DProg) (name:ByteArray):PCall Tryz.prog 141 [p.enc,.s name] (.i (findF p name)):=by
 refine pcall_of_vc tabOK Tryz.func141 (by kernel_rfl) rfl pureL pureI (n:=22) rfl (rs:=[.tmp 4]) rfl ?_
 unfold findF
 repeat' first
  | exact finB rfl
  | exact finI rfl
  | exact finP rfl
  | exact absurd rfl (by assumption)
  | simp only[go_sem]
  | (intro _)
  | refine brK_dec (fun _=>?_) (fun _=>?_)
  | refine brK_any ?_ ?_
  | refine gK_dec (fun _=>?_) (fun _=>?_)
  | refine gK_any ?_ ?_
  | refine gqK_dec (fun _=>?_) (fun _=>?_)
  | refine⟨by omega,?_⟩
  | refine elemHave (by omega) (by assumption) ?_
  | refine elemMap (by omega) (by omega) (fun x hx=>?_)
  | refine drawK mo (by kernel_rfl) ?_
  | (rw[idxOf_none (take_full hpi (by omega))];exact⟨_,(by first|(simp only[go_sem];done)|(simp only[go_sem];exact rfl)|exact rfl),false,.refl _⟩)
  | (rw[idxOf_at hpi (by assumption) (by simpa using (by assumption))];exact⟨_,(by first|(simp only[go_sem];done)|(simp only[go_sem];exact rfl)|exact rfl),false,.refl _⟩)
  | exact loopFrH _ (by omega) ⟨i+1,by omega,rfl,take_all hpi (by assumption) (by simpa using (by assumption)),rfl⟩ (.next rfl (by omega) .nil) rfl
  | (refine loop_frH [4,5,6,7,8,9,10,11,12,13,14,15,16,17,18,19,20,21] (fun mm_ CC_=>∃(i:Nat),i≤p.Nodes.length∧mm_=p.Nodes.length-i∧(∀ n∈p.Nodes.take i,decide (n.Name=name)=false)∧CC_=[(5,.raw (.int .i64 ((i:Nat):Int)))]) (p.Nodes.length) _ ⟨0,by omega,by omega,by simp,rfl⟩ (.cons rfl .nil) ?_;rintro mm_ CC_ ji ⟨i,hi,rfl,hpi,rfl⟩)
end Go.Proofs.YtpamokpmlplopaaGreatDoor
namespace Go.Abs
open Go
theorem blk_app {h r:List Blk} {k:Nat} {cs:List AV} (hb:blkCells h k=some cs):blkCells (h++r) k=some cs:=by
 obtain⟨t,ht⟩:=blk_at hb
 unfold blkCells
 rw[at_old ht]
abbrev AV.n (n:Nat):AV:=.raw (.int .i64 (n:Int))
def okAt (N H:List (List ByteArray)) (pl:List Bool) (i:Nat) (a:Int):Prop :=
 (a = -1∧∀ j,j<i→readyF N H pl j=false)∨∃ k:Nat,k<i∧a=k∧readyF N H pl k=true∧∀ j,j<k→readyF N H pl j=false
section
variable {N H:List (List ByteArray)} {pl:List Bool} {i:Nat} {a:Int}
theorem okAt.zero:okAt N H pl 0 (-1):=.inl ⟨rfl,fun j h=>by omega⟩
theorem okAt.hit (h:okAt N H pl i a) (ha:a<0) (hr:readyF N H pl i=true):okAt N H pl (i+1) (i:Int):=by
 rcases h with ⟨_,h⟩|⟨k,_,h,_⟩
 ·
  exact .inr ⟨i,by omega,rfl,hr,h⟩
 ·
  omega
theorem okAt.miss (h:okAt N H pl i a) (ha:a<0) (hr:readyF N H pl i=false):okAt N H pl (i+1) a:=by
 rcases h with ⟨h0,h⟩|⟨k,_,h,_⟩
 ·
  refine .inl ⟨h0,fun j hj=>?_⟩
  by_cases e:j=i
  ·
   subst e;exact hr
  ·
   exact h j (by omega)
 ·
  omega
theorem okAt.none_ (h:okAt N H pl i a) (ha:a<0) (hi:N.length≤i):pickF N H pl 0 N.length=none:=by
 rcases h with ⟨_,h⟩|⟨k,_,h,_⟩
 ·
  exact pick_none fun j _ hj=>h j (by omega)
 ·
  omega
theorem okAt.got (h:okAt N H pl i a) (ha:¬ a<0) (hi:i≤N.length):∃ k:Nat,a=k∧k<N.length∧pickF N H pl 0 N.length=some k∧pl[k]?=some false:=by
 rcases h with ⟨h,_⟩|⟨k,h1,h2,h3,h4⟩
 ·
  omega
 ·
  exact⟨k,h2,by omega,pick_some (by omega) (by omega) (fun j _ hj=>h4 j hj) h3,ready_pl h3⟩
theorem order_none {k:Nat} {out:List Nat} (h:pickF N H pl 0 N.length=none) (hk:0<k):orderG N H k pl out=(out,false):=by
 obtain⟨m,rfl⟩:∃ m,k=m+1:=⟨k-1,by omega⟩
 rw[orderG,h]
theorem order_some {k j:Nat} {out:List Nat} (h:pickF N H pl 0 N.length=some j) (hk:0<k):orderG N H k pl out=orderG N H (k-1) (pl.set j true) (out++[j]):=by
 obtain⟨m,rfl⟩:∃ m,k=m+1:=⟨k-1,by omega⟩
 rw[orderG,h]
 rfl
theorem not_next {p:Nat→Prop} (h:∀ j,j<i→p j) (hi:p i):∀ j,j<i+1→p j:=fun j hj=>by
 by_cases e:j=i
 ·
  subst e;exact hi
 ·
  exact h j (by omega)
theorem dropB' {pl:List Bool} {i:Nat} {b:Bool} (h:pl[i]?=some b):pl.drop i=b::pl.drop (i+1):=by
 obtain⟨hi,rfl⟩:=List.getElem?_eq_some_iff.1 h
 exact List.drop_eq_getElem_cons hi
theorem set_b' (pl:List Bool) (k:Nat) (b:Bool):(pl.map AV.b).set k (.raw (.bool b))=(pl.set k b).map AV.b:=List.map_set.symm
theorem any_waits (N:List (List ByteArray)) (pl:List Bool) (l:List ByteArray):(l.any fun s=>decide (((opn s N pl:Nat):Int)>0))=l.any fun s=>waitsF N pl s:=by
 have:(fun s=>decide (((opn s N pl:Nat):Int)>0))=fun s=>waitsF N pl s:=by
  funext s
  simp only[waitsF,decide_eq_decide]
  omega
 rw[this]
theorem ready_any {hs:List ByteArray} (hp:pl[i]?=some false) (h:H[i]?=some hs) {b:Bool} (hb:(hs.any fun s=>waitsF N pl s)=b):readyF N H pl i=!b:=by
 cases b with
 | true =>
  obtain⟨s,hs,hw⟩:=List.any_eq_true.1 hb
  exact ready_wait h hs hw
 | false =>
  refine ready_yes hp h fun s hs=>?_
  have:=List.any_eq_false.1 hb s hs
  simpa using this
end
theorem order_lens {N H:List (List ByteArray)}:∀(k:Nat) (pl:List Bool) (out:List Nat),(∀ j∈out,j<N.length)→∀ j∈(orderG N H k pl out).1,j<N.length
 | 0,_,_,h=>h
 | k+1,pl,out,h=>by
  rw[orderG]
  cases hp:pickF N H pl 0 N.length with
  | none=>exact h
  | some i =>
   refine order_lens k _ _ fun j hj=>?_
   rcases List.mem_append.1 hj with q|q
   ·
    exact h j q
   ·
    simp at q;subst q;have:=(pick_lt hp).1;omega
theorem order_len {N H:List (List ByteArray)}:∀(k:Nat) (pl:List Bool) (out:List Nat),(orderG N H k pl out).1.length≤out.length+k
 | 0,_,_=>by simp[orderG]
 | k+1,pl,out=>by
  rw[orderG]
  cases pickF N H pl 0 N.length with
  | none=>dsimp only;omega
  | some i=>have:=order_len (N:=N) (H:=H) k (pl.set i true) (out++[i]);dsimp only;simp at this;omega
end Go.Abs
namespace Go.Proofs.YtpamokpmlplopaaGreatDoor
open Go.Abs
set_option maxRecDepth 20000
set_option linter.unusedSimpArgs false
set_option linter.unusedVariables false
set_option maxHeartbeats 1000000
attribute [local irreducible] vc vcOps vcStep vcGuard prK hrK gK gsK brK callK ElemK SeqK BlockK ScopeK OpsK CallK LoopK LoopGo finPost ACall PCall PCallE BCall vqOps vqStep vqGuard qrK heK pcK gqK gqsK QOpsK qcallK DrawK
theorem ctors154 (L:List DEnum) {h:List Blk} {K:AV→List Blk→Prop} (hK:K (.fn (.func 297) [] [.ptr h.length 0]) (h++[.cells 22 [.lst 2 (L.map DEnum.enc) none]])) :
  ACall Tryz.prog 261 [.lst 2 (L.map DEnum.enc) none] h K:=by
 refine acallK_of_vc tabOK Tryz.func261 (by kernel_rfl) rfl (n:=4) rfl (rs:=[.tmp 2]) rfl ?_
 simp only[go_sem]
 exact finK rfl hK
theorem ctors155 (L:List DEnum) (yl k0:Nat) (I:Nat→Nat→List Blk→Prop) (St:List Blk→Prop) {h:List Blk} {K:AV→List Blk→Prop}
  (hk:∀ i k h,I i k h→h[k0]?=some (.cells 22 [.lst 2 (L.map DEnum.enc) none]))
  (hg:∀ i k h r,I i k h→I i k (h++r)) (hr:∀ i e h,L[i]?=some e→I i e.Ctors.length h→I (i+1) 0 h)
  (hy:∀ i k e c h,L[i]?=some e→e.Ctors[k]?=some c→I i k h→∀ K:AV→List Blk→Prop,(∀ h',I i (k+1) h'→K (.b true) h')→(∀ h',St h'→K (.b false) h')→YCall Tryz.prog yl [.agg [.i (i:Int),.i (k:Int)],.s c] h K)
  (h0:I 0 0 h) (hK:∀ h',I L.length 0 h'→K (.tup []) h') (hS:∀ h',St h'→K (.tup []) h'):ACall Tryz.prog 297 [.fn (.yield yl) [] [],.ptr k0 0] h K:=by
 refine acallK_of_vc tabOK Tryz.func297 (by kernel_rfl) rfl (n:=31) rfl (rs:=[]) rfl ?_
 simp only[go_sem,hk 0 0 h h0]
 intro hlen
 refine loop_fr [3,4,5,6,9,10,11,12,13,14,15,16,17,18,19,20,21,22,23,24,25,26,27,28,29,30] (fun m C hh=>∃ i:Nat,i≤L.length∧m=L.length-i∧I i 0 hh∧C=[(9,.raw (.int .i64 (i:Nat)))]) L.length _ ⟨0,by omega,by omega,h0,rfl⟩ (.cons rfl .nil) ?_
 rintro m C jo hh ⟨i,hi,rfl,hI,rfl⟩
 simp only[go_sem]
 refine brK_dec (fun hlt=>?_) (fun hge=>?_)
 ·
  simp only[go_sem]
  refine elemMap (by omega) (by omega) (fun e he=>?_)
  have he':L[i]?=some e:=by simpa using he
  simp only[go_sem,at_app0,set_app0]
  intro hlen2
  refine loop_fr [5,6,17,18,19,20,21,22,23,24,25,26,27,28,29] (fun m C hh=>∃ k:Nat,k≤e.Ctors.length∧m=e.Ctors.length-k∧I i k hh∧C=[(17,.raw (.int .i64 (k:Nat)))]) e.Ctors.length _ ⟨0,by omega,by omega,hg _ _ _ _ hI,rfl⟩ (.cons rfl .nil) ?_
  rintro m C ji hh2 ⟨k,hk2,rfl,hI2,rfl⟩
  simp only[go_sem]
  refine brK_dec (fun hlt2=>?_) (fun hge2=>?_)
  ·
   simp only[go_sem]
   refine elemMap (by omega) (by omega) (fun c hc=>?_)
   simp only[go_sem]
   refine hy i k e c hh2 he' (by simpa using hc) hI2 _ (fun h' hI'=>?_) (fun h' hS'=>?_)
   ·
    simp only[go_sem]
    exact loopFr _ (by omega) ⟨k+1,by omega,rfl,hI',rfl⟩ (.next rfl (by omega) .nil) rfl
   ·
    simp only[go_sem]
    exact⟨[],rfl,.tup [],.refl _,hS _ hS'⟩
  ·
   simp only[go_sem]
   have:k=e.Ctors.length:=by omega
   subst this
   exact loopFr _ (by omega) ⟨i+1,by omega,rfl,hr i e _ he' hI2,rfl⟩ (.next rfl (by omega) .nil) rfl
 ·
  simp only[go_sem]
  have:i=L.length:=by omega
  subst this
  exact⟨[],rfl,.tup [],.refl _,hK _ hI⟩
def NoC (L:List DEnum) (nm:ByteArray) (i k:Nat):Prop:=(∀(i':Nat) e,i'<i→L[i']?=some e→nm ∉ e.Ctors)∧∀ e,L[i]?=some e→nm ∉ e.Ctors.take k
def CtorIs (L:List DEnum) (nm:ByteArray) (a b:Int) (ok:Bool):Prop:=(ok=true∧∃(i k:Nat) (e:DEnum),a=i∧b=k∧L[i]?=some e∧e.Ctors[k]?=some nm∧NoC L nm i k)∨(ok=false∧a=0∧b=0∧∀ e∈L,nm ∉ e.Ctors)
theorem NoC.zero {L:List DEnum} {nm:ByteArray}:NoC L nm 0 0:=⟨fun i' e h=>by omega,fun e _=>by simp⟩
theorem NoC.next {L:List DEnum} {nm c:ByteArray} {i k:Nat} {e:DEnum} (h:NoC L nm i k) (he:L[i]?=some e) (hc:e.Ctors[k]?=some c) (hne:¬ c=nm):NoC L nm i (k+1):=by
 refine⟨h.1,fun e' he'=>?_⟩
 rw[he] at he'
 cases he'
 obtain⟨hk,rfl⟩:=List.getElem?_eq_some_iff.1 hc
 rw[List.take_succ_eq_append_getElem hk]
 intro hm
 rcases List.mem_append.1 hm with q|q
 ·
  exact h.2 e he q
 ·
  simp at q;exact hne q.symm
theorem NoC.row {L:List DEnum} {nm:ByteArray} {i:Nat} {e:DEnum} (he:L[i]?=some e) (h:NoC L nm i e.Ctors.length):NoC L nm (i+1) 0:=by
 refine⟨fun i' e' hi he'=>?_,fun e' _=>by simp⟩
 by_cases q:i'=i
 ·
  subst q
  rw[he] at he'
  cases he'
  have:=h.2 e he
  rwa[List.take_length] at this
 ·
  exact h.1 i' e' (by omega) he'
theorem NoC.none_ {L:List DEnum} {nm:ByteArray} (h:NoC L nm L.length 0):∀ e∈L,nm ∉ e.Ctors:=fun e he=>by
 obtain⟨i,hi,rfl⟩:=List.getElem_of_mem he
 exact h.1 i _ hi (List.getElem?_eq_getElem hi)
abbrev HC (L:List DEnum) (nm:ByteArray) (a b:Int) (ok:Bool) (B:Blk) (r:List Blk):List Blk :=
 .cells 9 [.s nm]::.cells 3 [.i a]::.cells 3 [.i b]::.cells 4 [.b ok]::.cells 22 [.lst 2 (L.map DEnum.enc) none]::B::r
theorem ctor_range {L:List DEnum} {nm:ByteArray} {ps:Array Tmp} {x y:Code} {s:List AV} {l:Nat} {Q:Post} (hps:ps.size=2) (hx:noR x=true) (hy:noR y=true)
  (hbody:∀(i k:Nat) (e:DEnum) (c:ByteArray) (r:List Blk) (K:AV→List Blk→Prop),L[i]?=some e→e.Ctors[k]?=some c→(¬ c=nm→∀ r',K (.b true) (HC L nm 0 0 false (.lp l .ready none ps x y s) r')) →
   (c=nm→∀ r',K (.b false) (HC L nm i k true (.lp l .done (some .ret) ps x y s) r'))→vc Tryz.prog ti x (roundA Tryz.prog ti l 5 ps x y s K) (setPs s ps.toList [.agg [.i (i:Int),.i (k:Int)],.s c]) (HC L nm 0 0 false (.lp l .ready none ps x y s) r))
  (hn:∀ r,(∀ e∈L,nm ∉ e.Ctors)→Q .normal s (HC L nm 0 0 false .dead r))
  (hr:∀(i k:Nat) (e:DEnum) r,L[i]?=some e→e.Ctors[k]?=some nm→NoC L nm i k→Q .ret s (HC L nm i k true .dead r)) :
  ACall Tryz.prog 297 [.fn (.yield l) [] [],.ptr 4 0] (HC L nm 0 0 false (.lp l .ready none ps x y s) []) (fun _ h'=>loopEnd Q s 5 h'):=by
 refine ctors155 L l 4 (fun i k h=>∃ r,NoC L nm i k∧h=HC L nm 0 0 false (.lp l .ready none ps x y s) r) (fun h=>∃(i k:Nat) (e:DEnum) (r:List Blk),L[i]?=some e∧e.Ctors[k]?=some nm∧NoC L nm i k∧h=HC L nm i k true (.lp l .done (some .ret) ps x y s) r) ?_ ?_ ?_ ?_ ⟨[],NoC.zero,rfl⟩ ?_ ?_
 ·
  rintro i k h ⟨r,_,rfl⟩;rfl
 ·
  rintro i k h r' ⟨r,hN,rfl⟩;exact⟨r++r',hN,rfl⟩
 ·
  rintro i e h he ⟨r,hN,rfl⟩;exact⟨r,hN.row he,rfl⟩
 ·
  rintro i k e c h he hc ⟨r,hN,rfl⟩ K hK1 hK2
  exact ycall_of_vc tabOK rfl (by simp[hps]) hx hy (hbody i k e c r K he hc (fun hne r'=>hK1 _ ⟨r',hN.next he hc hne,rfl⟩) (fun heq r'=>hK2 _ ⟨i,k,e,r',he,heq▸hc,hN,rfl⟩))
 ·
  rintro h' ⟨r,hN,rfl⟩;exact hn r hN.none_
 ·
  rintro h' ⟨i,k,e,r,he,hc,hN,rfl⟩;exact hr i k e r he hc hN
abbrev trC:Tr:=(.two 0 (.two 1 (.two 2 (.two 3 (.one 4 (.one 5 (.one 6 .nil))) 4 (.one 3 (.one 5 (.one 6 .nil)))) 4 (.one 2 (.one 3 (.one 5 (.one 6 .nil))))) 2 (.two 1 (.two 3 (.one 4 (.one 5 (.one 6 .nil))) 4 (.one 3 (.one 5 (.one 6 .nil)))) 3 (.one 1 (.one 4 (.one 5 (.one 6 .nil)))))) 2 (.two 0 (.two 1 (.two 3 (.one 4 (.one 5 (.one 6 .nil))) 4 (.one 3 (.one 5 (.one 6 .nil)))) 3 (.one 1 (.one 4 (.one 5 (.one 6 .nil))))) 3 (.one 0 (.one 1 (.one 4 (.one 5 (.one 6 .nil)))))))
theorem ctor153 (L:List DEnum) (nm:ByteArray):PCallE Tryz.prog 210 [.lst 2 (L.map DEnum.enc) none,.s nm] (fun r=>∃(a b:Int) (ok:Bool),r=.tup [.i a,.i b,.b ok]∧CtorIs L nm a b ok):=by
 refine pcallE_of_vc tabOK Tryz.func210 (by kernel_rfl) rfl pureL (n:=20) rfl (rs:=[.cell 4 3,.cell 5 3,.cell 6 4]) rfl ?_
 simp only[go_sem]
 refine ctors154 L ?_
 simp only[go_sem]
 intro l
 refine ctor_range rfl rfl rfl (fun i k e c r K he hc hK1 hK2=>?_) (fun r hno=>?_) (fun i k e r he hc hN=>?_)
 ·
  simp only[go_sem,setPs,roundA]
  refine brK_dec (fun hq=>?_) (fun hq=>?_)
  ·
   simp only[go_sem]
   refine drawV trC mo (by kernel_rfl) ?_
   repeat' first
    | exact hK2 hq _
    | exact⟨rfl,hK2 hq _⟩
    | simp only[go_sem,roundB]
    | refine⟨by omega,?_⟩
    | refine⟨?_,?_⟩
  ·
   simp only[go_sem,roundB]
   first|exact hK1 hq _|exact⟨rfl,hK1 hq _⟩
 ·
  simp only[go_sem]
  exact⟨_,rfl,false,_,.refl _,.tup _ (pure_cons (.raw _) (pure_cons (.raw _) (pure_cons (.raw _) pure_nil))),0,0,false,rfl,.inr ⟨rfl,rfl,rfl,hno⟩⟩
 ·
  simp only[go_sem]
  exact⟨_,rfl,false,_,.refl _,.tup _ (pure_cons (.raw _) (pure_cons (.raw _) (pure_cons (.raw _) pure_nil))),_,_,true,rfl,.inl ⟨rfl,i,k,e,rfl,rfl,he,hc,hN⟩⟩
theorem PCallE.one {P:Program} {f:FuncId} {args:List AV} {v:AV} {Kr:AV→Prop} (hp:PCallE P f args Kr) (hk:∀ r,Kr r→r=v) (hv:Go.Abs.Pure v):PCall P f args v:=by
 unfold PCallE at hp
 unfold PCall
 refine⟨hp.1,hv,fun S w vs hb ht hc=>?_⟩
 obtain⟨h1,h2⟩:=hp.2 S w vs hb ht hc
 refine⟨h1,Calls.mono h2 ?_⟩
 rintro e w' ⟨u,r,S',e1,hr,_,e3⟩
 rw[hk r hr] at e3
 exact⟨u,S',e1,e3⟩
def ctorG (nm:ByteArray):List DEnum→Nat→Int × Int × Bool
 | [],_=>(0,0,false)
 | e::l,i=>match e.Ctors.findIdx? (fun c=>decide (c=nm)) with
  | some k=>((i:Int),(k:Int),true)
  | none=>ctorG nm l (i+1)
theorem find_no {nm:ByteArray} {l:List ByteArray} (h:nm ∉ l):l.findIdx? (fun c=>decide (c=nm))=none:=by
 rw[List.findIdx?_eq_none_iff]
 intro x hx
 have:¬ x=nm:=fun e=>h (e▸hx)
 simp[this]
theorem ctorG_no {nm:ByteArray}:∀ {L:List DEnum} (n:Nat),(∀ e∈L,nm ∉ e.Ctors)→ctorG nm L n=(0,0,false)
 | [],_,_=>rfl
 | e::L,n,h=>by
  rw[ctorG,find_no (h e List.mem_cons_self)]
  exact ctorG_no (n+1) fun e' he=>h e' (List.mem_cons_of_mem _ he)
theorem ctorG_at {nm:ByteArray}:∀ {L:List DEnum} {i k:Nat} {e:DEnum} (n:Nat),L[i]?=some e→e.Ctors[k]?=some nm→NoC L nm i k→ctorG nm L n=(((n+i:Nat):Int),(k:Int),true)
 | [],_,_,_,_,h,_,_=>by simp at h
 | e0::L,0,k,e,n,h,hk,hN=>by
  simp at h
  subst h
  have hf:e0.Ctors.findIdx? (fun c=>decide (c=nm))=some k:=by
   rw[List.findIdx?_eq_some_iff_getElem]
   obtain⟨hlt,hv⟩:=List.getElem?_eq_some_iff.1 hk
   refine⟨hlt,by simp[hv],fun j hj=>?_⟩
   have:=hN.2 e0 rfl
   have hne:¬ e0.Ctors[j]=nm:=fun q=>this (List.mem_take_iff_getElem.2 ⟨j,by omega,q⟩)
   simp[hne]
  rw[ctorG,hf]
  rfl
 | e0::L,i+1,k,e,n,h,hk,hN=>by
  rw[ctorG,find_no (hN.1 0 e0 (by omega) rfl)]
  have:=ctorG_at (L:=L) (i:=i) (k:=k) (e:=e) (n+1) (by simpa using h) hk ⟨fun i' e' hi he=>hN.1 (i'+1) e' (by omega) (by simpa using he),fun e' he=>hN.2 e' (by simpa using he)⟩
  dsimp only
  rw[this]
  simp
  omega
theorem ctorG_is {L:List DEnum} {nm:ByteArray} {a b:Int} {ok:Bool} (h:CtorIs L nm a b ok):ctorG nm L 0=(a,b,ok):=by
 rcases h with ⟨rfl,i,k,e,rfl,rfl,he,hc,hN⟩|⟨rfl,rfl,rfl,hno⟩
 ·
  rw[ctorG_at 0 he hc hN];simp
 ·
  exact ctorG_no 0 hno
abbrev ctorA (p:Int × Int × Bool):AV:=.tup [.i p.1,.i p.2.1,.b p.2.2]
theorem pure_ctorA (p:Int × Int × Bool):Go.Abs.Pure (ctorA p):=.tup _ (pure_cons (.raw _) (pure_cons (.raw _) (pure_cons (.raw _) pure_nil)))
theorem ctor153P (L:List DEnum) (nm:ByteArray):PCall Tryz.prog 210 [.lst 2 (L.map DEnum.enc) none,.s nm] (ctorA (ctorG nm L 0)) :=
 PCallE.one (ctor153 L nm) (by rintro r ⟨a,b,ok,rfl,h⟩;rw[ctorG_is h]) (pure_ctorA _)
end Go.Proofs.YtpamokpmlplopaaGreatDoor
