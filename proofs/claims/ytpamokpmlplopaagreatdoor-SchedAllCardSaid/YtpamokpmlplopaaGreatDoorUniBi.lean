/-
  AbsOD, AbsOC, NmPO, Sched6, Sched7, NmSz: put together.
-/
import Derived.Test.YtpamokpmlplopaaGreatDoorUniAh
import Derived.Test.YtpamokpmlplopaaGreatDoorUniAx
import Derived.Test.YtpamokpmlplopaaGreatDoorUniBd
namespace Go.Abs
open Go
inductive Turn (B:AV→AV→Prop):AV→AV→Prop where
 | base (a b:AV) (h:B a b):Turn B a b
 | tup (av bs:List AV) (hl:bs.length=av.length) (h:∀(i:Nat) a b,av[i]?=some a→bs[i]?=some b→Turn B a b):Turn B (.tup av) (.tup bs)
 | agg (av bs:List AV) (hl:bs.length=av.length) (h:∀(i:Nat) a b,av[i]?=some a→bs[i]?=some b→Turn B a b):Turn B (.agg av) (.agg bs)
theorem Turn.C {B:AV→AV→Prop} {S S':Addr→Prop} {φ φ':Nat→Loc} {w:World} (hB:∀ a b v,B a b→Go.Abs.C S w φ a v→Go.Abs.C S' w φ' b v) {a a':AV} (ht:Turn B a a'):∀ {v:Value},Go.Abs.C S w φ a v→Go.Abs.C S' w φ' a' v:=by
 induction ht with
 | base a b h=>intro v hc;exact hB a b v h hc
 | tup av bs hl h ih =>
  intro v hc
  cases hc with
  | tup _ vs hl' h' =>
   refine .tup _ _ (hl'.trans hl.symm) fun i b v hb hv=>?_
   have hi:i<av.length:=by rw[← hl];exact(List.getElem?_eq_some_iff.1 hb).1
   exact ih i _ b (List.getElem?_eq_getElem hi) hb (h' i _ v (List.getElem?_eq_getElem hi) hv)
 | agg av bs hl h ih =>
  intro v hc
  cases hc with
  | agg _ vs hl' h' h1 =>
   refine .agg _ _ (hl'.trans hl.symm) (fun i b v hb hv=>?_) h1
   have hi:i<av.length:=by rw[← hl];exact(List.getElem?_eq_some_iff.1 hb).1
   exact ih i _ b (List.getElem?_eq_getElem hi) hb (h' i _ v (List.getElem?_eq_getElem hi) hv)
def TurnAll (B:AV→AV→Prop):List AV→List AV→Prop
 | [],[]=>True
 | a::av,b::bs=>Turn B a b∧TurnAll B av bs
 | _,_=>False
theorem TurnAll.get {B:AV→AV→Prop}:∀ {av bs:List AV},TurnAll B av bs→bs.length=av.length∧∀(i:Nat) a b,av[i]?=some a→bs[i]?=some b→Turn B a b
 | [],[],_=>⟨rfl,fun i a b h=>by simp at h⟩
 | a::av,b::bs,h=>by
  obtain⟨h1,h2⟩:=h
  obtain⟨k1,k2⟩:=TurnAll.get h2
  refine⟨by simp[k1],fun i x y hx hy=>?_⟩
  cases i with
  | zero=>simp at hx hy;subst hx hy;exact h1
  | succ i=>exact k2 i x y (by simpa using hx) (by simpa using hy)
theorem Turn.tups {B:AV→AV→Prop} {av bs:List AV} (h:TurnAll B av bs):Turn B (.tup av) (.tup bs):=.tup _ _ h.get.1 h.get.2
theorem Turn.aggs {B:AV→AV→Prop} {av bs:List AV} (h:TurnAll B av bs):Turn B (.agg av) (.agg bs):=.agg _ _ h.get.1 h.get.2
section
variable {P:Program} {T:TypeId→TI} {s:List AV} {h:List Blk} {c:Code}
def FrzB (h:List Blk) (a b:AV):Prop:=a=b∨∃ sz k e es rest,a=.sl sz k 0 es.length∧b=.lst sz es none∧h[k]?=some (.cells e (flat es++rest))∧∀ x∈es,x.cells.length=sz
theorem frzB_sound {S:Addr→Prop} {φ:Nat→Loc} {w:World} (hr:R S φ h w) {a b:AV} {v:Value} (hB:FrzB h a b) (hc:C S w φ a v):C (ownS S φ h) w φ b v:=by
 have up:∀ {a:AV} {v:Value},C S w φ a v→C (ownS S φ h) w φ a v:=fun hc=>hc.mono (fun _ h=>.inl h) (fun _ _=>rfl) (fun _=>Loc.le_refl _)
 rcases hB with rfl|⟨sz,k,e,es,rest,rfl,rfl,hk,hes⟩
 ·
  exact up hc
 ·
  cases hc with
  | sl _ _ _ _ b cap hφ hcap hmax =>
   obtain⟨b',vs,g1,g2,g3,g4,g5⟩:=hr.blk k _ hk
   rw[hφ] at g1
   cases g1
   have hadd:∀ j,(⟨b,0,none⟩:Addr).add j=⟨b,j,none⟩:=fun j=>by unfold Addr.add;split<;>simp_all
   have key:∀(j:Nat) c,(flat es)[j]?=some c→vs[j]?=some (vs.getD j undef)∧C S w φ c (vs.getD j undef)∧(vs.getD j undef).oneCell'=true:=by
    intro j c hj
    have hjl:=lookupD hj
    have hj':(flat es++rest)[j]?=some c:=by rw[List.getElem?_append_left hjl];exact hj
    have hjv:j<vs.size:=by rw[g3.1];exact lookupD hj'
    have e0:vs.getD j undef=vs[j]:=by rw[Array.getD_eq_getD_getElem?,Array.getElem?_eq_getElem hjv];rfl
    rw[e0]
    exact⟨Array.getElem?_eq_getElem hjv,g3.2 j c _ hj' (Array.getElem?_eq_getElem hjv),g4 _ (Array.getElem_mem_toList hjv)⟩
   refine .lst _ _ _ _ _ _ (fun j=>vs.getD j undef) rfl hcap hmax hes (fun j c hj=>⟨?_,.inr ⟨k,_,hk,rfl,?_⟩⟩) (fun j c hj=>up (key j c hj).2.1) (fun j c hj=>(key j c hj).2.2) trivial
   ·
    rw[hadd];simp only[World.cell?,g2];simpa using (key j c hj).1
   ·
    rw[hadd,hφ];rfl
def FinF (T:TypeId→TI) (rs:List ResultVar) (r:AV) (s:List AV) (h:List Blk):Prop:=∃ l,resAV T s h rs=some l∧∃ x y,Weak (oneOrTup l) x∧Turn (FrzB h) x y∧Weak y r
theorem pcallF_of_vc (hT : TabOK P T) {f : FuncId} {fn : Func} {c : Code} (hf : P.funcs[f]? = some fn) (hname : (fn.name == "runtime.NumGoroutine") = false) (hb : fn.body = some c) {args : List AV} {r : AV} (hpa : ∀ x ∈ args, Pure x) (hpr : Pure r)
  {n:Nat} (hn:fn.ntmps=n) {rs:List ResultVar} (hrs:fn.results.toList=rs)
  (hv:vc P T c (finPost (FinF T rs r)) (args++List.replicate (n-args.length) (.tup [])) []):PCall P f args r:=by
 refine⟨hpa,hpr,fun S w vs hbnd htab hargs=>⟨run_callFunc hf hname (by rw[hb];rfl) vs w,?_⟩⟩
 have htmps:CAll S w (fun _=>.no) (args++List.replicate (n-args.length) (.tup [])) (vs++Array.replicate (fn.ntmps-vs.size) undef):=by
  refine hargs.append ⟨by rw[Array.size_replicate,List.length_replicate,hn,hargs.1],fun i x v hx hv=>?_⟩
  rw[List.getElem?_replicate] at hx
  rw[Array.getElem?_replicate] at hv
  split at hx
  ·
   split at hv
   ·
    cases hx;cases hv;exact C.undef_
   ·
    cases hv
  ·
   cases hx
 refine calls_of_vc hT hf hb hv htmps (R.nil hbnd htab) ?_
 intro tmps s' h' S' φ' w' hG hs' hr' he
 revert hG
 rintro⟨l,hl,x,y,hwk,htn,hwk2⟩
 obtain⟨v,h1,h2⟩:=results_plain hT hs' hr' (fn:=fn) (a:={ tmps:=tmps,defers:=[] }) (by rw[hrs];exact hl)
 obtain⟨k1,k2⟩:=own_frame hr' he
 exact⟨v,h1,v,_,rfl,((htn.C (fun a b v hB hc=>frzB_sound hr' hB hc) (h2.weak hwk)).weak hwk2).pure _ hpr,k1,k2⟩
end
end Go.Abs
namespace Go.Abs
open Go
def OwnSl (n k m:Nat) (a b:AV):Prop:=(a=b∧Blw n a)∨∃ sz,a=.own sz k m∧b=.sl sz n 0 m
abbrev TurnO (n k m:Nat):=Turn (OwnSl n k m)
theorem TurnO.C {n k m:Nat} {S:Addr→Prop} {φ φ':Nat→Loc} {w:World} {b cap:Nat} (hf:∀ j,j<n→φ' j=φ j) (hn:φ' n=.obj b) (hk:φ k=.tok m (.slice (some ⟨b,0,none⟩) m cap)) {a a':AV} (ht:TurnO n k m a a') :
  ∀ {v:Value},Go.Abs.C S w φ a v→Go.Abs.C S w φ' a' v:=by
 refine Turn.C (fun a b v hB hc=>?_) ht
 rcases hB with ⟨rfl,hl⟩|⟨sz,rfl,rfl⟩
 ·
  exact Blw.C hf hc hl
 ·
  cases hc with
  | own _ _ _ a cap' hcap hmax ht =>
   obtain⟨n',u,e1,_,e3⟩:=ht
   rw[hk] at e1
   cases e1
   have e4:=e3 rfl
   cases e4
   exact .sl _ _ _ _ _ _ hn hcap hmax
def MovSl (n:Nat) (a b:AV):Prop:=(a=b∧Pure a)∨∃ sz m,a=.sl sz 0 0 m∧b=.sl sz n 0 m
theorem swapO_sound {S S':Addr→Prop} {φ φ':Nat→Loc} {w w':World} {h h1 junk:List Blk} {e:TypeId} {sz k:Nat} {es:List AV} (hr:R S φ h w) (hr':R S' φ' (h1++junk) w') (he:Ext S φ h w S' φ' (h1++junk) w') (hc:Chg h.length h h1)
  (hk:(h1++junk)[k]?=some (.own e sz es)) (hkl:h.length≤k) (hs1:sz≠1) (hne:es≠[]) (hbl:∀ c∈flat es,Blw h.length c) :
  ∃(b cap:Nat) (rest:List AV) (φ'':Nat→Loc),(∀ c∈rest,Pure c)∧(∀ j,j<h.length→φ'' j=φ' j)∧φ'' h.length=.obj b∧φ' k=.tok es.length (.slice (some ⟨b,0,none⟩) es.length cap) ∧
   R S' φ'' (h1++[.cells e (flat es++rest)]) w'∧Ext S φ h w S' φ'' (h1++[.cells e (flat es++rest)]) w':=by
 obtain⟨u,g1,g2,g3⟩:=hr'.blk k _ hk
 rcases g3 with ⟨_,e0⟩|⟨b,cap,vs,q1,q2,rfl,q4,q5,q6,q7,q8⟩
 ·
  exact absurd e0 hne
 have q8:=q8.resolve_left hs1
 have hfl:(flat es).length=es.length * sz:=flat_length g2
 have hle0:es.length * sz≤vs.size:=by rw[q5];exact Nat.mul_le_mul_right _ q1
 refine⟨b,cap,(vs.toList.drop (es.length * sz)).map AV.raw,fun j=>if j<h.length then φ' j else if j=h.length then .obj b else .no,fun c hc=>by obtain⟨v,_,rfl⟩:=List.mem_map.1 hc;exact .raw v,fun j hj=>by simp[hj],by simp,g1,?_⟩
 generalize hφ'':(fun j=>if j<h.length then φ' j else if j=h.length then Loc.obj b else Loc.no)=φ''
 obtain⟨hl,hat⟩:=hc.at
 have hf:∀ j,j<h.length→φ'' j=φ' j:=fun j hj=>by rw[← hφ''];simp[hj]
 have hmid:φ'' h.length=.obj b:=by rw[← hφ''];simp
 have hno:∀ j,h.length<j→φ'' j=.no:=fun j hj=>by rw[← hφ''];dsimp only;rw[if_neg (by omega),if_neg (by omega)]
 generalize hX:Blk.cells e (flat es++(vs.toList.drop (es.length * sz)).map AV.raw)=X
 have hXb:blockOf (φ'' h.length) X=some b:=by rw[hmid,← hX];rfl
 have hkb:blockOf (φ' k) (.own e sz es)=some b:=by rw[g1];rfl
 have hle:∀ j,(φ j).le (φ'' j):=by
  intro j
  rcases Nat.lt_or_ge j h.length with g|g
  ·
   rw[hf j g];exact he.loc j
  ·
   rw[hr.fresh j g];trivial
 have hin:∀(j:Nat) y,(h1++[X])[j]?=some y→(j<h.length∧h1[j]?=some y∧(h1++junk)[j]?=some y)∨(j=h.length∧y=X):=by
  intro j y hj
  rcases Nat.lt_or_ge j h1.length with g|g
  ·
   rw[List.getElem?_append_left g] at hj
   exact .inl ⟨by omega,hj,by rw[List.getElem?_append_left g];exact hj⟩
  ·
   rw[List.getElem?_append_right g] at hj
   have:j-h1.length=0:=by
    rcases Nat.eq_zero_or_pos (j-h1.length) with q|q
    ·
     exact q
    ·
     rw[List.getElem?_eq_none (by simp;omega)] at hj;cases hj
   rw[this] at hj
   simp at hj
   exact .inr ⟨by omega,hj.symm⟩
 have hlow:∀(j:Nat) y,h1[j]?=some y→BlwBlk h.length y:=by
  intro j y hj
  rcases hat j y hj with g|g
  ·
   exact RB.blw (fun i hi=>hr.fresh i hi) (hr.blk j _ g)
  ·
   exact g
 have hown:∀ b',Owns φ'' (h1++[X]) b'→Owns φ' (h1++junk) b':=by
  rintro b' ⟨j,x,hj,hb⟩
  rcases hin j x hj with ⟨p1,_,p2⟩|⟨rfl,rfl⟩
  ·
   exact⟨j,x,p2,by rw[← hf j p1];exact hb⟩
  ·
   exact⟨k,_,hk,by rw[hkb,← hXb];exact hb⟩
 refine⟨⟨fun j x hj=>?_,fun j j' x x' b' hj hj' hb hb'=>?_,hr'.bnd,fun j hj=>hno j (by simp at hj;omega),fun x hx=>⟨(hr'.tab x hx).1,fun o=>(hr'.tab x hx).2 (hown _ o)⟩⟩,⟨he.os,he.tape,he.output,he.size,he.keep,he.sub,he.cell,hle,he.new,fun b hb=>he.own b (hown b hb)⟩⟩
 ·
  rcases hin j x hj with ⟨p1,p3,p2⟩|⟨rfl,rfl⟩
  ·
   exact RB.low hf p1 (hr'.blk j x p2) (hlow j x p3)
  ·
   rw[← hX]
   refine⟨b,vs,hmid,q4,⟨?_,fun i a v ha hv=>?_⟩,fun v hv=>?_,q7⟩
   ·
    rw[List.length_append,hfl,List.length_map,List.length_drop,show vs.toList.length=vs.size from rfl];omega
   ·
    rcases Nat.lt_or_ge i (es.length * sz) with g|g
    ·
     rw[List.getElem?_append_left (by omega)] at ha
     obtain⟨x,x1,x2,x3⟩:=q6 i a ha
     rw[x1] at hv
     cases hv
     exact Blw.C hf x2 (hbl a (List.mem_of_getElem? ha))
    ·
     rw[List.getElem?_append_right (by omega),hfl,List.getElem?_map,List.getElem?_drop] at ha
     rw[show es.length * sz+(i-es.length * sz)=i by omega,Array.getElem?_toList,hv] at ha
     cases ha
     exact .raw v
   ·
    obtain⟨i,hi,rfl⟩:=List.getElem_of_mem hv
    have hi':i<vs.size:=hi
    rw[Array.getElem_toList]
    rcases Nat.lt_or_ge i (es.length * sz) with g|g
    ·
     obtain⟨x,x1,x2,x3⟩:=q6 i _ (List.getElem?_eq_getElem (by rw[hfl];exact g))
     rw[Array.getElem?_eq_getElem hi'] at x1
     cases x1
     exact x3
    ·
     exact q8 i _ g (Array.getElem?_eq_getElem hi')
 ·
  rcases hin j x hj with ⟨p1,_,p2⟩|⟨rfl,rfl⟩
  ·
   rw[hf j p1] at hb
   rcases hin j' x' hj' with ⟨o1,_,o2⟩|⟨rfl,rfl⟩
   ·
    rw[hf j' o1] at hb'
    exact hr'.inj j j' x x' b' p2 o2 hb hb'
   ·
    rw[hXb] at hb'
    cases hb'
    have:=hr'.inj j k x _ b p2 hk hb hkb
    omega
  ·
   rw[hXb] at hb
   cases hb
   rcases hin j' x' hj' with ⟨o1,_,o2⟩|⟨rfl,rfl⟩
   ·
    rw[hf j' o1] at hb'
    have:=hr'.inj k j' _ x' b hk o2 hkb hb'
    omega
   ·
    rfl
section
variable {P:Program} {T:TypeId→TI} {s:List AV} {h:List Blk} {c:Code}
def FinO (T:TypeId→TI) (rs:List ResultVar) (h:List Blk) (e:TypeId) (sz:Nat) (es:List AV) (K:AV→List Blk→Prop) (s:List AV) (h':List Blk):Prop :=
 ∃ l,resAV T s h' rs=some l∧∃ r r' h1 junk k,Weak (oneOrTup l) r∧TurnO h.length k es.length r r'∧h'=h1++junk∧Chg h.length h h1∧h.length≤k∧h'[k]?=some (.own e sz es)∧sz≠1∧es≠[] ∧
  (∀ c∈flat es,Blw h.length c)∧∀ rest,(∀ c∈rest,Pure c)→K r' (h1++[.cells e (flat es++rest)])
theorem acallO_of_vc (hT : TabOK P T) {f : FuncId} {fn : Func} (hf : P.funcs[f]? = some fn) (hname : (fn.name == "runtime.NumGoroutine") = false) (hb : fn.body = some c) {args : List AV} {K : AV → List Blk → Prop}
  {n:Nat} (hn:fn.ntmps=n) {rs:List ResultVar} (hrs:fn.results.toList=rs) {e:TypeId} {sz:Nat} {es:List AV}
  (hv:vc P T c (finPost (FinO T rs h e sz es K)) (args++List.replicate (n-args.length) (.tup [])) h):ACall P f args h K:=by
 intro S φ w vs hr hargs
 refine⟨run_callFunc hf hname (by rw[hb];rfl) vs w,?_⟩
 have htmps:CAll S w φ (args++List.replicate (n-args.length) (.tup [])) (vs++Array.replicate (fn.ntmps-vs.size) undef):=by
  refine hargs.append ⟨by rw[Array.size_replicate,List.length_replicate,hn,hargs.1],fun i x v hx hv=>?_⟩
  rw[List.getElem?_replicate] at hx
  rw[Array.getElem?_replicate] at hv
  split at hx
  ·
   split at hv
   ·
    cases hx;cases hv;exact C.undef_
   ·
    cases hv
  ·
   cases hx
 refine calls_of_vc hT hf hb hv htmps hr ?_
 intro tmps s' h' S' φ' w' hG hs' hr' he
 revert hG
 rintro⟨l,hl,r,r',h1,junk,k,hwk,htn,rfl,hchg,hkl,hk,hs1,hne,hbl,hKr⟩
 obtain⟨b,cap,rest,φ'',k0,k1,k2,k3,k4,k5⟩:=swapO_sound hr hr' he hchg hk hkl hs1 hne hbl
 obtain⟨v',e1,e2⟩:=results_plain hT hs' hr' (fn:=fn) (a:={ tmps:=tmps,defers:=[] }) (by rw[hrs];exact hl)
 exact⟨v',e1,v',r',_,S',φ'',rfl,hKr rest k0,htn.C k1 k2 k3 (e2.weak hwk),k4,k5⟩
theorem ocall {f:FuncId} {args:List AV} {e:TypeId} {cs:List AV} {r r':AV} {K:AV→List Blk→Prop} (hv:∀ KK:AV→List Blk→Prop,(∀ rest,(∀ c∈rest,Pure c)→KK r [.cells e (cs++rest)])→ACall P f args [] KK)
  (pa:∀ x∈args,Pure x) (pl:∀ c∈cs,Pure c) (ht:Turn (MovSl h.length) r r') (hK:∀ rest,(∀ c∈rest,Pure c)→K r' (h++[.cells e (cs++rest)])):ACall P f args h K:=by
 intro S φ w vs hr hargs
 obtain⟨henter,hcalls⟩:=hv (fun r0 h'=>∃ rest,(∀ c∈rest,Pure c)∧r0=r∧h'=[.cells e (cs++rest)]) (fun rest h=>⟨rest,h,rfl,rfl⟩) S (fun _=>.no) w vs (R.nil hr.bnd hr.tab.bare) (hargs.pure _ pa)
 refine⟨henter,Calls.mono hcalls ?_⟩
 rintro e' w' ⟨v,r0,h',S',φ',rfl,⟨rest,hrest,rfl,rfl⟩,hc,hr',he⟩
 have hpc:∀ c∈cs++rest,Pure c:=fun c hc=>(List.mem_append.1 hc).elim (pl c) (hrest c)
 obtain⟨b,us,q1,q2,q3,q4,q5⟩:=hr'.blk 0 _ rfl
 obtain⟨k1,k2⟩:=hr.push (l:=.obj b) (x:=.cells e (cs++rest)) he.os he.tape he.output he.size (fun b hb=>he.keep b hb no_owns) he.sub (fun a ha=>(he.new a ha).imp_right (fun x=>x.resolve_right no_owns)) hr'.bnd
  ⟨b,us,upd_same _ _ _,q2,q3.pure _ hpc,q4,q5⟩ (fun b' hb=>by cases hb;exact(he.own b ⟨0,_,rfl,by rw[q1];rfl⟩).resolve_left no_owns)
 refine⟨v,_,_,S',_,rfl,hK rest hrest,ht.C (fun a a' v hB hc=>?_) hc,k1,k2⟩
 rcases hB with ⟨rfl,hp⟩|⟨sz,m,rfl,rfl⟩
 ·
  exact hc.pure _ hp
 ·
  cases hc with
  | sl _ _ _ _ b' cap hb hcap hmax =>
   rw[q1] at hb
   cases hb
   exact .sl _ _ _ _ _ _ (upd_same _ _ _) hcap hmax
theorem ghost_cello (k i:Nat) (e:TypeId) (sz:Nat) {t:TypeId} {cs:List AV} (hk:h[k]?=some (.cells t cs)) (ht:cs[i]?=some (.raw (.slice none 0 0))) :
  Ghost s h s ((h++[Blk.own e sz []]).set k (Blk.cells t (cs.set i (.own sz h.length 0)))):=by
 intro S φ w vs hs hr
 obtain⟨k1,k2⟩:=hr.push (l:=.tok 0 (.slice none 0 0)) (x:=.own e sz []) (S':=S) (w':=w) rfl rfl rfl (Nat.le_refl _) (fun _ _=>rfl) (fun _ h=>h) (fun _ h=>.inl h) hr.bnd
  ⟨_,upd_same _ _ _,by simp,.inl ⟨rfl,rfl⟩⟩ (fun b hb=>by simp[blockOf] at hb)
 obtain⟨q1,q2⟩:=k1.recell (k:=k) (t:=t) (cs:=cs) (cs':=cs.set i (.own sz h.length 0))
  (by rw[List.getElem?_append_left (by obtain⟨a,_⟩:=List.getElem?_eq_some_iff.1 hk;exact a)];exact hk)
  (fun vs hc=>by
   obtain⟨v,hv,hcv⟩:=hc.at ht
   cases hcv
   have:=hc.set i (C.own (S:=S) (w:=w) sz h.length 0 none 0 (Nat.le_refl _) (by simp[maxLen]) ⟨_,_,upd_same _ _ _,Nat.le_refl _,fun _=>rfl⟩)
   have e:vs.setIfInBounds i (.slice none 0 0)=vs:=by
    apply Array.ext
    ·
     simp
    ·
     intro j h1 h2
     by_cases ei:i=j
     ·
      subst ei
      have hv':vs[i]=.slice none 0 0:=by
       rw[Array.getElem?_eq_getElem h2] at hv
       exact Option.some.inj hv
      simp[hv']
     ·
      simp[h2,ei]
   rw[e] at this
   exact this)
 exact⟨S,_,q2.CAll (k2.CAll hs),q1,k2.trans q2⟩
end
end Go.Abs
namespace Go.Proofs.YtpamokpmlplopaaGreatDoor
open Go.Abs
set_option maxRecDepth 20000
set_option linter.unusedSimpArgs false
set_option linter.unusedVariables false
set_option maxHeartbeats 1000000
attribute [local irreducible] vc vcOps vcStep vcGuard prK hrK gK gsK brK callK ElemK SeqK BlockK ScopeK OpsK CallK LoopK LoopGo finPost ACall PCall PCallE BCall vqOps vqStep vqGuard qrK heK pcK gqK gqsK QOpsK qcallK DrawK
theorem flat_pureO {sz:Nat} {l:List AV} (h:Go.Abs.Pure (.lst sz l none)):∀ c∈flat l,Go.Abs.Pure c:=by cases h with|lst _ _ h=>exact h
theorem own_cells (sz k n:Nat):(AV.own sz k n).cells=[AV.own sz k n]:=rfl
theorem own_one (sz k n:Nat):(AV.own sz k n).one=true:=rfl
attribute [go_sem] own_cells own_one
theorem finOk {T:TypeId→TI} {s:List AV} {rs:List ResultVar} {e:TypeId} {sz k n:Nat} {es es0:List AV} {E E' B:AV} {h':List Blk} {KK:AV→List Blk→Prop}
  (hK:∀ rest,(∀ c∈rest,Go.Abs.Pure c)→KK (.tup [.agg [E',.sl sz 0 0 es.length],B]) [.cells e (flat es++rest)]) (hl:resAV T s h' rs=some [.agg [E,.own sz k n],B]) (hw:Weak E E') (pE:Go.Abs.Pure E') (pB:Go.Abs.Pure B)
  (hk:h'[k]?=some (.own e sz es0)) (hes:es0=es) (hn:n=es.length) (hs1:sz≠1) (hne:es≠[]) (pf:∀ c∈flat es,Go.Abs.Pure c):FinO T rs [] e sz es KK s h':=by
 subst hes hn
 refine⟨_,hl,.tup [.agg [E',.own sz k es0.length],B],_,[],h',k,Weak.tups2 ⟨Weak.aggs ⟨hw,.refl _,trivial⟩,.refl _,trivial⟩,?_,rfl,.refl _ _,Nat.zero_le _,hk,hs1,hne,fun c hc=>Blw.pure (pf c hc),hK⟩
 exact Turn.tups ⟨Turn.aggs ⟨.base _ _ (.inl ⟨rfl,Blw.pure pE⟩),.base _ _ (.inr ⟨sz,rfl,rfl⟩),trivial⟩,.base _ _ (.inl ⟨rfl,Blw.pure pB⟩),trivial⟩
theorem flows10e (p:DProg) (hp:okProg p) (h0:(startF p).Err=0) (hne:p.Nodes≠[]) (KK:AV→List Blk→Prop)
  (hK:∀ rest,(∀ c∈rest,Go.Abs.Pure c)→KK (.tup [.agg [.lst 2 (p.Enums.map DEnum.enc) none,.sl 5 0 0 ((nodesNm p 0 p.Nodes).map DFlow.enc).length],.b true]) [.cells 37 (flat ((nodesNm p 0 p.Nodes).map DFlow.enc)++rest)]) :
  ACall Tryz.prog 10 [p.enc] [] KK:=by
 have hc:=startCheck p hp
 have hen:=hp.1
 have hpl:=hp.2.1
 refine acallO_of_vc tabOK Tryz.func10 (by kernel_rfl) rfl (n:=50) rfl (rs:=[.cell 2 30,.tmp 3]) rfl (e:=37) (sz:=5) (es:=(nodesNm p 0 p.Nodes).map DFlow.enc) ?_
 have hof:=fun k n hn=>of33 p k n hn h0 hp
 have hnl:=nodesNm_len p p.Nodes 0
 have hnn:=fun i n h=>nodesNm_next p (l:=p.Nodes) (i:=i) (n:=n) h
 have hN0:nodesNm p 0 p.Nodes≠[]:=fun e=>hne (List.length_eq_zero_iff.1 (by rw[← hnl,e];rfl))
 generalize nodesNm p 0 p.Nodes=N at hnl hnn hN0 hK ⊢
 generalize startF p=F at hc h0
 rw[DFault.enc_eq] at hc
 simp only[go_sem]
 refine PCall.call hc ?_
 simp only[go_sem]
 refine brK_dec (fun h=>absurd h0 h) (fun _=>?_)
 simp only[go_sem]
 intro _
 refine loop_ghost ((ghost_cell (t:=30) (cs:=[.raw (.slice none 0 0),.raw (.slice none 0 0)]) 3 0 80 2 (by rfl) (by rfl)).trans (ghost_cello (t:=30) (cs:=[.lst 2 [] (some 4),.raw (.slice none 0 0)]) 3 1 37 5 (by rfl) (by rfl))) ?_
 simp only[go_sem]
 refine loop_fr [7,18,19,20,21,22,23,24,25,26,27,28,29,30,31,32,33] (fun mm C hh=>∃(i:Nat) (r':List Blk),i≤p.Enums.length∧mm=p.Enums.length-i∧C=[(18,.raw (.int .i64 (i:Nat)))] ∧
  hh=.cells 25 [.lst 2 (p.Enums.map DEnum.enc) none,.lst 5 (p.Nodes.map DNode.enc) none]::.cells 30 [.raw (.slice none 0 0),.raw (.slice none 0 0)]::.cells 61 [.i F.Node,.i F.Eq,.i F.Err] ::
   .cells 30 [.lst 2 ((p.Enums.take i).map DEnum.enc) (some 4),.own 5 5 0]::.tok 80 2 i::.own 37 5 []::r') p.Enums.length _ ⟨0,[],by omega,by omega,rfl,rfl⟩ (.cons rfl .nil) ?_
 rintro mm C j hh ⟨i,r',hi,rfl,rfl,rfl⟩
 simp only[go_sem]
 refine brK_dec (fun hlt=>?_) (fun hge=>?_)
 ·
  obtain⟨e,he⟩:∃ e,p.Enums[i]?=some e:=⟨_,List.getElem?_eq_getElem (by omega)⟩
  have hel:=(hen.2 e (List.mem_of_getElem? he)).1
  have hen8:=hen.1
  have hnx:(p.Enums.take (i+1)).map DEnum.enc=(p.Enums.take i).map DEnum.enc++[e.enc]:=by
   rw[List.take_add_one,he]
   simp
  have htl:(p.Enums.take i).length=i:=by rw[List.length_take];omega
  simp only[go_sem]
  refine elemHave (x:=e) (by omega) (by simpa using he) ?_
  simp only[go_sem]
  refine drawZ mo (by kernel_rfl) rfl ?_
  simp only[List.dropLast_cons_cons,List.dropLast_singleton,List.getLast_cons_cons,List.getLast_singleton]
  simp only[go_sem]
  refine pcK_of (cloneS e.Ctors (by omega)) ?_
  simp only[go_sem]
  refine And.intro (by first|omega|(simp;done)|(simp;omega)) ?_
  exact loopFr _ (by omega) ⟨i+1,_,by omega,rfl,rfl,by rw[hnx,DEnum.enc_eq];simp;exact⟨by omega,rfl⟩⟩ (.next rfl (by omega) .nil) rfl
 ·
  obtain rfl:i=p.Enums.length:=by omega
  rw[List.take_length]
  simp only[go_sem]
  intro _
  refine loop_fr [8,37,38,39,40,41,42,43,44,45,46,47,48] (fun mm C hh=>∃(i:Nat) (r':List Blk),i≤p.Nodes.length∧mm=p.Nodes.length-i∧C=[(37,.raw (.int .i64 (i:Nat)))] ∧
   hh=.cells 25 [.lst 2 (p.Enums.map DEnum.enc) none,.lst 5 (p.Nodes.map DNode.enc) none]::.cells 30 [.raw (.slice none 0 0),.raw (.slice none 0 0)]::.cells 61 [.i F.Node,.i F.Eq,.i F.Err] ::
    .cells 30 [.lst 2 (p.Enums.map DEnum.enc) (some 4),.own 5 5 ((N.take i).map DFlow.enc).length]::.tok 80 2 p.Enums.length::.own 37 5 ((N.take i).map DFlow.enc)::r') p.Nodes.length _ ⟨0,r',by omega,by omega,rfl,rfl⟩ (.cons rfl .nil) ?_
  rintro mm C j2 hh ⟨i,r2,hi,rfl,rfl,rfl⟩
  simp only[go_sem]
  refine brK_dec (fun hlt=>?_) (fun hge=>?_)
  ·
   obtain⟨n,hn⟩:∃ n,p.Nodes[i]?=some n:=⟨_,List.getElem?_eq_getElem (by omega)⟩
   have htl:(N.take i).length=i:=by rw[List.length_take];omega
   have hnx:=hnn i n hn
   have ho:=hof i n hn
   generalize flowNm p (i:Int) n=f at hnx ho
   simp only[go_sem]
   refine drawZ mo (by kernel_rfl) rfl ?_
   simp only[List.dropLast_cons_cons,List.dropLast_singleton,List.getLast_cons_cons,List.getLast_singleton]
   simp only[go_sem]
   refine pcK_of ho ?_
   simp only[go_sem]
   refine And.intro (by first|omega|(simp;done)|(simp;omega)) ?_
   exact loopFr _ (by omega) ⟨i+1,_,by omega,rfl,rfl,by rw[hnx];simp;rfl⟩ (.next rfl (by omega) .nil) rfl
  ·
   rw[List.take_of_length_le (by omega)]
   simp only[go_sem]
   exact finOk (k:=5) hK rfl (.tok _ _ _) (DEnum.pures _) (.raw _) rfl rfl (by simp) (by decide) (by simpa using hN0) (flat_pureO (DFlow.pures _))
theorem len_names (f:DFlow):(namesP f).length=f.Eqs.length:=List.length_map ..
theorem ready71' (f:DFlow) (hf:okFlow f) (pl:List Bool) (i:Nat) (n:Nat) (hn:n=pl.length) (hl:pl.length=f.Eqs.length) (hi:i<f.Eqs.length) {h:List Blk} {k:Nat} {K:AV→List Blk→Prop} (hb:blkCells h k=some (pl.map AV.b)) (hK:K (.b (readyF (namesP f) (hangsP f) pl i)) h) :
  ACall Tryz.prog 115 [f.enc,.sl 1 k 0 n,.i (i:Int)] h K:=by subst hn;exact ready71 f hf pl i hl hi hb hK
theorem order30 (f:DFlow) (hf:okFlow f):PCall Tryz.prog 79 [f.enc] (orderA (orderF (namesP f) (hangsP f))):=by
 have hn:=hf.1
 have hN:=len_names f
 generalize hR:orderF (namesP f) (hangsP f)=R
 refine pcall_of_vc tabOK Tryz.func79 (by kernel_rfl) rfl (by first|exact pureL|exact pureI) (pure_orderA _) (n:=46) rfl (rs:=[.tmp 2,.tmp 3]) rfl ?_
 simp only[go_sem]
 intro _
 refine⟨by omega,?_⟩
 simp only[Int.toNat_natCast]
 refine loop_fr [2,3,5,6,7,13,14,15,16,17,18,19,20,21,22,23,24,25,26,27,28,29,30,31,32,33,34,35,36,37,38,39,40,41,42,43,44] (fun m C hh=>∃(pl:List Bool) (out:List Nat) (r:List Blk),pl.length=f.Eqs.length∧out.length≤f.Eqs.length∧m=f.Eqs.length-out.length∧orderG (namesP f) (hangsP f) (f.Eqs.length-out.length) pl out=R ∧
  C=[(5,.lst 1 (out.map AV.n) (some 2))]∧hh=flowB f::.cells 4 (pl.map AV.b)::.tok 3 1 out.length::r) (f.Eqs.length) _
  ⟨List.replicate f.Eqs.length false,[],[],by simp,by simp,by simp,by rw[← hR,orderF,hN];rfl,rfl,by simp⟩ (.cons rfl .nil) ?_
 rintro m C jo hh ⟨pl,out,r,hl,hol,rfl,hG,rfl,rfl⟩
 repeat' first
  | exact finB rfl
  | exact finI rfl
  | exact finP rfl
  | exact absurd rfl (by assumption)
  | simp only[go_sem]
  | (intro _)
  | refine brK_dec (fun _=>?_) (fun _=>?_)
  | refine brK_any ?_ ?_
  | refine gK_dec (fun _=>?_) (fun _=>?_)
  | refine gK_any ?_ ?_
  | refine gqK_dec (fun _=>?_) (fun _=>?_)
  | refine⟨by omega,?_⟩
  | refine elemHave (by omega) (by assumption) ?_
  | refine elemMap (by omega) (by omega) (fun x hx=>?_)
  | refine drawK mo (by kernel_rfl) ?_
  | (refine ready71' f hf pl i _ hl.symm hl (by omega) (k:=1) rfl ?_;generalize hw:readyF (namesP f) (hangsP f) pl i=w;cases w)
  | exact loopFrH _ (by omega) ⟨i+1,_,by omega,rfl,hpi.hit (by assumption) hw,rfl⟩ (.next rfl (by omega) (.cons rfl .nil)) rfl
  | (refine loop_frH [6,7,19,20,21,22,23,24,25,26,27,28,29,30,31,32,33,34] (fun mm_ CC_=>∃(i:Nat) (a:Int),i≤f.Eqs.length∧mm_=f.Eqs.length-i∧(okAt (namesP f) (hangsP f) pl i a)∧CC_=[(7,.raw (.int .i64 ((i:Nat):Int))),(6,.i a)]) (f.Eqs.length) _ ⟨0,_,by omega,by omega,.zero,rfl⟩ (.cons rfl (.cons rfl .nil)) ?_;rintro mm_ CC_ ji ⟨i,a,hi,rfl,hpi,rfl⟩)
  | exact loopFrH _ (by omega) ⟨i+1,_,by omega,rfl,hpi.miss (by assumption) hw,rfl⟩ (.next rfl (by omega) (.cons rfl .nil)) rfl
  | (refine loop_frH [6,7,19,20,21,22,23,24,25,26,27,28,29,30,31,32,33,34] (fun mm_ CC_=>∃(i:Nat) (a:Int),i≤f.Eqs.length∧mm_=f.Eqs.length-i∧(okAt (namesP f) (hangsP f) pl i a)∧CC_=[(7,.raw (.int .i64 ((i:Nat):Int))),(6,.i a)]) (f.Eqs.length) _ ⟨0,_,by omega,by omega,.zero,rfl⟩ (.cons rfl (.cons rfl .nil)) ?_;rintro mm_ CC_ ji ⟨i,a,hi,rfl,hpi,rfl⟩)
  | (rw[order_none (hpi.none_ (by assumption) (by rw[hN];omega)) (by omega)] at hG;rw[← hG];exact⟨_,rfl,false,weak_order _ _ _⟩)
  | ((fail_if_success (clear hpk));obtain⟨k,rfl,hk,hp,hpk⟩:=hpi.got (by assumption) (by rw[hN];omega);rw[hN] at hk;have hkl:(k+1≤pl.length)=True:=eq_true (by omega))
  | (simp only[go_sem,Nat.zero_add,Nat.mul_one,Int.toNat_natCast,List.length_map,hkl,set_b'])
  | (refine⟨by simp;omega,?_⟩)
  | (rw[order_some hp (by omega)] at hG;refine loopFr (f.Eqs.length-(out.length+1)) (by omega) ⟨pl.set k true,out++[k],r++[.tok 3 1 1],by simpa using hl,by simp;omega,by simp,by rw[← hG,Nat.sub_sub];simp,rfl,?_⟩ (.cons ?_ .nil) rfl<;>(simp;done))
  | (rw[show f.Eqs.length-out.length=0 by omega] at hG;rw[← hG];exact⟨_,rfl,false,weak_order _ _ _⟩)
  | (exfalso;omega)
theorem okFlow.names {f:DFlow} (h:okFlow f):(namesP f).flatten.length≤54000:=by
 have h1:=flat_le (N:=namesP f) (c:=20) fun l hl=>by
  obtain⟨q,hq,rfl⟩:=List.mem_map.1 hl
  exact(h.2 q hq).1
 have:=h.1
 rw[len_names] at h1
 omega
theorem order29 (f:DFlow) (hf:okFlow f):PCall Tryz.prog 47 [f.enc] (orderA (orderF (namesP f) (hangsP f))):=by
 have hn:=hf.1
 have hN:=len_names f
 have hfl:=hf.names
 generalize hR:orderF (namesP f) (hangsP f)=R
 refine pcall_of_vc tabOK Tryz.func47 (by kernel_rfl) rfl (by first|exact pureL|exact pureI) (pure_orderA _) (n:=52) rfl (rs:=[.tmp 2,.tmp 3]) rfl ?_
 simp only[go_sem]
 refine schedOf f (by omega) _ (fun n0 m0 r hm0=>?_)
 simp only[go_sem]
 intro _
 refine⟨by omega,?_⟩
 simp only[Int.toNat_natCast]
 refine loop_ghost (ghost_tok 4 3 1 rfl) ?_
 simp only[go_sem]
 refine loop_fr [2,3,4,7,8,15,16,17,18,19,20,21,22,23,24,25,26,27,28,29,30,31,32,33,34,35,36,37,38,39,40,41,42,43,44,45,46,47,48,49,50] (fun mz C hh=>∃(pl:List Bool) (out:List Nat) (n:Nat) (m:Value→Option AV) (r2:List Blk),pl.length=f.Eqs.length∧out.length≤f.Eqs.length∧mz=f.Eqs.length-out.length∧orderG (namesP f) (hangsP f) (f.Eqs.length-out.length) pl out=R ∧
  MapN m (fun s=>opn s (namesP f) pl) ∧
  C=[(4,.lst 1 (out.map AV.n) (some (r.length+1+1+1+1)))]∧hh=flowB f::flowB f::.mp .str n m::(r++.cells 4 (pl.map AV.b)::.tok 3 1 out.length::r2)) (f.Eqs.length) _
  ⟨List.replicate f.Eqs.length false,[],n0,m0,[],by simp,by simp,by simp,by rw[← hR,orderF,hN];rfl,by rw[hN] at hm0;exact hm0,rfl,by simp⟩ (.cons (by simp) .nil) ?_
 rintro mz C jo hh ⟨pl,out,n,m,r2,hl,hol,rfl,hG,hm,rfl,rfl⟩
 repeat' first
  | exact finB rfl
  | exact finI rfl
  | exact finP rfl
  | exact absurd rfl (by assumption)
  | simp only[go_sem]
  | (intro _)
  | refine brK_dec (fun _=>?_) (fun _=>?_)
  | refine brK_any ?_ ?_
  | refine gK_dec (fun _=>?_) (fun _=>?_)
  | refine gK_any ?_ ?_
  | refine gqK_dec (fun _=>?_) (fun _=>?_)
  | refine⟨by omega,?_⟩
  | refine elemHave (by omega) (by assumption) ?_
  | ((fail_if_success (clear hq));refine elemMap (by omega) (by omega) (fun q hq=>?_))
  | refine elemMap (by omega) (by omega) (fun x hx=>?_)
  | refine drawK mo (by kernel_rfl) ?_
  | (simp only[go_sem,at_app0,at_app,set_app0])
  | ((fail_if_success (clear hpx));have hq':f.Eqs[i]?=some q:=(by simpa using hq);have hh:(hangsP f)[i]?=some (readsP q):=map_some hq';have hnn:(namesP f)[i]?=some q.Names:=map_some hq';have hpx:pl[i]?=some pl[i]:=List.getElem?_eq_getElem (by omega);generalize pl[i]=b at hpx;have hkl:(i+1≤pl.length)=True:=eq_true (by omega);cases b)
  | (simp only[go_sem,at_app0,set_app0,Nat.zero_add,Nat.mul_one,Int.toNat_natCast,dropB hpx,dropB' hpx,hkl,List.length_map,set_b'])
  | (refine ready69 q (hf.reads hq') _ _ _ _ _ hm _ ?_;simp only[any_waits];generalize hw:((readsP q).any fun s=>waitsF (namesP f) pl s)=w;cases w)
  | exact loopFr _ (by omega) ⟨i+1,_,by omega,rfl,not_next hpi (by first|exact ready_not hpx|exact ready_any hpx hh hw),rfl,(by first|rfl|(simp;done)|(simp;rfl))⟩ (.next rfl (by omega) (.cons (by first|rfl|(simp;done)|(simp;rfl)) .nil)) rfl
  | (refine loop_fr [4,7,8,24,25,26,27,28,29,30,31,32,33,34,35,36,37,38,39,40,41,42,43,44,45,46,47,48,49] (fun mm_ CC_ hh_=>∃(i:Nat) (r_:List Blk),i≤f.Eqs.length∧mm_=f.Eqs.length-i∧((∀ j,j<i→readyF (namesP f) (hangsP f) pl j=false))∧CC_=[(24,.raw (.int .i64 ((i:Nat):Int))),(4,.lst 1 (out.map AV.n) (some (r.length+1+1+1+1)))]∧hh_=flowB f::flowB f::.mp .str n m::(r++.cells 4 (pl.map AV.b)::.tok 3 1 out.length::r_)) (f.Eqs.length) _ ⟨0,_,by omega,by omega,fun j hj=>absurd hj (by omega),rfl,(by first|rfl|(simp;done)|(simp;rfl))⟩ (.cons (by first|rfl|(simp;done)|(simp;rfl)) (.cons (by first|rfl|(simp;done)|(simp;rfl)) .nil)) ?_;rintro mm_ CC_ ji hh_ ⟨i,ri,hi,rfl,hpi,rfl,rfl⟩)
  | (refine place70 q _ _ _ _ _ hm (fun s=>by have:=opn_set (s:=s) hnn hpx;omega) (fun s=>Nat.le_trans opn_le (by omega)) _ (fun n9 m9 g9 r9 h9 h9s=>?_);simp only[List.append_assoc,List.cons_append];have hpk:=pick_some (N:=namesP f) (H:=hangsP f) (pl:=pl) (n:=(namesP f).length) (i:=0) (k:=i) (Nat.zero_le _) (by omega) (fun j _ hj=>hpi j hj) (ready_any hpx hh hw);have h8:MapN m9 (fun s=>opn s (namesP f) (pl.set i true)):=h9.cast (fun s=>by have h7:=opn_set (s:=s) hnn hpx;have:=h9s s;omega))
  | (refine⟨by simp;omega,?_⟩)
  | (rw[order_some hpk (by omega)] at hG;refine loopFr (f.Eqs.length-(out.length+1)) (by omega) ⟨pl.set i true,out++[i],n9,m9,_,by simpa using hl,by simp;omega,by simp,by rw[← hG,Nat.sub_sub];simp,h8,rfl,by simp;rfl⟩ (.cons (by simp;done) .nil) rfl)
  | (rw[order_none (pick_none (fun j _ hj=>hpi j (by omega))) (by omega)] at hG;rw[← hG];exact⟨_,rfl,false,weak_order _ _ _⟩)
  | (rw[show f.Eqs.length-out.length=0 by omega] at hG;rw[← hG];exact⟨_,rfl,false,weak_order _ _ _⟩)
  | (exfalso;omega)
section
section
variable (nm:Nat→ByteArray) (ty:Ex→DTy) (cn:Ex→List Int) (va:ByteArray→Int) (fi:ByteArray→Int)
def szQ (q:DPlain):Prop:=q.Names.length≤20∧q.Args.length≤1001∧q.On.length≤1000
def SzS (st st':NmSt):Prop:=∀ q∈st'.eqs,q∈st.eqs∨szQ q
theorem SzS.refl (st:NmSt):SzS st st:=fun _ h=>.inl h
theorem SzS.trans {a b c:NmSt} (h:SzS a b) (h2:SzS b c):SzS a c:=fun q hq=>by
 rcases h2 q hq with h3|h3
 ·
  exact h q h3
 ·
  exact .inr h3
theorem SzS.fresh {q:DPlain} {t:DTy} {on:List DCond} {st:NmSt} (hq:q.Args.length≤1001) (ho:on.length≤1000):SzS st (freshN nm q t on st).2:=fun x hx=>by
 unfold freshN at hx
 rcases List.mem_append.1 hx with hx|hx
 ·
  exact .inl hx
 ·
  rw[List.mem_singleton.1 hx]
  exact .inr ⟨by simp,hq,ho⟩
theorem head_args (e:Ex) (ats:List DAtom) (frst:DAtom):(headN ty cn va fi e ats frst).Args.length≤ats.length+1:=by
 have key:∀(c:Prop) [Decidable c] (x y:DPlain),x.Args.length≤ats.length+1→y.Args.length≤ats.length+1→(if c then x else y).Args.length≤ats.length+1:=by
  intro c _ x y a b
  split
  ·
   exact a
  ·
   exact b
 unfold headN
 repeat' first
  | refine key _ _ _ ?_ ?_
  | (simp[plain0];done)
  | (simp[plain0];omega)
def SzE (e:Ex):Prop:=∀ on st,on.length+(parts e).length≤1000→SzS st (plainN nm ty cn va fi e on st).2∧(plainN nm ty cn va fi e on st).1.Args.length≤1001
theorem atom_sz {x:Ex} (h:SzE nm ty cn va fi x) {on:List DCond} (ho:on.length+(parts x).length≤1000) (st:NmSt):SzS st (atomN nm ty cn va fi x on st).2:=by
 unfold atomN
 split
 ·
  exact SzS.refl st
 ·
  obtain⟨h1,h2⟩:=h on st ho
  exact h1.trans (SzS.fresh nm h2 (by omega))
theorem each_sz {l:List Ex} (h:∀ x∈l,SzE nm ty cn va fi x) {on:List DCond} (ho:on.length+(partsL l).length≤1000):∀ st,SzS st (eachN nm ty cn va fi l on st).2:=by
 induction l with
 | nil=>intro st;rw[eachN_nil];exact SzS.refl st
 | cons x l ih =>
  intro st
  rw[partsL,List.length_append] at ho
  rw[eachN_cons]
  exact(atom_sz nm ty cn va fi (h x List.mem_cons_self) (by omega) st).trans (ih (fun y hy=>h y (List.mem_cons_of_mem _ hy)) (by omega) _)
theorem merge_sz {m:ByteArray} {l:List Ex} (h:∀ x∈l,SzE nm ty cn va fi x) {on:List DCond} (ho:on.length+1+(partsL l).length≤1000):∀(cs:List ByteArray) st,SzS st (mergeN nm ty cn va fi m cs l on st).2∧(mergeN nm ty cn va fi m cs l on st).1.length≤l.length:=by
 induction l with
 | nil=>intro cs st;rw[mergeN];exact⟨SzS.refl st,by simp⟩
 | cons x l ih =>
  intro cs st
  cases cs with
  | nil=>rw[mergeN];exact⟨SzS.refl st,by simp⟩
  | cons c cs =>
   rw[partsL,List.length_append] at ho
   rw[mergeN_cons]
   obtain⟨i1,i2⟩:=ih (fun y hy=>h y (List.mem_cons_of_mem _ hy)) (by omega) cs (atomN nm ty cn va fi x (on++[⟨m,va c⟩]) st).2
   exact⟨(atom_sz nm ty cn va fi (h x List.mem_cons_self) (by rw[List.length_append,List.length_singleton];omega) st).trans i1,by simpa using i2⟩
theorem plain_sz (e:Ex):SzE nm ty cn va fi e:=by
 induction e using Ex.ind with
 | _ e ih =>
 intro on st ho
 rw[parts_lenC] at ho
 have hsl:=subs_le2 e.subs
 rw[plainN_eq]
 have hf:SzS st (frstN nm e on st).2:=by
  unfold frstN
  split
  ·
   exact SzS.fresh nm (by simp[plain0]) (by omega)
  ·
   exact SzS.refl st
 have ha:SzS (frstN nm e on st).2 (argsN nm ty cn va fi e on (frstN nm e on st).2).2∧(argsN nm ty cn va fi e on (frstN nm e on st).2).1.length≤1000:=by
  generalize (frstN nm e on st).2=st1
  unfold argsN
  split
  ·
   obtain⟨m1,m2⟩:=merge_sz nm ty cn va fi (m:=e.name) ih (on:=on) (by omega) e.arms st1
   exact⟨m1,by omega⟩
  ·
   split
   ·
    have hpr:(partsL (e.subs.drop 1)).length≤(partsL e.subs).length:=by
     generalize e.subs=l
     cases l with
     | nil=>simp
     | cons x l=>rw[partsL,List.length_append];simp
    exact⟨each_sz nm ty cn va fi (fun x hx=>ih x (List.mem_of_mem_drop hx)) (by omega) st1,by rw[eachN_len,List.length_drop];omega⟩
   ·
    refine⟨each_sz nm ty cn va fi ih ?_ st1,by rw[eachN_len];omega⟩
    unfold onN
    split
    ·
     rw[List.length_dropLast];omega
    ·
     omega
 refine⟨hf.trans ha.1,?_⟩
 have:=head_args ty cn va fi e (argsN nm ty cn va fi e on (frstN nm e on st).2).1 (frstN nm e on st).1
 dsimp only
 omega
end
theorem eqs_sz {p:DProg} {k:Nat} {n:DNode} (h:∀ q∈n.Eqs,EqW p k n q) (hn:p.Nodes[k]?=some n) (v0:List DVar):∀ i,i≤n.Eqs.length→∀ q∈(eqsNm p (k:Int) (v0,[]) (n.Eqs.take i)).2,szQ q
 | 0,_=>by simp[eqsNm]
 | i+1,hi=>by
  have ih:=eqs_sz h hn v0 i (by omega)
  obtain⟨x,hx⟩:∃ x,n.Eqs[i]?=some x:=⟨_,List.getElem?_eq_getElem (by omega)⟩
  rw[eqsNm_next p (k:Int) hx]
  generalize eqsNm p (k:Int) (v0,[]) (n.Eqs.take i)=st at ih
  have hw:=h x (List.mem_of_getElem? hx)
  have h60:(parts x.E).length≤60:=by
   have:=hw.right
   unfold rightE at this
   simp only[Bool.and_eq_true,decide_eq_true_eq] at this
   exact this.1.1
  have hon:=rowN_len p.Enums n (x.Names.headD ⟨#[]⟩)
  rw[← rowOn_w hn] at hon
  obtain⟨s1,s2⟩:=plain_sz (nmN (x.Names.headD ⟨#[]⟩)) (tyN p (k:Int)) (cnN p) (vaN p) (fiN p) x.E (rowOn p (k:Int) (x.Names.headD ⟨#[]⟩)) ⟨st.1,st.2,0⟩ (by omega)
  intro q hq
  unfold eqNm eqPl at hq
  rcases List.mem_append.1 hq with hq|hq
  ·
   rcases s1 q hq with h1|h1
   ·
    exact ih q h1
   ·
    exact h1
  ·
   rw[List.mem_singleton.1 hq]
   exact⟨hw.ok.1,s2,by dsimp only;omega⟩
theorem flow_sz {p:DProg} (hs:(startF p).Err=0) (hp:okProg p) {k:Nat} {n:DNode} (hn:p.Nodes[k]?=some n):(∀ q∈(flowNm p (k:Int) n).Eqs,szQ q)∧(flowNm p (k:Int) n).Eqs.length≤2700∧(flowNm p (k:Int) n).Ins.length≤20∧(flowNm p (k:Int) n).Outs.length≤20∧(flowNm p (k:Int) n).Vars.length≤2720:=by
 have hw:=eqs_w hs hp hn
 have hno:=hp.2.2 n (List.mem_of_getElem? hn)
 have h1:=eqs_sz hw hn (n.Vars.map (varNm p (k:Int))) n.Eqs.length (Nat.le_refl _)
 have h2:=eqs_len hw (n.Vars.map (varNm p (k:Int))) n.Eqs.length (Nat.le_refl _)
 rw[List.take_length] at h1 h2
 rw[List.length_map] at h2
 have a1:=hno.1.1
 have a2:=hno.2.1.1
 have a3:=hno.2.2.1.1
 have a4:=hno.2.2.2.1
 refine⟨h1,?_,by show(n.Ins.map _).length≤20;rw[List.length_map];omega,by show(n.Outs.map _).length≤20;rw[List.length_map];omega,?_⟩
 ·
  show(eqsNm p (k:Int) (n.Vars.map (varNm p (k:Int)),[]) n.Eqs).2.length≤2700
  omega
 ·
  show(eqsNm p (k:Int) (n.Vars.map (varNm p (k:Int)),[]) n.Eqs).1.length≤2720
  omega
end
end Go.Proofs.YtpamokpmlplopaaGreatDoor
