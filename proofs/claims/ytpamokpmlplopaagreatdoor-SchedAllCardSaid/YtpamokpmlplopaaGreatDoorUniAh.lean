/-
  AbsV, Small, SmallE, AbsRF, AbsW, Reverse, Reads: put together.
-/
import Derived.Test.YtpamokpmlplopaaGreatDoorUniAd
import Derived.Test.YtpamokpmlplopaaGreatDoorUniAf
import Derived.Shelf.SlicesQ.Reverse
namespace Go.Abs
open Go.RowKit Go.Proofs Go.Sort
def Cells (k:Nat):Type:={ l:List Value // l.length=k∧∀ v∈l,v.oneCell'=true }
instance (k:Nat):Inhabited (Cells k):=⟨⟨List.replicate k (.bool false),by simp,fun v hv=>by rw[List.eq_of_mem_replicate hv];rfl⟩⟩
theorem own_reverse {P:Program} {f:FuncId} {e:TypeId} {k:Nat} (hk0:0<k) (hent:∀ vs w,(callFunc f vs).run P w=.ok (.enter f vs) w)
  (hcon:∀(blk cap:Nat) (d:Array (Cells k)) (w:World),HoldsK (fun x:Cells k=>x.1) k w blk 0 d→d.size≤9223372036854775807 →
   Calls P f #[.slice (some ⟨blk,0,none⟩) d.size cap] w fun e w'=>e=.returned (.tuple #[])∧∃ n,w'=putRowK (fun x:Cells k=>x.1) k (Sort.ahead w n) blk 0 d.reverse)
  (hemp:∀(a:Option Addr) (cap:Nat) (w:World),Calls P f #[.slice a 0 cap] w fun e w'=>e=.returned (.tuple #[])∧w'=w)
  {es:List AV} {kk:Nat} {h:List Blk} {K:AV→List Blk→Prop} (hk:h[kk]?=some (.own e k es)) (hK:K (.tup []) (h.set kk (.own e k es.reverse))):ACall P f [.own k kk es.length] h K:=by
 intro S φ w vs0 hr hargs
 refine⟨hent _ _,?_⟩
 obtain⟨v0,hv0,c0⟩:=hargs.at (i:=0) rfl
 have hvs0:vs0=#[v0]:=by
  have hl:=hargs.1
  apply Array.ext_getElem?
  intro i
  match i with
  | 0=>exact hv0
  | i+1=>simp at hl ⊢;omega
 subst hvs0
 obtain⟨u,g1,g2,g3⟩:=hr.blk kk _ hk
 have hsame:es.length=0→h.set kk (.own e k es.reverse)=h:=by
  intro h0
  have:es=[]:=List.eq_nil_of_length_eq_zero h0
  subst this
  apply List.ext_getElem?
  intro j
  rw[List.getElem?_set]
  by_cases ej:kk=j
  ·
   subst ej;rw[if_pos rfl,if_pos (lookupD hk)];exact hk.symm
  ·
   rw[if_neg ej]
 have ret:C S w φ (.tup []) (.tuple #[]):=.tup [] #[] rfl (fun i a v h=>by simp at h)
 rcases Nat.eq_zero_or_pos es.length with h0|hpos
 ·
  rw[h0] at c0
  cases c0 with
  | own _ _ _ a cap hcap hmax ht =>
   refine Calls.mono (hemp a cap w) ?_
   rintro e w' ⟨rfl,rfl⟩
   rw[hsame h0] at hK
   exact⟨_,_,_,S,φ,rfl,hK,ret,hr,Ext.refl _ _ _ _⟩
 ·
  rcases g3 with ⟨_,rfl⟩|⟨b,cap,vs,q1,q2,rfl,q4,q5,q6,q7,q8⟩
  ·
   simp at hpos
  ·
   have hv:v0=.slice (some ⟨b,0,none⟩) es.length cap:=by
    cases c0 with
    | own _ _ _ a cap' _ _ ht =>
     obtain⟨n',u',e1,_,e3⟩:=ht
     rw[g1] at e1
     cases e1
     exact e3 rfl
   subst hv
   have hfl:=flat_length g2
   have hcell:∀ j,j<es.length * k→∃ x,vs[j]?=some x∧x.oneCell'=true:=by
    intro j hj
    have:∃ c,(flat es)[j]?=some c:=⟨_,List.getElem?_eq_getElem (by rw[hfl];exact hj)⟩
    obtain⟨c,hc⟩:=this
    obtain⟨x,x1,_,x3⟩:=q6 j c hc
    exact⟨x,x1,x3⟩
   have hsz:es.length * k≤vs.size:=by rw[q5];exact Nat.mul_le_mul_right _ q1
   have hrow:∀ i,i<es.length→i * k+k≤es.length * k:=fun i hi=>by
    have:=Nat.mul_le_mul_right k (show i+1≤es.length from hi);rwa[Nat.add_mul,Nat.one_mul] at this
   let el (i:Nat) (hi:i<es.length):Cells k:=⟨(vs.toList.drop (i * k)).take k,by
    have:=hrow i hi
    refine⟨by rw[List.length_take,List.length_drop,Array.length_toList];omega,fun v hv=>?_⟩
    obtain⟨c,hc,rfl⟩:=List.getElem_of_mem hv
    rw[List.length_take] at hc
    obtain⟨x,x1,x3⟩:=hcell (i * k+c) (by omega)
    have:x=((vs.toList.drop (i * k)).take k)[c]'(by rw[List.length_take];exact hc):=by
     have e1:((vs.toList.drop (i * k)).take k)[c]?=some x:=by
      rw[List.getElem?_take,if_pos (by omega),List.getElem?_drop]
      simpa using x1
     rw[List.getElem?_eq_getElem (by rw[List.length_take];exact hc)] at e1
     exact(Option.some.inj e1).symm
    rw[← this]
    exact x3⟩
   let d:Array (Cells k):=Array.ofFn (n:=es.length) fun i=>el i.1 i.2
   have hd:d.size=es.length:=by simp[d]
   have hdi:∀ i (hi:i<es.length),d[i]! = el i hi:=fun i hi=>by
    rw[getElem!_pos d i (by rw[hd];exact hi)]
    simp[d]
   have hdc:∀ i c,i<es.length→c<k→(d[i]!.1)[c]! = vs[i * k+c]! := fun i c hi hc=>by
    rw[hdi i hi]
    have hlt:i * k+c<vs.size:=by have:=hrow i hi;omega
    have h2:((vs.toList.drop (i * k)).take k)[c]?=some vs[i * k+c]:=by
     rw[List.getElem?_take,if_pos hc,List.getElem?_drop]
     simp[hlt]
    rw[getElem!_pos vs _ hlt]
    have hl:=(el i hi).2.1
    rw[getElem!_pos (el i hi).1 c (by rw[hl];exact hc)]
    have h3:(el i hi).1[c]?=some vs[i * k+c]:=h2
    rw[List.getElem?_eq_getElem (by rw[hl];exact hc)] at h3
    exact Option.some.inj h3
   have hH:HoldsK (fun x:Cells k=>x.1) k w b 0 d:=by
    intro j hj
    rw[size_flatK,hd] at hj
    have hlt:j<vs.size:=by omega
    refine⟨?_,by simp[World.frozen?,q4]⟩
    rw[get_flatK _ _ _ _ (by rw[hd];exact hj),hdc _ _ (by rw[Nat.div_lt_iff_lt_mul hk0];exact hj) (Nat.mod_lt _ hk0)]
    have e1:j / k * k+j % k=j:=by rw[Nat.mul_comm];exact Nat.div_add_mod _ _
    rw[e1,Nat.zero_add,getElem!_pos vs j hlt]
    simp[World.cell?,q4,hlt]
   have hmx:es.length≤9223372036854775807:=by have:maxLen=9223372036854775807:=by decide
                                              omega
   have hcl:=hcon b cap d w hH (by rw[hd];exact hmx)
   rw[hd] at hcl
   refine Calls.mono hcl ?_
   rintro ee w' ⟨rfl,n,rfl⟩
   let F:=flatK (fun x:Cells k=>x.1) k d.reverse
   have hFs:F.size=es.length * k:=by simp[F,hd]
   let vs':=putCells id 0 F vs
   have hvs':vs'.size=vs.size:=by simp[vs',putCells]
   have hheap:(putRowK (fun x:Cells k=>x.1) k (Sort.ahead w n) b 0 d.reverse).heap[b]?=some (.cells vs' e (0,0)):=by
    show((w.heap.modify b _)[b]?)=_
    rw[Array.getElem?_modify]
    simp only[if_true,q4]
    rfl
   have hoth:∀ b',b'≠b→(putRowK (fun x:Cells k=>x.1) k (Sort.ahead w n) b 0 d.reverse).heap[b']?=w.heap[b']?:=by
    intro b' hb'
    show((w.heap.modify b _)[b']?)=_
    rw[Array.getElem?_modify,if_neg (fun e=>hb' e.symm)]
   have hown:blockOf (φ kk) (.own e k es)=some b:=by rw[g1];rfl
   have hc:∀ a,S a→(putRowK (fun x:Cells k=>x.1) k (Sort.ahead w n) b 0 d.reverse).cell? a=w.cell? a:=fun a ha=>cell_of_heap (hoth _ (q7 a ha))
   have hupd:upd φ kk (φ kk)=φ:=by
    funext j
    by_cases ej:j=kk
    ·
     subst ej;rw[upd_same]
    ·
     rw[upd_other _ ej]
   have hput:=hr.put (S':=S) (w':=putRowK (fun x:Cells k=>x.1) k (Sort.ahead w n) b 0 d.reverse) (l:=φ kk) (x:=.own e k es.reverse) hk rfl rfl rfl (by show w.heap.size≤(w.heap.modify b _).size;simp) (fun b' _ hne=>hoth b' (fun e0=>hne (by rw[e0];exact hown)))
    (fun _ h=>h) hc (fun _ h=>.inl h) (fun a ha=>by have:=hr.bnd a ha;show _<(w.heap.modify b _).size;simpa using this) (Loc.le_refl _)
    (by
     rw[hupd]
     refine⟨_,by rw[List.length_reverse];exact g1,fun x hx=>g2 x (by simpa using hx),.inr ⟨b,cap,vs',by simpa using q1,q2,by rw[List.length_reverse],hheap,by rw[hvs',q5],fun j c hj=>?_,q7,q8.imp_right fun q8 j v hj hv=>q8 j v (by simpa using hj) (by
      rw[← hv]
      simp only[vs',putCells,Array.getElem?_mapIdx]
      rw[List.length_reverse] at hj
      cases vs[j]? with
      | none=>rfl
      | some y =>
       simp only[Option.map_some]
       rw[if_neg (by rw[hFs];omega)])⟩⟩
     have hrev:∀ x∈es.reverse,x.cells.length=k:=fun x hx=>g2 x (by simpa using hx)
     have hjl:=lookupD hj
     rw[flat_length hrev,List.length_reverse] at hjl
     have hi:j / k<es.length:=by rw[Nat.div_lt_iff_lt_mul hk0];exact hjl
     have hm:j % k<k:=Nat.mod_lt _ hk0
     have e1:j / k * k+j % k=j:=by rw[Nat.mul_comm];exact Nat.div_add_mod _ _
     have hF:F[j]! = (d.reverse[j / k]!.1)[j % k]! := get_flatK _ _ _ _ (by simp[hd];exact hjl)
     have hlt:j<vs.size:=by omega
     have hv1:vs'[j]?=some (F[j]!):=by
      simp only[vs',putCells,Array.getElem?_mapIdx,Array.getElem?_eq_getElem hlt,Option.map_some]
      rw[if_pos (by rw[hFs];exact⟨Nat.zero_le _,by omega⟩),Nat.sub_zero]
      rfl
     generalize j / k=q at hi e1 hF
     generalize j % k=r at hm e1 hF
     have hx:es.reverse[q]?=some es[es.length-1-q]:=by
      rw[List.getElem?_reverse hi,List.getElem?_eq_getElem (by omega)]
     have hcl:r<es[es.length-1-q].cells.length:=by rw[g2 _ (List.getElem_mem _)];exact hm
     have h1:=flat_at hrev hx (j:=r) (List.getElem?_eq_getElem hcl)
     rw[e1,hj] at h1
     have h2:=flat_at g2 (List.getElem?_eq_getElem (l:=es) (i:=es.length-1-q) (by omega)) (j:=r) (List.getElem?_eq_getElem hcl)
     obtain⟨x,x1,x2,x3⟩:=q6 _ _ h2
     refine⟨x,?_,by cases h1;exact x2.mono (fun _ h=>h) hc (fun _=>Loc.le_refl _),x3⟩
     rw[hv1,hF]
     have hdr:d.reverse[q]! = d[es.length-1-q]! := by
      rw[getElem!_pos d.reverse _ (by simp[hd];exact hi),getElem!_pos d _ (by rw[hd];omega),Array.getElem_reverse]
      simp only[hd]
     rw[hdr,hdc _ _ (by omega) hm]
     have hlt2:(es.length-1-q) * k+r<vs.size:=(Array.getElem?_eq_some_iff.1 x1).1
     rw[getElem!_pos vs _ hlt2,← x1,Array.getElem?_eq_getElem hlt2])
    (fun b' hb'=>by rw[g1] at hb';simp only[blockOf] at hb';cases hb';exact .inr hown)
   rw[hupd] at hput
   exact⟨_,_,_,S,φ,rfl,hK,ret.mono (fun _ h=>h) hc (fun _=>Loc.le_refl _),hput.1,hput.2⟩
end Go.Abs
namespace Go.Proofs.YtpamokpmlplopaaGreatDoor
open Go.Abs
set_option maxRecDepth 20000
set_option linter.unusedSimpArgs false
set_option linter.unusedVariables false
set_option maxHeartbeats 1000000
attribute [local irreducible] vc vcOps vcStep vcGuard prK hrK gK gsK brK callK ElemK SeqK BlockK ScopeK OpsK CallK LoopK LoopGo finPost ACall PCall PCallE BCall vqOps vqStep vqGuard qrK heK pcK gqK gqsK QOpsK qcallK DrawK
theorem few_e (e:Ex) (he:(parts e).length≤100000):PCallE Tryz.prog 55 [e.enc] (fun r=>∃ b:Bool,r=.b b∧(b=true→∀ x∈parts e,x.name.size≤200∧∀ a∈x.arms,a.size≤100)):=by
 refine pcallE_of_vc tabOK Tryz.func55 (by kernel_rfl) rfl (pure_cons (pure_enc e) pure_nil) (n:=50) rfl (rs:=[.tmp 2]) rfl ?_
 repeat' first
  | exact finB rfl
  | exact finI rfl
  | exact finP rfl
  | exact absurd rfl (by assumption)
  | simp only[go_sem]
  | (intro _)
  | refine brK_dec (fun _=>?_) (fun _=>?_)
  | refine brK_any ?_ ?_
  | refine gK_dec (fun _=>?_) (fun _=>?_)
  | refine gK_any ?_ ?_
  | refine gqK_dec (fun _=>?_) (fun _=>?_)
  | refine⟨by omega,?_⟩
  | refine elemHave (by omega) (by assumption) ?_
  | refine elemMap (by omega) (by omega) (fun x hx=>?_)
  | refine drawK mo (by kernel_rfl) ?_
  | (exact finBk (K:=fun b=>b=true→∀ x∈parts e,x.name.size≤200∧∀ a∈x.arms,a.size≤100) rfl (fun _=>take_full hpi (by omega)))
  | (exact finBk (K:=fun b=>b=true→∀ x∈parts e,x.name.size≤200∧∀ a∈x.arms,a.size≤100) rfl (by intro h;cases h))
  | (refine PCall.call (parts_spec _ he) ?_)
  | exact loopGo _ (by omega) ⟨i+1,by omega,rfl,(take_all hpi (by assumption) ⟨by omega,take_full hpk (by omega)⟩),(.next rfl (by omega) (.cons rfl (.cons rfl (.nil rfl)))),rfl⟩
  | (refine loop_rule (fun n s h=>∃(i:Nat),i≤(parts e).length∧n=(parts e).length-i∧(∀ x∈(parts e).take i,x.name.size≤200∧∀ a∈x.arms,a.size≤100)∧Vis 50 [(4,.i i),(1,.ptr 0 0),(3,.lst 6 ((parts e).map Ex.enc) none)] s∧h=eH e) ((parts e).length) ⟨0,by omega,by omega,(by simp),(.cons rfl (.cons rfl (.cons rfl (.nil rfl)))),rfl⟩ ?_;rintro n s h ⟨i,hi,rfl,hpi,hvi,rfl⟩;obtain⟨ji,rfl⟩:=hvi.out)
  | exact loopGo _ (by omega) ⟨k+1,by omega,rfl,(take_all hpk (by assumption) (by omega)),(.next rfl (by omega) (.cons rfl (.cons rfl (.cons rfl (.nil rfl))))),rfl⟩
  | (refine loop_rule (fun n s h=>∃(k:Nat),k≤x.arms.length∧n=x.arms.length-k∧(∀ a∈x.arms.take k,a.size≤100)∧Vis 50 [(5,.i k),(1,.ptr 0 0),(3,.lst 6 ((parts e).map Ex.enc) none),(4,.i i)] s∧h=eH e) (x.arms.length) ⟨0,by omega,by omega,(by simp),(.cons rfl (.cons rfl (.cons rfl (.cons rfl (.nil rfl))))),rfl⟩ ?_;rintro n s h ⟨k,hk,rfl,hpk,hvk,rfl⟩;obtain⟨jk,rfl⟩:=hvk.out)
end Go.Proofs.YtpamokpmlplopaaGreatDoor
namespace Go.Proofs.YtpamokpmlplopaaGreatDoor
open Go.Abs
set_option maxRecDepth 20000
set_option linter.unusedSimpArgs false
set_option linter.unusedVariables false
set_option maxHeartbeats 1000000
attribute [local irreducible] vc vcOps vcStep vcGuard prK hrK gK gsK brK callK ElemK SeqK BlockK ScopeK OpsK CallK LoopK LoopGo finPost ACall PCall PCallE BCall vqOps vqStep vqGuard qrK heK pcK gqK gqsK QOpsK qcallK DrawK
mutual
theorem count_size:∀(e:Ex) (l:Int),0<countF e l→countF e l=l-(parts e).length
 | .mk _ _ _ _ _ s,l=>by
  rw[countF,parts]
  split
  ·
   intro h;omega
  ·
   intro h
   have:=countL_size s (l-1) h
   simp only[List.length_cons]
   omega
theorem countL_size:∀(es:List Ex) (l:Int),0<countL es l→countL es l=l-(partsL es).length
 | [],l=>by rw[countL,partsL];simp
 | x::xs,l=>by
  rw[countL,partsL]
  split
  ·
   intro h
   have h1:=countL_size xs (countF x l) h
   have h3:0<countF x l:=by
    have:=countL_le xs (countF x l)
    omega
   have h2:=count_size x l h3
   simp only[List.length_append]
   omega
  ·
   intro h;omega
end
abbrev okE (e:Ex):Prop:=(parts e).length≤200∧∀ x∈parts e,x.name.size≤200∧∀ a∈x.arms,a.size≤100
theorem small_e (e:Ex):PCallE Tryz.prog 29 [e.enc] (fun r=>∃ b:Bool,r=.b b∧(b=true→okE e)):=by
 refine pcallE_of_vc tabOK Tryz.func29 (by kernel_rfl) rfl (pure_cons (pure_enc e) pure_nil) (n:=10) rfl (rs:=[.tmp 2]) rfl ?_
 have hc:=count_size e 200
 repeat' first
  | exact finB rfl
  | exact finI rfl
  | exact finP rfl
  | exact absurd rfl (by assumption)
  | simp only[go_sem]
  | (intro _)
  | refine brK_dec (fun _=>?_) (fun _=>?_)
  | refine brK_any ?_ ?_
  | refine gK_dec (fun _=>?_) (fun _=>?_)
  | refine gK_any ?_ ?_
  | refine gqK_dec (fun _=>?_) (fun _=>?_)
  | refine⟨by omega,?_⟩
  | refine elemHave (by omega) (by assumption) ?_
  | refine elemMap (by omega) (by omega) (fun x hx=>?_)
  | refine drawK mo (by kernel_rfl) ?_
  | (exact finBk (K:=fun b=>b=true→okE e) rfl (fun hb=>⟨by omega,hr hb⟩))
  | (exact finBk (K:=fun b=>b=true→okE e) rfl (by intro h;cases h))
  | (refine PCall.call (count_spec e 200 (by omega)) ?_)
  | (refine PCallE.call (few_e e (by omega)) (fun r hr=>?_);obtain⟨b,rfl,hr⟩:=hr)
end Go.Proofs.YtpamokpmlplopaaGreatDoor
namespace Go.Abs
open Go.RowKit
def setPs (s:List AV):List Tmp→List AV→List AV
 | t::ts,v::vs=>setPs (s.set t v) ts vs
 | _,_=>s
section
variable {P:Program} {T:TypeId→TI} {S S':Addr→Prop} {φ φ':Nat→Loc} {h h':List Blk} {w w':World}
theorem setPs_list:∀(ps:List Tmp) {s args:List AV} {tmps:Array Value} {vs:List Value},CAll S w φ s tmps→CAll S w φ args vs.toArray→CAll S w φ (setPs s ps args) ((ps.zip vs).foldl (fun t p=>t.setIfInBounds p.1 p.2) tmps)
 | [],s,args,tmps,vs,hs,_=>by simpa[setPs] using hs
 | t::ps,s,[],tmps,vs,hs,ha=>by
  have:vs=[]:=List.length_eq_zero_iff.1 (by simpa using ha.1)
  subst this
  simpa[setPs] using hs
 | t::ps,s,v::args,tmps,[],hs,ha=>by have:=ha.1;simp at this
 | t::ps,s,v::args,tmps,u::vs,hs,ha=>by
  simp only[setPs,List.zip_cons_cons,List.foldl_cons]
  refine setPs_list ps (hs.set t (ha.2 0 v u rfl rfl)) ⟨by have:=ha.1;simpa using this,fun i x y hx hy=>ha.2 (i+1) x y (by simpa using hx) (by simpa using hy)⟩
theorem setPs_all {ps:Array Tmp} {s args:List AV} {tmps vs:Array Value} (hs:CAll S w φ s tmps) (ha:CAll S w φ args vs):CAll S w φ (setPs s ps.toList args) ((ps.zip vs).foldl (fun t (p,v)=>t.setIfInBounds p v) tmps):=by
 have:=setPs_list ps.toList (vs:=vs.toList) hs (by simpa using ha)
 rw[← Array.foldl_toList,Array.toList_zip]
 exact this
theorem lp_put {k l:Nat} {st:LoopState} {pe:Option Code} {ps:Array Tmp} {x y:Code} {s:List AV} (hr:R S φ h w) (hk:h[k]?=some (.lp l st pe ps x y s)) :
  ∃ rec:Loop,w.heap[l]?=some (.loop rec)∧rec.state=st∧rec.pending=pe∧rec.params=ps∧rec.assign=x∧rec.body=y∧CAll S w φ s rec.tmps ∧
   ∀ st' pe',R S (upd φ k (.obj l)) (h.set k (.lp l st' pe' ps x y s)) (w.putObj l (.loop { rec with state:=st',pending:=pe' }))∧Ext S φ h w S (upd φ k (.obj l)) (h.set k (.lp l st' pe' ps x y s)) (w.putObj l (.loop { rec with state:=st',pending:=pe' })):=by
 obtain⟨g1,fn,tmps,D,g2,g3,g4⟩:=hr.blk _ _ hk
 have hlt:=(Array.getElem?_eq_some_iff.1 g2).1
 have hown:blockOf (φ k) (.lp l st pe ps x y s)=some l:=by rw[g1];rfl
 have hoth:∀(o:Obj) b,b≠l→(w.putObj l o).heap[b]?=w.heap[b]?:=fun o b hb=>World.putObj_heap_other hb
 have hle:∀ j,(φ j).le (upd φ k (.obj l) j):=fun j=>by
  by_cases e:j=k
  ·
   subst e;rw[upd_same,g1];rfl
  ·
   rw[upd_other _ e];exact Loc.le_refl _
 refine⟨_,g2,rfl,rfl,rfl,rfl,rfl,g3,fun st' pe'=>?_⟩
 have hcell:∀(o:Obj) c,S c→(w.putObj l o).cell? c=w.cell? c:=fun o c hc=>cell_of_heap (hoth o c.block (g4 c hc))
 exact hr.put (k:=k) (x:=.lp l st' pe' ps x y s) (l:=.obj l) (S':=S) hk rfl rfl rfl (by simp) (fun b _ hne=>hoth _ b (fun e=>hne (by rw[hown,e]))) (fun _ h=>h) (hcell _) (fun _ h=>.inl h) (fun c hc=>by have:=hr.bnd c hc;simpa using this) (by rw[g1];rfl)
  ⟨upd_same _ _ _,fn,tmps,D,World.putObj_heap_same hlt,g3.mono (fun _ h=>h) (hcell _) hle,g4⟩ (fun b hb=>by cases hb;exact .inr hown)
def roundB (l k:Nat) (ps:Array Tmp) (x y:Code) (s:List AV) (K:AV→List Blk→Prop):Post:=fun e _ h2 =>
 h2[k]?=some (.lp l .busy none ps x y s)∧match e with
  | .normal=>K (.raw (.bool true)) (h2.set k (.lp l .ready none ps x y s))
  | .ret=>K (.raw (.bool false)) (h2.set k (.lp l .done (some .ret) ps x y s))
  | .exit id=>K (.raw (.bool false)) (h2.set k (.lp l .done (some (.exit id)) ps x y s))
  | .goto _=>False
def roundA (P:Program) (T:TypeId→TI) (l k:Nat) (ps:Array Tmp) (x y:Code) (s:List AV) (K:AV→List Blk→Prop):Post:=fun e s1 h1=>match e with
 | .normal=>h1[k]?=some (.lp l .ready none ps x y s)∧vc P T y (roundB l k ps x y s K) s1 (h1.set k (.lp l .busy none ps x y s))
 | _=>False
set_option maxHeartbeats 1000000 in
theorem ycall_of_vc (hT:TabOK P T) {l k:Nat} {ps:Array Tmp} {x y:Code} {s args:List AV} {K:AV→List Blk→Prop} (hk:h[k]?=some (.lp l .ready none ps x y s)) (hl:args.length=ps.size) (hx:noR x=true) (hy:noR y=true)
  (hv:vc P T x (roundA P T l k ps x y s K) (setPs s ps.toList args) h):YCall P l args h K:=by
 intro S φ w vs hr hargs
 obtain⟨rec,g1,g2,g3,g4,g5,g6,g7,_⟩:=lp_put hr hk
 have hrun:=run_yield (P:=P) (args:=vs) g1 (by rw[g4,hargs.1,hl])
 refine⟨_,_,_,_,hrun,roundIn_of_wpIn trivial ?_⟩
 rw[g4,g5,g6]
 refine wpIn_mono (vc_soundIn (ro:=some l) (n0:=w.heap.size) hT x (fun _=>hx) hv (MK.nil (Nat.le_refl _)) (setPs_all g7 hargs) hr) ?_
 rintro e a1 w1 ⟨xx,hxx,s1,h1,S1,φ1,hK1,hd1,hs1,hr1,he1⟩
 cases e<;>simp only[exitOf] at hxx<;>cases hxx
 ·
  obtain⟨hk1,hv1⟩:=hK1
  obtain⟨rec1,f1,f2,f3,f4,f5,f6,f7,f8⟩:=lp_put hr1 hk1
  have hbr:=run_beginRound (P:=P) f1 f2
  have e1:({ rec1 with state:=.busy }:Loop)={ rec1 with state:=.busy,pending:=none }:=by rw[← f3]
  rw[e1] at hbr
  obtain⟨m1,m2⟩:=f8 .busy none
  refine⟨_,hbr,?_⟩
  refine wpIn_mono (vc_soundIn (ro:=some l) (n0:=w.heap.size) hT y (fun _=>hy) hv1 (hd1.ext m2) (m2.CAll hs1) m1) ?_
  rintro e a2 w2 ⟨xx,hxx,s2,h2,S2,φ2,hK2,hd2,hs2,hr2,he2⟩
  obtain⟨hk2,hK2⟩:=hK2
  obtain⟨rec2,p1,p2,p3,p4,p5,p6,p7,p8⟩:=lp_put hr2 hk2
  have hee:=(he1.trans m2).trans he2
  have fin:∀(jump:Option Code),∃ w3,(Instr.endRound l jump).run P w2=.ok (.bool jump.isNone) w3∧R S2 (upd φ2 k (.obj l)) (h2.set k (.lp l (if jump.isNone then .ready else .done) jump ps x y s)) w3∧Ext S φ h w S2 (upd φ2 k (.obj l)) (h2.set k (.lp l (if jump.isNone then .ready else .done) jump ps x y s)) w3:=fun jump=>by
   obtain⟨n1,n2⟩:=p8 (if jump.isNone then .ready else .done) jump
   exact⟨_,run_endRound (P:=P) jump p1,n1,hee.trans n2⟩
  cases e<;>simp only[exitOf] at hxx<;>cases hxx
  ·
   obtain⟨w3,q1,q2,q3⟩:=fin none
   exact⟨_,w3,q1,_,_,_,S2,_,rfl,hK2,.raw _,q2,q3⟩
  ·
   rename_i id
   obtain⟨w3,q1,q2,q3⟩:=fin (some (.exit id))
   exact⟨_,w3,q1,_,_,_,S2,_,rfl,hK2,.raw _,q2,q3⟩
  ·
   exact hK2.elim
  ·
   obtain⟨w3,q1,q2,q3⟩:=fin (some .ret)
   exact⟨_,w3,q1,_,_,_,S2,_,rfl,hK2,.raw _,q2,q3⟩
 ·
  exact hK1.elim
 ·
  exact hK1.elim
 ·
  exact hK1.elim
end
end Go.Abs
namespace Go.Abs
open Go
theorem swap_sound {S S':Addr→Prop} {φ φ':Nat→Loc} {w w':World} {h h1 junk:List Blk} {e:TypeId} {sz n k:Nat} (hr:R S φ h w) (hr':R S' φ' (h1++junk) w') (he:Ext S φ h w S' φ' (h1++junk) w') (hc:Chg h.length h h1)
  (hk:(h1++junk)[k]?=some (.tok e sz n)) (hkl:h.length≤k) :
  let φ'':Nat→Loc:=fun j=>if j<h.length then φ' j else if j=h.length then φ' k else .no
  R S' φ'' (h1++[.tok e sz n]) w'∧Ext S φ h w S' φ'' (h1++[.tok e sz n]) w':=by
 intro φ''
 obtain⟨hl,hat⟩:=hc.at
 have hf:∀ j,j<h.length→φ'' j=φ' j:=fun j hj=>by simp only[φ''];rw[if_pos hj]
 have hmid:φ'' h.length=φ' k:=by simp[φ'']
 have hno:∀ j,h.length<j→φ'' j=.no:=fun j hj=>by simp only[φ''];rw[if_neg (by omega),if_neg (by omega)]
 have hle:∀ j,(φ j).le (φ'' j):=by
  intro j
  rcases Nat.lt_or_ge j h.length with g|g
  ·
   rw[hf j g];exact he.loc j
  ·
   rw[hr.fresh j g];trivial
 have hin:∀(j:Nat) y,(h1++[Blk.tok e sz n])[j]?=some y→(j<h.length∧h1[j]?=some y∧(h1++junk)[j]?=some y)∨(j=h.length∧y=.tok e sz n):=by
  intro j y hj
  rcases Nat.lt_or_ge j h1.length with g|g
  ·
   rw[List.getElem?_append_left g] at hj
   exact .inl ⟨by omega,hj,by rw[List.getElem?_append_left g];exact hj⟩
  ·
   rw[List.getElem?_append_right g] at hj
   have:j-h1.length=0:=by
    rcases Nat.eq_zero_or_pos (j-h1.length) with q|q
    ·
     exact q
    ·
     rw[List.getElem?_eq_none (by simp;omega)] at hj;cases hj
   rw[this] at hj
   simp at hj
   exact .inr ⟨by omega,hj.symm⟩
 have hlow:∀(j:Nat) y,h1[j]?=some y→BlwBlk h.length y:=by
  intro j y hj
  rcases hat j y hj with g|g
  ·
   exact RB.blw (fun i hi=>hr.fresh i hi) (hr.blk j _ g)
  ·
   exact g
 have hown:∀ b,Owns φ'' (h1++[.tok e sz n]) b→Owns φ' (h1++junk) b:=by
  rintro b ⟨j,x,hj,hb⟩
  rcases hin j x hj with ⟨g1,_,g2⟩|⟨rfl,rfl⟩
  ·
   exact⟨j,x,g2,by rw[← hf j g1];exact hb⟩
  ·
   exact⟨k,_,hk,by rw[← hmid];exact hb⟩
 refine⟨⟨fun j x hj=>?_,fun j j' x x' b hj hj' hb hb'=>?_,hr'.bnd,fun j hj=>hno j (by simp at hj;omega),fun x hx=>⟨(hr'.tab x hx).1,fun o=>(hr'.tab x hx).2 (hown _ o)⟩⟩,⟨he.os,he.tape,he.output,he.size,he.keep,he.sub,he.cell,hle,he.new,fun b hb=>he.own b (hown b hb)⟩⟩
 ·
  rcases hin j x hj with ⟨g1,g3,g2⟩|⟨rfl,rfl⟩
  ·
   exact RB.low hf g1 (hr'.blk j x g2) (hlow j x g3)
  ·
   obtain⟨u,q1,q2⟩:=hr'.blk k _ hk
   exact⟨u,by rw[hmid];exact q1,q2⟩
 ·
  rcases hin j x hj with ⟨g1,_,g2⟩|⟨rfl,rfl⟩
  ·
   rw[hf j g1] at hb
   rcases hin j' x' hj' with ⟨q1,_,q2⟩|⟨rfl,rfl⟩
   ·
    rw[hf j' q1] at hb'
    exact hr'.inj j j' x x' b g2 q2 hb hb'
   ·
    rw[hmid] at hb'
    have:=hr'.inj j k x _ b g2 hk hb hb'
    omega
  ·
   rw[hmid] at hb
   rcases hin j' x' hj' with ⟨q1,_,q2⟩|⟨rfl,rfl⟩
   ·
    rw[hf j' q1] at hb'
    have:=hr'.inj k j' _ x' b hk q2 hb hb'
    omega
   ·
    rfl
section
variable {P:Program} {T:TypeId→TI} {s:List AV} {h:List Blk} {c:Code}
def FinT (T:TypeId→TI) (rs:List ResultVar) (h:List Blk) (e:TypeId) (sz:Nat) (l:List AV) (K:AV→List Blk→Prop) (s:List AV) (h':List Blk):Prop :=
 ∃ h1 junk k,resAV T s h' rs=some [.lst sz l (some k)]∧h'=h1++junk∧Chg h.length h h1∧h.length≤k∧h'[k]?=some (.tok e sz l.length)∧(∀ c∈flat l,Blw h.length c) ∧
  K (.lst sz l (some h.length)) (h1++[.tok e sz l.length])
theorem acallT_of_vc (hT : TabOK P T) {f : FuncId} {fn : Func} (hf : P.funcs[f]? = some fn) (hname : (fn.name == "runtime.NumGoroutine") = false) (hb : fn.body = some c) {args : List AV} {K : AV → List Blk → Prop}
  {n:Nat} (hn:fn.ntmps=n) {rs:List ResultVar} (hrs:fn.results.toList=rs) {e:TypeId} {sz:Nat} {l:List AV}
  (hv:vc P T c (finPost (FinT T rs h e sz l K)) (args++List.replicate (n-args.length) (.tup [])) h):ACall P f args h K:=by
 intro S φ w vs hr hargs
 refine⟨run_callFunc hf hname (by rw[hb];rfl) vs w,?_⟩
 have htmps:CAll S w φ (args++List.replicate (n-args.length) (.tup [])) (vs++Array.replicate (fn.ntmps-vs.size) undef):=by
  refine hargs.append ⟨by rw[Array.size_replicate,List.length_replicate,hn,hargs.1],fun i x v hx hv=>?_⟩
  rw[List.getElem?_replicate] at hx
  rw[Array.getElem?_replicate] at hv
  split at hx
  ·
   split at hv
   ·
    cases hx;cases hv;exact C.undef_
   ·
    cases hv
  ·
   cases hx
 refine calls_of_vc hT hf hb hv htmps hr ?_
 intro tmps s' h' S' φ' w' hG hs' hr' he
 revert hG
 rintro⟨h1,junk,k,hl,rfl,hchg,hkl,hk,hbl,hKr⟩
 obtain⟨k1,k2⟩:=swap_sound hr hr' he hchg hk hkl
 have g3:=results_plain hT hs' hr' (fn:=fn) (a:={ tmps:=tmps,defers:=[] }) (by rw[hrs];exact hl)
 obtain⟨v',e1,e2⟩:=g3
 refine⟨v',e1,v',_,_,S',_,rfl,hKr,?_,k1,k2⟩
 have hlow:∀ j,j<h.length→(fun j=>if j<h.length then φ' j else if j=h.length then φ' k else Loc.no) j=φ' j:=fun j hj=>by simp[hj]
 have e3:C S' w' φ' (.lst sz l (some k)) v':=e2
 cases e3 with
 | lst _ _ _ a len cap u hlen hcap hmax hsz hm hc h1' ht =>
  exact .lst sz l _ a len cap u hlen hcap hmax hsz hm (fun j c hj=>Blw.C hlow (hc j c hj) (hbl c (List.mem_of_getElem? hj))) h1' (by simpa[TokOK] using ht)
 | lstnil _ _ ht=>exact .lstnil _ _ (by simpa[TokOK] using ht)
theorem ghost_tok (t:Nat) (e:TypeId) (sz:Nat) (ht:s[t]?=some (.raw (.slice none 0 0))):Ghost s h (s.set t (.lst sz [] (some h.length))) (h++[.tok e sz 0]):=by
 intro S φ w vs hs hr
 obtain⟨k1,k2⟩:=hr.push (l:=.tok 0 (.slice none 0 0)) (x:=.tok e sz 0) (S':=S) (w':=w) rfl rfl rfl (Nat.le_refl _) (fun _ _=>rfl) (fun _ h=>h) (fun _ h=>.inl h) hr.bnd
  ⟨_,upd_same _ _ _,.inl ⟨rfl,rfl⟩⟩ (fun b hb=>by simp[blockOf] at hb)
 refine⟨S,_,?_,k1,k2⟩
 have hs':=k2.CAll hs
 obtain⟨v,hv,hc⟩:=hs.at ht
 cases hc
 have:=hs'.set t (C.lstnil (S:=S) (w:=w) sz (some h.length) ⟨_,_,upd_same _ _ _,Nat.le_refl _,fun _=>rfl⟩)
 have e:vs.setIfInBounds t (.slice none 0 0)=vs:=by
  apply Array.ext
  ·
   simp
  ·
   intro i h1 h2
   by_cases ei:t=i
   ·
    subst ei
    have hv':vs[t]=.slice none 0 0:=by
     rw[Array.getElem?_eq_getElem h2] at hv
     exact Option.some.inj hv
    simp[hv']
   ·
    simp[h2,ei]
 rw[e] at this
 exact this
theorem R.recell {S:Addr→Prop} {φ:Nat→Loc} {w:World} {k:Nat} {t:TypeId} {cs cs':List AV} (r:R S φ h w) (hk:h[k]?=some (.cells t cs)) (hc:∀ vs,CAll S w φ cs vs→CAll S w φ cs' vs) :
  R S φ (h.set k (.cells t cs')) w∧Ext S φ h w S φ (h.set k (.cells t cs')) w:=by
 have hkl:k<h.length:=by obtain⟨a,_⟩:=List.getElem?_eq_some_iff.1 hk;exact a
 have hin:∀(j:Nat) x,(h.set k (.cells t cs'))[j]?=some x→(j=k∧x=.cells t cs')∨(j≠k∧h[j]?=some x):=by
  intro j x hj
  rw[List.getElem?_set] at hj
  split at hj
  ·
   rename_i e
   subst e
   cases hj
   exact .inl ⟨rfl,rfl⟩
  ·
   exact .inr ⟨fun e=>by subst e;contradiction,hj⟩
 have hback:∀(j:Nat) x b,(h.set k (.cells t cs'))[j]?=some x→blockOf (φ j) x=some b→∃ y,h[j]?=some y∧blockOf (φ j) y=some b:=by
  intro j x b hj hb
  rcases hin j x hj with ⟨rfl,rfl⟩|⟨_,g⟩
  ·
   refine⟨_,hk,?_⟩
   cases hl:φ j<;>rw[hl] at hb<;>simp[blockOf] at hb ⊢<;>exact hb
  ·
   exact⟨x,g,hb⟩
 refine⟨⟨fun j x hj=>?_,fun j j' x x' b hj hj' hb hb'=>?_,r.bnd,fun j hj=>r.fresh j (by simpa using hj),fun x hx=>⟨(r.tab x hx).1,fun⟨j,y,hj,hb⟩=>by
  obtain⟨z,g1,g2⟩:=hback j y _ hj hb
  exact(r.tab x hx).2 ⟨j,z,g1,g2⟩⟩⟩,⟨rfl,rfl,rfl,Nat.le_refl _,fun _ _ _=>rfl,fun _ h=>h,fun _ _=>rfl,fun _=>Loc.le_refl _,fun _ h=>.inl h,?_⟩⟩
 ·
  rcases hin j x hj with ⟨rfl,rfl⟩|⟨_,g⟩
  ·
   obtain⟨b,vs,h1,h2,h3,h4,h5⟩:=r.blk j _ hk
   exact⟨b,vs,h1,h2,hc vs h3,h4,h5⟩
  ·
   exact r.blk j x g
 ·
  obtain⟨y,g1,g2⟩:=hback j x b hj hb
  obtain⟨y',g3,g4⟩:=hback j' x' b hj' hb'
  exact r.inj j j' y y' b g1 g3 g2 g4
 ·
  rintro b ⟨j,x,hj,hb⟩
  obtain⟨y,g1,g2⟩:=hback j x b hj hb
  exact .inl ⟨j,y,g1,g2⟩
theorem CAll.nil_tok {S:Addr→Prop} {φ:Nat→Loc} {w:World} {m i:Nat} {cs:List AV} {vs:Array Value} (sz:Nat) (hs:CAll S w φ cs vs) (ht:cs[i]?=some (.raw (.slice none 0 0))) (hm:TokOK φ (some m) 0 (.slice none 0 0)):CAll S w φ (cs.set i (.lst sz [] (some m))) vs:=by
 obtain⟨v,hv,hc⟩:=hs.at ht
 cases hc
 have:=hs.set i (C.lstnil (S:=S) (w:=w) sz (some m) hm)
 have e:vs.setIfInBounds i (.slice none 0 0)=vs:=by
  apply Array.ext
  ·
   simp
  ·
   intro j h1 h2
   by_cases ei:i=j
   ·
    subst ei
    have hv':vs[i]=.slice none 0 0:=by
     rw[Array.getElem?_eq_getElem h2] at hv
     exact Option.some.inj hv
    simp[hv']
   ·
    simp[h2,ei]
 rw[e] at this
 exact this
theorem ghost_cell (k i:Nat) (e:TypeId) (sz:Nat) {t:TypeId} {cs:List AV} (hk:h[k]?=some (.cells t cs)) (ht:cs[i]?=some (.raw (.slice none 0 0))) :
  Ghost s h s ((h++[Blk.tok e sz 0]).set k (Blk.cells t (cs.set i (.lst sz [] (some h.length))))):=by
 intro S φ w vs hs hr
 obtain⟨k1,k2⟩:=hr.push (l:=.tok 0 (.slice none 0 0)) (x:=.tok e sz 0) (S':=S) (w':=w) rfl rfl rfl (Nat.le_refl _) (fun _ _=>rfl) (fun _ h=>h) (fun _ h=>.inl h) hr.bnd
  ⟨_,upd_same _ _ _,.inl ⟨rfl,rfl⟩⟩ (fun b hb=>by simp[blockOf] at hb)
 obtain⟨q1,q2⟩:=k1.recell (k:=k) (t:=t) (cs:=cs) (cs':=cs.set i (.lst sz [] (some h.length)))
  (by rw[List.getElem?_append_left (by obtain⟨a,_⟩:=List.getElem?_eq_some_iff.1 hk;exact a)];exact hk)
  (fun vs hc=>hc.nil_tok sz ht ⟨_,_,upd_same _ _ _,Nat.le_refl _,fun _=>rfl⟩)
 exact⟨S,_,q2.CAll (k2.CAll hs),q1,k2.trans q2⟩
theorem tcall {f:FuncId} {args:List AV} {e:TypeId} {sz:Nat} {l:List AV} {K:AV→List Blk→Prop} (hv:∀ KK:AV→List Blk→Prop,KK (.lst sz l (some 0)) [.tok e sz l.length]→ACall P f args [] KK)
  (pa:∀ x∈args,Pure x) (pl:∀ c∈flat l,Pure c) (hK:K (.lst sz l (some h.length)) (h++[.tok e sz l.length])):ACall P f args h K:=by
 intro S φ w vs hr hargs
 obtain⟨henter,hcalls⟩:=hv (fun r h'=>r=.lst sz l (some 0)∧h'=[.tok e sz l.length]) ⟨rfl,rfl⟩ S (fun _=>.no) w vs (R.nil hr.bnd hr.tab.bare) (hargs.pure _ pa)
 refine⟨henter,Calls.mono hcalls ?_⟩
 rintro e' w' ⟨v,r,h',S',φ',rfl,⟨rfl,rfl⟩,hc,hr',he⟩
 obtain⟨u,q1,q2⟩:=hr'.blk 0 _ rfl
 obtain⟨k1,k2⟩:=hr.push (l:=φ' 0) (x:=.tok e sz l.length) he.os he.tape he.output he.size (fun b hb=>he.keep b hb no_owns) he.sub (fun a ha=>(he.new a ha).imp_right (fun x=>x.resolve_right no_owns)) hr'.bnd
  ⟨u,by rw[upd_same,q1],q2⟩ (fun b hb=>(he.own b ⟨0,_,rfl,hb⟩).resolve_left no_owns)
 refine⟨v,_,_,S',_,rfl,hK,?_,k1,k2⟩
 cases hc with
 | lst _ _ _ a len cap u hlen hcap hmax hsz hm hc h1' ht =>
  exact .lst sz l _ a len cap u hlen hcap hmax hsz hm (fun j c hj=>(hc j c hj).pure _ (pl c (List.mem_of_getElem? hj))) h1' (by simpa[TokOK,upd_same] using ht)
 | lstnil _ _ ht=>exact .lstnil _ _ (by simpa[TokOK,upd_same] using ht)
theorem finTk {rs:List ResultVar} {e:TypeId} {sz:Nat} {l l0:List AV} {k n:Nat} {h':List Blk} {KK:AV→List Blk→Prop} (hk0:KK (.lst sz l (some 0)) [.tok e sz l.length]) (hl:resAV T s h' rs=some [.lst sz l0 (some k)]) (hll:l0=l) (hk:h'[k]?=some (.tok e sz n)) (hn:n=l.length)
  (hb:∀ c∈flat l,Go.Abs.Pure c):FinT T rs [] e sz l KK s h':=by
 subst hll hn
 exact⟨[],h',k,hl,rfl,.refl _ _,Nat.zero_le _,hk,fun c hc=>Blw.pure (hb c hc),hk0⟩
attribute [irreducible] FinT
end
end Go.Abs
namespace Go.Proofs.YtpamokpmlplopaaGreatDoor
open Go.Abs
set_option maxRecDepth 20000
set_option linter.unusedSimpArgs false
set_option linter.unusedVariables false
set_option maxHeartbeats 1000000
attribute [local irreducible] vc vcOps vcStep vcGuard prK hrK gK gsK brK callK ElemK SeqK BlockK ScopeK OpsK CallK LoopK LoopGo finPost ACall PCall PCallE BCall vqOps vqStep vqGuard qrK heK pcK gqK gqsK QOpsK qcallK DrawK
def layRevD_ren:Go.Shelf.Ren:=⟨fun|35=>209|n=>n,fun|22=>65|23=>77|3=>3|4=>4|0=>0|n=>n,fun|n=>n⟩
theorem layRevD:Go.Proofs.SlLaysE0.n35 Tryz.prog layRevD_ren:={
 mixed:=by kernel_rfl
 f35:=⟨Tryz.f209.name,by decide,Tryz.func209.trans (congrArg some (by kernel_rfl))⟩
 t0:=Tryz.underlying0
 a0:=Tryz.isAgg0
 z0:=Tryz.sizeOf0
 v0:=Tryz.zeroValue0
 t3:=Tryz.underlying3
 a3:=Tryz.isAgg3
 z3:=Tryz.sizeOf3
 v3:=Tryz.zeroValue3
 t4:=Tryz.underlying4
 a4:=Tryz.isAgg4
 z4:=Tryz.sizeOf4
 v4:=Tryz.zeroValue4
 t22:=Tryz.underlying65
 a22:=Tryz.isAgg65
 z22:=Tryz.sizeOf65
 v22:=Tryz.zeroValue65 }
theorem reverseD {es:List AV} {kk n:Nat} {h:List Blk} {K:AV→List Blk→Prop} (hn:n=es.length) (hk:h[kk]?=some (.own 77 6 es)) (hK:K (.tup []) (h.set kk (.own 77 6 es.reverse))) :
  ACall Tryz.prog 209 [.own 6 kk n] h K:=by
 subst hn
 exact own_reverse (by decide) (fun vs w=>run_callFunc Tryz.func209 (by kernel_rfl) rfl vs w)
  (fun blk cap d w hH hsz=>Go.Proofs.AnyQ.slices_Reverse layRevD 6 Tryz.isAgg77 Tryz.sizeOf77 (fun x:Cells 6=>x.1) (fun x=>x.2.1) (fun x=>x.2.2) blk 0 cap d w hH hsz)
  (fun a cap w=>Go.Proofs.AnyQ.slices_Reverse_empty layRevD a cap w) hk hK
def mineK (k:Int) (m:ByteArray):List ByteArray:=if k=3∨k=11∨k=12 then [m] else []
def keepK (k:Int) (s:List Ex):List Ex:=if k=10 then [] else if k=8 then s.take 1 else s
mutual
def readsF:Ex→List ByteArray
 | .mk k _ m _ _ s=>mineK k m++(if k=10 then [] else if k=8 then readsH s else readsL s)
def readsH:List Ex→List ByteArray
 | []=>[]
 | x::_=>readsF x
def readsL:List Ex→List ByteArray
 | []=>[]
 | x::xs=>readsF x++readsL xs
end
theorem readsF_eq (e:Ex):readsF e=mineK e.kind e.name++readsL (keepK e.kind e.subs):=by
 cases e with
 | mk k n m o a s =>
  simp only[readsF,Ex.kind,Ex.name,Ex.subs,keepK]
  by_cases h1:k=10
  ·
   simp[h1,readsL]
  ·
   by_cases h2:k=8
   ·
    cases s<;>simp[h2,readsH,readsL]
   ·
    simp[h1,h2]
theorem readsL_append (l m:List Ex):readsL (l++m)=readsL l++readsL m:=by
 induction l with
 | nil=>simp[readsL]
 | cons x l ih=>simp[readsL,ih]
theorem readsL_take {l:List Ex} {k:Nat} (h:k<l.length):readsL (l.take (k+1))=readsL (l.take k)++readsF l[k]:=by
 rw[List.take_succ_eq_append_getElem h,readsL_append]
 simp[readsL]
theorem readsL_le {l:List Ex} {k:Nat}:(readsL (l.take k)).length≤(readsL l).length:=by
 have:readsL l=readsL (l.take k)++readsL (l.drop k):=by rw[← readsL_append,List.take_append_drop]
 rw[this];simp
theorem reads_le {l:List Ex} {k:Nat} (h:k<l.length):(readsF l[k]).length≤(readsL l).length:=by
 have h1:=readsL_take h
 have h2:=readsL_le (l:=l) (k:=k+1)
 rw[h1] at h2
 simp at h2
 omega
theorem keep_le (k:Int) (s:List Ex):(keepK k s).length≤s.length:=by
 unfold keepK
 split
 ·
  simp
 ·
  split
  ·
   simp;omega
  ·
   exact Nat.le_refl _
theorem keep_at {k:Int} {s:List Ex} {i:Nat} (h:i<(keepK k s).length):(keepK k s)[i]=s[i]'(Nat.lt_of_lt_of_le h (keep_le k s)):=by
 unfold keepK at h ⊢
 split
 ·
  simp[*] at h
 ·
  split
  ·
   simp
  ·
   rfl
theorem keep_end {k:Int} {s:List Ex} {i:Nat} (h:k=10∨(k=8∧(i:Int)>0)∨¬ (i:Int)<s.length):(keepK k s).length≤i:=by
 unfold keepK
 split
 ·
  simp
 ·
  split
  ·
   simp;omega
  ·
   omega
theorem keep_go {k:Int} {s:List Ex} {i:Nat} (h1:¬ k=10) (h2:¬ k=8∨¬ (i:Int)>0) (h3:(i:Int)<s.length):i<(keepK k s).length:=by
 unfold keepK
 split
 ·
  contradiction
 ·
  split
  ·
   simp;omega
  ·
   omega
theorem reads43:∀(e:Ex),(readsF e).length≤100000→PCall Tryz.prog 193 [e.enc] (.lst 1 ((readsF e).map AV.s) none):=by
 intro e
 induction e using Ex.ind with
 | _ e ih =>
 intro hl
 refine pcall_of_vc tabOK Tryz.func193 (by kernel_rfl) rfl pureL pureI (n:=52) rfl (rs:=[.tmp 2]) rfl ?_
 rw[readsF_eq] at hl ⊢
 repeat' first|simp only[go_sem]|refine⟨by omega,?_⟩|refine brK_dec (fun _=>?_) (fun _=>?_)|refine gqK_dec (fun _=>?_) (fun _=>?_)|refine gK_dec (fun _=>?_) (fun _=>?_)
 all_goals
  refine loop_fr [3,4,24,25,26,27,28,29,30,31,32,33,34,35,36,37,38,39,40,41,42,43,44,45,46,47,48,49,50] (fun m C h=>∃(i:Nat) (r:List Blk),i≤e.subs.length∧m=e.subs.length-i ∧
   C=[(4,.raw (.int .i64 (i:Nat))),(3,.lst 1 ((mineK e.kind e.name++readsL ((keepK e.kind e.subs).take i)).map AV.s) (some 1))] ∧
   h=.cells 72 [.i e.kind,.i e.n,.s e.name,.i e.op,.lst 1 (e.arms.map AV.s) none,.lst 6 (e.subs.map Ex.enc) none]::.tok 9 1 (mineK e.kind e.name++readsL ((keepK e.kind e.subs).take i)).length::r)
   (e.subs.length) _ ⟨0,_,by omega,rfl,rfl,by simp[mineK,readsL, *];rfl⟩ (.cons rfl (.cons (by simp[mineK,readsL, *]) .nil)) ?_
  rintro m C j h ⟨i,r,hi,rfl,rfl,rfl⟩
  simp only[go_sem]
  have hkl:=keep_le e.kind e.subs
  repeat' first|simp only[go_sem]|(intro _)|refine⟨by omega,?_⟩|refine brK_dec (fun _=>?_) (fun _=>?_)|refine gqK_dec (fun _=>?_) (fun _=>?_)|refine gK_dec (fun _=>?_) (fun _=>?_)
  all_goals first
   | (rw[List.take_of_length_le (keep_end (by omega))];exact⟨_,rfl,false,.tok _ _ _⟩)
   | (have hend:(keepK e.kind e.subs).length≤i:=keep_end (by omega)
      exact loopFr (e.subs.length-(i+1)) (by omega) ⟨i+1,r,by omega,rfl,rfl,by rw[List.take_of_length_le hend,List.take_of_length_le (by omega)]⟩ (.next rfl (by omega) (.cons (by rw[List.take_of_length_le hend,List.take_of_length_le (by omega)];rfl) .nil)) rfl)
   | (have hlt:i<(keepK e.kind e.subs).length:=keep_go (by assumption) (by first|exact Or.inl (by assumption)|exact Or.inr (by assumption)) (by assumption)
      have hlt':i<e.subs.length:=by omega
      have h1:=reads_le hlt
      have h2:=readsL_le (l:=keepK e.kind e.subs) (k:=i+1)
      have h3:=readsL_take hlt
      rw[keep_at hlt] at h1 h3
      have hl':=hl
      rw[h3] at h2
      simp only[List.length_append] at hl' h1 h2
      refine elemK (e.subs[i]).enc (by omega) (map_at _ (List.getElem?_eq_getElem hlt')) ?_
      simp only[go_sem]
      refine PCall.call (ih e.subs[i] (List.getElem_mem _) (by omega)) ?_
      simp only[go_sem]
      refine⟨by omega,?_⟩
      refine loopFr (e.subs.length-(i+1)) (by omega) ⟨i+1,r,by omega,rfl,rfl,?_⟩ (.next rfl (by omega) (.cons ?_ .nil)) rfl
      ·
       rw[h3];simp[slot];try omega
      ·
       rw[h3];simp[slot])
end Go.Proofs.YtpamokpmlplopaaGreatDoor
