/-
  CaA, NmS1: put together.
-/
import Derived.Test.YtpamokpmlplopaaGreatDoorUniBb
namespace Go.Proofs.YtpamokpmlplopaaGreatDoor
open Go.Abs
set_option maxRecDepth 20000
set_option linter.unusedSimpArgs false
set_option linter.unusedVariables false
set_option maxHeartbeats 1000000
attribute [local irreducible] vc vcOps vcStep vcGuard prK hrK gK gsK brK callK ElemK SeqK BlockK ScopeK OpsK CallK LoopK LoopGo finPost ACall PCall PCallE BCall vqOps vqStep vqGuard qrK heK pcK gqK gqsK QOpsK qcallK DrawK
theorem readyF_pl {N H:List (List ByteArray)} {pl:List Bool} {i:Nat} (h:readyF N H pl i=true) {hs:List ByteArray} (hh:H[i]?=some hs):∀ s∈hs,waitsF N pl s=false:=by
 unfold readyF at h
 rw[Bool.and_eq_true] at h
 have h2:=h.2
 rw[List.getD_eq_getElem?_getD,hh] at h2
 intro s hs'
 have:=List.all_eq_true.1 h2 s hs'
 simpa using this
def AheadP (N H:List (List ByteArray)) (l:List Nat):Prop:=∀(t i:Nat),l[t]?=some i→i<N.length∧∀ hs,H[i]?=some hs→∀ s∈hs,∀(j:Nat) ns,N[j]?=some ns→s∈ns→j∈l.take t
theorem order_ahead {N H:List (List ByteArray)}:∀(k:Nat) (pl:List Bool) (out:List Nat),pl.length=N.length→(∀ j:Nat,pl[j]?=some true→j∈out)→AheadP N H out→AheadP N H (orderG N H k pl out).1∧(orderG N H k pl out).1.length≤out.length+k∧((orderG N H k pl out).2=true→(orderG N H k pl out).1.length=out.length+k)∧((orderG N H k pl out).2=false→(orderG N H k pl out).1.length<out.length+k)
 | 0,pl,out,hl,hpl,hP=>by
  rw[orderG]
  exact⟨hP,by simp,by simp,by simp⟩
 | k+1,pl,out,hl,hpl,hP=>by
  rw[orderG]
  cases hq:pickF N H pl 0 N.length with
  | none=>exact⟨hP,by simp,by simp,by simp⟩
  | some i =>
   obtain⟨hi,hr⟩:=pick_lt hq
   have hfi:=ready_pl hr
   have ih:=order_ahead k (pl.set i true) (out++[i]) (by rw[List.length_set];exact hl)
    (fun j hj=>by
     by_cases e:j=i
     ·
      subst e;simp
     ·
      rw[List.getElem?_set_ne (fun h=>e h.symm)] at hj
      exact List.mem_append_left _ (hpl j hj))
    (fun t j ht=>by
     by_cases hlt:t<out.length
     ·
      rw[List.getElem?_append_left hlt] at ht
      obtain⟨h1,h2⟩:=hP t j ht
      refine⟨h1,fun hs hh s hs' j' ns hn hm=>?_⟩
      rw[List.take_append_of_le_length (by omega)]
      exact h2 hs hh s hs' j' ns hn hm
     ·
      have hte:t=out.length:=by
       have:=(List.getElem?_eq_some_iff.1 ht).1
       simp at this
       omega
      subst hte
      rw[List.getElem?_append_right (Nat.le_refl _)] at ht
      simp at ht
      subst ht
      refine⟨by omega,fun hs hh s hs' j' ns hn hm=>?_⟩
      rw[List.take_left]
      have hw:=readyF_pl hr hh s hs'
      have hj':j'<pl.length:=by rw[hl];exact(List.getElem?_eq_some_iff.1 hn).1
      cases hb:pl[j']? with
      | none=>rw[List.getElem?_eq_none_iff] at hb;omega
      | some b =>
       cases b with
       | true=>exact hpl j' hb
       | false=>rw[waits_yes hn hb hm] at hw;cases hw)
   obtain⟨a,b,c,d⟩:=ih
   simp only[List.length_append,List.length_singleton] at b c d
   exact⟨a,by dsimp only;omega,fun h=>by have:=c h;dsimp only;omega,fun h=>by have:=d h;dsimp only;omega⟩
theorem all_in {N:Nat}:∀ {l:List Nat},(∀ k,k<N→k∈l)→N≤l.length:=by
 induction N with
 | zero=>intro l _;omega
 | succ N ih =>
  intro l h
  have hm:=h N (by omega)
  have:=ih (l:=l.erase N) (fun k hk=>(List.mem_erase_of_ne (by omega)).2 (h k (by omega)))
  rw[List.length_erase_of_mem hm] at this
  have:0<l.length:=List.length_pos_of_mem hm
  omega
theorem declF_anyM {s:ByteArray} {n:DNode} (h:isF n s=true):(∃ d∈n.Ins,d.Name=s)∨∃ d∈n.Outs++n.Vars,d.Name=s:=by
 obtain⟨d,hd,he⟩:=is_mem h
 have:allV n=n.Ins++(n.Outs++n.Vars):=by simp[allV]
 rw[this,List.mem_append] at hd
 rcases hd with hd|hd
 ·
  exact .inl ⟨d,hd,he⟩
 ·
  exact .inr ⟨d,hd,he⟩
theorem allDef_of {p:DProg} {a:Int} {n:DNode} (h:(nodeFault p a n).Err=0):allDef n=true:=by
 unfold nodeFault at h
 split at h
 ·
  split at h
  ·
   split at h
   ·
    assumption
   ·
    cases h
  ·
   rename_i h2;exact absurd h h2
 ·
  cases h
mutual
theorem reads_is:∀(e:Ex) (s:ByteArray),s∈readsF e→∃ y∈parts e,(y.kind=3∨y.kind=11∨y.kind=12)∧y.name=s
 | .mk k n m o a subs,s,h=>by
  rw[readsF_eq,List.mem_append] at h
  rcases h with h|h
  ·
   refine⟨_,self_parts _,?_⟩
   unfold mineK at h
   split at h
   ·
    rename_i hk;exact⟨hk,(List.mem_singleton.1 h).symm⟩
   ·
    simp at h
  ·
   have h':s∈readsL subs:=by
    have hk:∃ t,readsL (Ex.mk k n m o a subs).subs=readsL (keepK (Ex.mk k n m o a subs).kind (Ex.mk k n m o a subs).subs)++t:=by
     unfold keepK
     split
     ·
      exact⟨_,by rw[readsL,List.nil_append]⟩
     ·
      split
      ·
       refine⟨readsL ((Ex.mk k n m o a subs).subs.drop 1),?_⟩
       rw[← readsL_append,List.take_append_drop]
      ·
       exact⟨[],by rw[List.append_nil]⟩
    obtain⟨t,ht⟩:=hk
    have:s∈readsL (Ex.mk k n m o a subs).subs:=by rw[ht];exact List.mem_append_left _ h
    exact this
   obtain⟨x,hx,y,hy,hz⟩:=readsL_is subs s h'
   exact⟨y,sub_parts (e:=.mk k n m o a subs) hx hy,hz⟩
theorem readsL_is:∀(l:List Ex) (s:ByteArray),s∈readsL l→∃ x∈l,∃ y∈parts x,(y.kind=3∨y.kind=11∨y.kind=12)∧y.name=s
 | [],s,h=>by rw[readsL] at h;simp at h
 | x::l,s,h=>by
  rw[readsL,List.mem_append] at h
  rcases h with h|h
  ·
   obtain⟨y,hy,hz⟩:=reads_is x s h
   exact⟨x,List.mem_cons_self,y,hy,hz⟩
  ·
   obtain⟨x',hx',hz⟩:=readsL_is l s h
   exact⟨x',List.mem_cons_of_mem _ hx',hz⟩
end
def eqNames (n:DNode) (j:Nat):List ByteArray:=(n.Eqs[j]?.map DEq.Names).getD []
def thereF (n:DNode) (lo:List Nat) (t:Nat):List ByteArray:=n.Ins.map DDecl.Name++(lo.take t).flatMap (eqNames n)
theorem ahead_of {p:DProg} (hz:(causeF p).Err=0) {k:Nat} {n:DNode} (hk:p.Nodes[k]?=some n) :
  ∃ lo,orderF (namesC n) (hangsC n)=(lo,true)∧lo.length=n.Eqs.length∧∀(t i:Nat),lo[t]?=some i→∃ q,n.Eqs[i]?=some q∧∀ s∈readsF q.E,s∈thereF n lo t:=by
 obtain⟨_,hck,hca⟩:=cause_zero hz
 obtain⟨_,hty,_⟩:=clock_zero hck
 obtain⟨_,hs,_,_⟩:=types_zero hty
 have h0:=(scope_zero (p:=p) (by rw[hs])).2.2 k n hk
 have hda:=allDef_of h0
 have hO:=order_ahead (N:=namesC n) (H:=hangsC n) (namesC n).length (List.replicate (namesC n).length false) [] (by simp) (fun j hj=>by
  have:=List.getElem?_eq_some_iff.1 hj
  obtain⟨h1,h2⟩:=this
  simp at h2) (fun t i h=>by simp at h)
 have hor:orderG (namesC n) (hangsC n) (namesC n).length (List.replicate (namesC n).length false) []=orderF (namesC n) (hangsC n):=rfl
 rw[hor,len_namesC] at hO
 have hx:=(nodeCa_zero (hca k n hk)).2
 generalize orderF (namesC n) (hangsC n)=R at hO hx
 obtain⟨lo,ok⟩:=R
 dsimp only at hO hx
 obtain⟨hA,_,hT,hF⟩:=hO
 have hok:ok=true:=by
  rcases hx with h|h
  ·
   exact h
  ·
   cases ok with
   | true=>rfl
   | false =>
    have h1:=hF rfl
    have h2:=all_in (N:=n.Eqs.length) (l:=lo) (fun j hj=>h j _ (List.getElem?_eq_getElem hj))
    simp at h1
    omega
 subst hok
 have hle:=hT rfl
 simp at hle
 refine⟨lo,rfl,hle,fun t i hi=>?_⟩
 obtain⟨h1,h2⟩:=hA t i hi
 rw[len_namesC] at h1
 obtain⟨q,hq⟩:∃ q,n.Eqs[i]?=some q:=⟨_,List.getElem?_eq_getElem h1⟩
 refine⟨q,hq,fun s hs'=>?_⟩
 unfold thereF
 rw[List.mem_append]
 obtain⟨y,hy,hk3,rfl⟩:=reads_is q.E s hs'
 have hl:=List.all_eq_true.1 (node_is h0 q (List.mem_of_getElem? hq)).2 y hy
 unfold leadsF at hl
 rw[if_pos hk3,Bool.and_eq_true] at hl
 rcases declF_anyM hl.2 with ⟨d,hd,he⟩|⟨d,hd,he⟩
 ·
  exact .inl (List.mem_map.2 ⟨d,hd,he⟩)
 ·
  right
  unfold allDef at hda
  have hm:=memB_iff.1 (List.all_eq_true.1 hda d hd)
  rw[he] at hm
  obtain⟨q',hq',hm'⟩:=List.mem_flatMap.1 hm
  obtain⟨j,hj,rfl⟩:=List.getElem_of_mem hq'
  have hj':n.Eqs[j]?=some n.Eqs[j]:=List.getElem?_eq_getElem hj
  have hmem:=h2 (hangsF n q) (map_some hq) y.name (by unfold hangsF;exact List.mem_append_left _ hs') j n.Eqs[j].Names (map_some hj') hm'
  exact List.mem_flatMap.2 ⟨j,hmem,by unfold eqNames;rw[hj'];exact hm'⟩
def cntO:List Bool→Nat
 | []=>0
 | b::l=>(if b=true then 0 else 1)+cntO l
theorem cntO_rep (n:Nat):cntO (List.replicate n false)=n:=by
 induction n with
 | zero=>rfl
 | succ n ih=>rw[List.replicate_succ,cntO,ih];simp;omega
theorem cntO_set:∀ {pl:List Bool} {i:Nat},pl[i]?=some false→cntO pl=cntO (pl.set i true)+1
 | [],_,h=>by simp at h
 | b::pl,0,h=>by
  simp at h
  subst h
  simp[cntO]
  omega
 | b::pl,i+1,h=>by
  have:=cntO_set (pl:=pl) (i:=i) (by simpa using h)
  simp only[List.set_cons_succ,cntO,this]
  omega
theorem cntO_pos:∀ {pl:List Bool},0<cntO pl→∃ j:Nat,pl[j]?=some false
 | [],h=>by simp[cntO] at h
 | false::_,_=>⟨0,rfl⟩
 | true::pl,h=>by
  obtain⟨j,hj⟩:=cntO_pos (pl:=pl) (by simpa[cntO] using h)
  exact⟨j+1,by simpa using hj⟩
theorem pick_all {N H:List (List ByteArray)} {pl:List Bool}:∀ {n i:Nat},pickF N H pl i n=none→∀ j,i≤j→j<i+n→readyF N H pl j=false
 | 0,_,_,j,_,_=>by omega
 | n+1,i,h,j,h1,h2=>by
  rw[pickF] at h
  split at h
  ·
   cases h
  ·
   rename_i hr
   by_cases e:i=j
   ·
    subst e;simpa using hr
   ·
    exact pick_all h j (by omega) (by omega)
theorem none_open {N H:List (List ByteArray)} {ρ:Nat→Nat} (hH:H.length=N.length) (h:∀(i:Nat) hs,H[i]?=some hs→∀ s∈hs,∀(j:Nat) ns,N[j]?=some ns→s∈ns→ρ j<ρ i) {pl:List Bool} (hl:pl.length=N.length) (hp:pickF N H pl 0 N.length=none) :
  ∀(m j:Nat),ρ j<m→pl[j]?=some false→False
 | 0,j,hm,_=>by omega
 | m+1,j,hm,hj=>by
  have hjl:j<pl.length:=(List.getElem?_eq_some_iff.1 hj).1
  have hr:=pick_all hp j (by omega) (by omega)
  obtain⟨hs,hh⟩:∃ hs,H[j]?=some hs:=⟨_,List.getElem?_eq_getElem (by omega)⟩
  by_cases hw:∀ s∈hs,waitsF N pl s=false
  ·
   rw[ready_yes hj hh hw] at hr;cases hr
  ·
   have:∃ s∈hs,waitsF N pl s=true:=by
    refine Classical.byContradiction fun hc=>hw fun s hs'=>?_
    cases hb:waitsF N pl s with
    | false=>rfl
    | true=>exact absurd ⟨s,hs',hb⟩ hc
   obtain⟨s,hs',hb⟩:=this
   have hpos:0<opn s N pl:=of_decide_eq_true hb
   have:∃(i:Nat) (ns:List ByteArray),N[i]?=some ns∧pl[i]?=some false∧s∈ns:=by
    refine Classical.byContradiction fun hc=>?_
    have:=opn_zero (s:=s) (N:=N) (pl:=pl) (fun i ns a b hm=>hc ⟨i,ns,a,b,hm⟩)
    omega
   obtain⟨i,ns,hi,hpi,hm'⟩:=this
   have:=h j hs hh s hs' i ns hi hm'
   exact none_open hH h hl hp m i (by omega) hpi
theorem order_rank {N H:List (List ByteArray)} (ρ:Nat→Nat) (hH:H.length=N.length) (h:∀(i:Nat) hs,H[i]?=some hs→∀ s∈hs,∀(j:Nat) ns,N[j]?=some ns→s∈ns→ρ j<ρ i):∀(k:Nat) (pl:List Bool) (out:List Nat),pl.length=N.length→k≤cntO pl→(orderG N H k pl out).2=true
 | 0,pl,out,_,_=>by rw[orderG]
 | k+1,pl,out,hl,hk=>by
  rw[orderG]
  cases hq:pickF N H pl 0 N.length with
  | none =>
   obtain⟨j,hj⟩:=cntO_pos (pl:=pl) (by omega)
   exact(none_open hH h hl hq (ρ j+1) j (by omega) hj).elim
  | some i =>
   obtain⟨hi,hr⟩:=pick_lt hq
   have hc:=cntO_set (ready_pl hr)
   exact order_rank ρ hH h k (pl.set i true) (out++[i]) (by rw[List.length_set];exact hl) (by omega)
theorem orderF_rank {N H:List (List ByteArray)} (ρ:Nat→Nat) (hH:H.length=N.length) (h:∀(i:Nat) hs,H[i]?=some hs→∀ s∈hs,∀(j:Nat) ns,N[j]?=some ns→s∈ns→ρ j<ρ i):(orderF N H).2=true :=
 order_rank ρ hH h _ _ _ (by simp) (by rw[cntO_rep];exact Nat.le_refl _)
theorem order_pairs {es:List DPlain} (T:List (DPlain × Nat)) (hT:T.map Prod.fst=es) (h:∀ x∈T,∀ y∈T,∀ s∈readsP x.1,s∈y.1.Names→y.2<x.2):(orderF (es.map DPlain.Names) (es.map readsP)).2=true:=by
 subst hT
 refine orderF_rank (fun i=>(T[i]?.map Prod.snd).getD 0) (by simp) fun i hs hi s hs' j ns hj hn=>?_
 rw[List.getElem?_map,List.getElem?_map] at hi hj
 cases hx:T[i]? with
 | none=>rw[hx] at hi;cases hi
 | some x =>
  cases hy:T[j]? with
  | none=>rw[hy] at hj;cases hj
  | some y =>
   rw[hx] at hi
   rw[hy] at hj
   simp only[Option.map_some,Option.some.injEq] at hi hj
   subst hi hj
   simp only[Option.map_some,Option.getD_some]
   exact h x (List.mem_of_getElem? hx) y (List.mem_of_getElem? hy) s hs' hn
end Go.Proofs.YtpamokpmlplopaaGreatDoor
