/-
  ChkP3, Fits7, Fits8, Fits9, Cause1: put together.
-/
import Derived.Test.YtpamokpmlplopaaGreatDoorUniAk
import Derived.Test.YtpamokpmlplopaaGreatDoorUniAl
import Derived.Test.YtpamokpmlplopaaGreatDoorUniAn
import Derived.Test.YtpamokpmlplopaaGreatDoorUniAo
import Derived.Test.YtpamokpmlplopaaGreatDoorUniAp
import Derived.Test.YtpamokpmlplopaaGreatDoorUniAq
import Derived.Test.YtpamokpmlplopaaGreatDoorUniAr
namespace Go.Proofs.YtpamokpmlplopaaGreatDoor
open Go.Abs
set_option maxRecDepth 20000
set_option linter.unusedSimpArgs false
set_option linter.unusedVariables false
set_option maxHeartbeats 1000000
attribute [local irreducible] vc vcOps vcStep vcGuard prK hrK gK gsK brK callK ElemK SeqK BlockK ScopeK OpsK CallK LoopK LoopGo finPost ACall PCall PCallE BCall vqOps vqStep vqGuard qrK heK pcK gqK gqsK QOpsK qcallK DrawK
theorem flat_at {L:List DEnum} {i k:Nat} {e:DEnum} {c:ByteArray} (he:L[i]?=some e) (hc:e.Ctors[k]?=some c):(L.flatMap DEnum.Ctors)[((L.take i).flatMap DEnum.Ctors).length+k]?=some c:=by
 obtain⟨hi,rfl⟩:=List.getElem?_eq_some_iff.1 he
 have h1:L.flatMap DEnum.Ctors=(L.take i).flatMap DEnum.Ctors++(L[i].Ctors++(L.drop (i+1)).flatMap DEnum.Ctors):=by
  have h2:L=L.take i++L[i]::L.drop (i+1):=by rw[← List.drop_eq_getElem_cons hi,List.take_append_drop]
  conv=>lhs;rw[h2]
  rw[List.flatMap_append,List.flatMap_cons]
 rw[h1,List.getElem?_append_right (by omega),Nat.add_sub_cancel_left,List.getElem?_append_left (List.getElem?_eq_some_iff.1 hc).1]
 exact hc
theorem ctors_all {L:List DEnum} {ps:Array Tmp} {x y:Code} {s:List AV} {l:Nat} {Q:Post} (m k0 g:Nat) (H G:Nat→List Blk) (hH:∀ n,(H n).length=m) (hG:∀ n,(G n).length=g)
  (hk:∀ n,(H n)[k0]?=some (.cells 22 [.lst 2 (L.map DEnum.enc) none])) (hps:ps.size=2) (hx:noR x=true) (hy:noR y=true)
  (hbody:∀(n:Nat) (c:ByteArray) (i k:Nat) (r:List Blk) (K:AV→List Blk→Prop),(L.flatMap DEnum.Ctors)[n]?=some c→(∀ r',K (.b true) (H (n+1)++(.lp l .ready none ps x y s::(G (n+1)++(r++r'))))) →
   vc Tryz.prog ti x (roundA Tryz.prog ti l m ps x y s K) (setPs s ps.toList [.agg [.i (i:Int),.i (k:Int)],.s c]) (H n++(.lp l .ready none ps x y s::(G n++r))))
  (hn:∀ r,Q .normal s (H (L.flatMap DEnum.Ctors).length++(.dead::(G (L.flatMap DEnum.Ctors).length++r)))) :
  ACall Tryz.prog 297 [.fn (.yield l) [] [],.ptr k0 0] (H 0++(.lp l .ready none ps x y s::G 0)) (fun _ h'=>loopEnd Q s m h'):=by
 refine ctors155 L l k0 (fun i k h=>∃(r:List Blk) (n:Nat),n=((L.take i).flatMap DEnum.Ctors).length+k∧h=H n++(.lp l .ready none ps x y s::(G n++r))) (fun _=>False) ?_ ?_ ?_ ?_ ⟨[],0,by simp,by simp⟩ ?_ ?_
 ·
  rintro i k h ⟨r,n,_,rfl⟩
  rw[List.getElem?_append_left (List.getElem?_eq_some_iff.1 (hk n)).1]
  exact hk n
 ·
  rintro i k h r' ⟨r,n,hn,rfl⟩
  exact⟨r++r',n,hn,by simp⟩
 ·
  rintro i e h he ⟨r,n,hn,rfl⟩
  exact⟨r,n,by rw[hn,flatMap_next _ he];simp,rfl⟩
 ·
  rintro i k e c h he hc ⟨r,n,hn,rfl⟩ K hK1 _
  refine ycall_of_vc tabOK (k:=m) (ps:=ps) (x:=x) (y:=y) (s:=s) ?_ (by simp[hps]) hx hy (hbody n c i k r K (by rw[hn];exact flat_at he hc) (fun r'=>hK1 _ ⟨r++r',n+1,by omega,by simp⟩))
  rw[List.getElem?_append_right (by rw[hH];exact Nat.le_refl _),hH,Nat.sub_self];rfl
 ·
  rintro h' ⟨r,n,hn',rfl⟩
  rw[List.take_length,Nat.add_zero] at hn'
  subst hn'
  have e1:(H (L.flatMap DEnum.Ctors).length++(Blk.lp l .ready none ps x y s::(G (L.flatMap DEnum.Ctors).length++r)))[m]?=some (.lp l .ready none ps x y s):=by
   rw[List.getElem?_append_right (by rw[hH];exact Nat.le_refl _),hH,Nat.sub_self];rfl
  have e2:(H (L.flatMap DEnum.Ctors).length++(Blk.lp l .ready none ps x y s::(G (L.flatMap DEnum.Ctors).length++r))).set m .dead=H (L.flatMap DEnum.Ctors).length++(.dead::(G (L.flatMap DEnum.Ctors).length++r)):=by
   rw[List.set_append_right _ _ (by rw[hH];exact Nat.le_refl _),hH,Nat.sub_self];rfl
  unfold loopEnd
  rw[e1,e2]
  exact hn r
 ·
  rintro h' h
  exact h.elim
theorem ctors_all3 {L:List DEnum} {ps:Array Tmp} {x y:Code} {s:List AV} {l:Nat} {Q:Post} (B1 B2:Nat→Blk) (B3:Blk) (r0:List Blk) (tk:Nat→Blk) {k0 m:Nat} (hk0:k0=r0.length+3) (hm:m=r0.length+4) (hps:ps.size=2) (hx:noR x=true) (hy:noR y=true)
  (hbody:∀(n:Nat) (c:ByteArray) (i k:Nat) (r:List Blk) (K:AV→List Blk→Prop),(L.flatMap DEnum.Ctors)[n]?=some c →
   (∀ r',K (.b true) (B1 (n+1)::B2 (n+1)::B3::(r0++.cells 22 [.lst 2 (L.map DEnum.enc) none]::.lp l .ready none ps x y s::tk (n+1)::(r++r')))) →
   vc Tryz.prog ti x (roundA Tryz.prog ti l m ps x y s K) (setPs s ps.toList [.agg [.i (i:Int),.i (k:Int)],.s c]) (B1 n::B2 n::B3::(r0++.cells 22 [.lst 2 (L.map DEnum.enc) none]::.lp l .ready none ps x y s::tk n::r)))
  (hn:∀ r,Q .normal s (B1 (L.flatMap DEnum.Ctors).length::B2 (L.flatMap DEnum.Ctors).length::B3::(r0++.cells 22 [.lst 2 (L.map DEnum.enc) none]::.dead::tk (L.flatMap DEnum.Ctors).length::r))) :
  ACall Tryz.prog 297 [.fn (.yield l) [] [],.ptr k0 0] (B1 0::B2 0::B3::(r0++[.cells 22 [.lst 2 (L.map DEnum.enc) none],.lp l .ready none ps x y s,tk 0])) (fun _ h'=>loopEnd Q s m h'):=by
 subst hk0 hm
 have h:=ctors_all (L:=L) (ps:=ps) (x:=x) (y:=y) (s:=s) (l:=l) (Q:=Q) (r0.length+4) (r0.length+3) 1 (fun n=>B1 n::B2 n::B3::(r0++[.cells 22 [.lst 2 (L.map DEnum.enc) none]])) (fun n=>[tk n]) (fun n=>by simp) (fun n=>rfl) (fun n=>by simp) hps hx hy
  (fun n c i k r K hc hK=>by have:=hbody n c i k r K hc (fun r'=>by have:=hK r';simpa using this);simpa using this) (fun r=>by have:=hn r;simpa using this)
 simpa using h
theorem flat_len {L:List DEnum} (h:∀ e∈L,okEnum e):(L.flatMap DEnum.Ctors).length≤12 * L.length:=by
 induction L with
 | nil=>simp
 | cons e L ih =>
  have h1:=(h e List.mem_cons_self).1
  have h2:=ih fun x hx=>h x (List.mem_cons_of_mem _ hx)
  rw[List.flatMap_cons,List.length_append,List.length_cons]
  omega
theorem en_fin {L:List DEnum} {u v:Bool} (hg:greatE L=false) (hu:(L.all fun e=>lowF e.Name&&decide (0<e.Ctors.length))=u) (hv:(L.flatMap DEnum.Ctors).all highF=v):enumsF L=if(v&&u)=true then(if(onceB (L.map DEnum.Name)&&onceB (L.flatMap DEnum.Ctors))=true then 0 else 6) else 1:=by
 unfold enumsF rightEn
 rw[hg,hu,hv,Bool.and_comm]
 simp
theorem enumsP (L:List DEnum) (hl:okEnums L):PCall Tryz.prog 237 [.lst 2 (L.map DEnum.enc) none] (.i (enumsF L)):=by
 have hl8:=hl.1
 refine pcall_of_vc tabOK Tryz.func237 (by kernel_rfl) rfl pureL pureI (n:=61) rfl (rs:=[.tmp 2]) rfl ?_
 simp only[go_sem]
 refine PCall.call (great74 L) ?_
 cases hg:greatE L with
 | true =>
  simp only[go_sem]
  exact finIq rfl (en_many hg).symm
 | false =>
 simp only[go_sem]
 intro _
 refine loop_ghost (ghost_tok 3 9 1 rfl) ?_
 refine loop_fr [3,7,14,15,16,17,18,19,20,21,22,23,24,25,26,27,28,29,30,31,32,33,34,35] (fun m C hh=>∃(i:Nat) (r:List Blk),i≤L.length∧m=L.length-i∧C=[(14,.raw (.int .i64 (i:Nat))),(3,.lst 1 (((L.take i).map DEnum.Name).map AV.s) (some 2))]∧hh=.cells 46 [.raw (.slice none 0 0)]::.cells 4 [.b ((L.take i).all fun e=>lowF e.Name&&decide (0<e.Ctors.length))]::.tok 9 1 (L.take i).length::r) L.length _ ⟨0,[],by omega,by omega,rfl,rfl⟩ (.cons rfl (.cons rfl .nil)) ?_
 rintro m C j hh ⟨i,r,hi,rfl,rfl,rfl⟩
 simp only[go_sem]
 refine brK_dec (fun hlt=>?_) (fun hge=>?_)
 ·
  simp only[go_sem]
  refine elemMap (by omega) (by omega) (fun d hd=>?_)
  have hli:(L.take i).length=i:=by rw[List.length_take];omega
  have hli2:(L.take (i+1)).length=i+1:=by rw[List.length_take];omega
  have hst:=take_mapS (f:=DEnum.Name) hd
  have hal:=all_nextZ (fun e:DEnum=>lowF e.Name&&decide (0<e.Ctors.length)) hd
  have hgt:decide ((d.Ctors.length:Int)>0)=decide (0<d.Ctors.length):=decide_eq_decide.2 (by omega)
  try simp only[go_sem]
  refine⟨by simp;omega,?_⟩
  generalize hu:((L.take i).all fun e=>lowF e.Name&&decide (0<e.Ctors.length))=u at hal ⊢
  cases u
  all_goals
   repeat' first
    | (exfalso;omega)
    | simp only[go_sem]
    | (intro _)
    | refine gK_dec (fun _=>?_) (fun _=>?_)
    | refine brK_dec (fun _=>?_) (fun _=>?_)
    | (refine PCall.call (low6 d.Name) ?_;generalize hlo:lowF d.Name=q at hal ⊢;cases q)
    | exact loopFr _ (by omega) ⟨i+1,_,by omega,rfl,rfl,by rw[hli2,hal];simp only[hli,hgt,Bool.false_and,Bool.true_and];rfl⟩ (.next rfl (by omega) (.cons (by rw[hst];simp[slot]) .nil)) rfl
 ·
  simp only[go_sem]
  rw[List.take_of_length_le (by omega)]
  generalize hu:(L.all fun e=>lowF e.Name&&decide (0<e.Ctors.length))=u
  refine ctors154 L ?_
  simp only[go_sem]
  intro l
  refine acall_ghost (ghost_cell 0 0 9 1 rfl rfl) ?_
  simp only[go_sem]
  refine ctors_all3 (fun n=>.cells 46 [.lst 1 (((L.flatMap DEnum.Ctors).take n).map AV.s) (some (r.length+2+1+1+1))]) (fun n=>.cells 4 [.b (((L.flatMap DEnum.Ctors).take n).all highF&&u)]) (.tok 9 1 L.length) r (fun n=>.tok 9 1 ((L.flatMap DEnum.Ctors).take n).length) (by omega) (by omega) rfl rfl rfl (fun n c i' k' r' K hc hK=>?_) (fun r'=>?_)
  ·
   have hfl:=flat_len hl.2
   have hle:((L.flatMap DEnum.Ctors).take n).length≤96:=by rw[List.length_take];omega
   have hst:(((L.flatMap DEnum.Ctors).take (n+1)).map AV.s)=(((L.flatMap DEnum.Ctors).take n).map AV.s)++[AV.s c]:=by
    obtain⟨hn,rfl⟩:=List.getElem?_eq_some_iff.1 hc
    rw[List.take_succ_eq_append_getElem hn,List.map_append];rfl
   have hln:((L.flatMap DEnum.Ctors).take (n+1)).length=((L.flatMap DEnum.Ctors).take n).length+1:=by
    have:=congrArg List.length hst
    simpa using this
   have hal:(((L.flatMap DEnum.Ctors).take (n+1)).all highF&&u)=(((L.flatMap DEnum.Ctors).take n).all highF&&u&&highF c):=by
    rw[all_next highF hc]
    cases ((L.flatMap DEnum.Ctors).take n).all highF<;>cases u<;>cases highF c<;>rfl
   simp only[hst,hln,hal] at hK
   simp only[go_sem,setPs,roundA]
   refine⟨by omega,?_⟩
   generalize (((L.flatMap DEnum.Ctors).take n).all highF&&u)=w at hK ⊢
   cases w
   all_goals
    repeat' first
     | simp only[go_sem,roundB]
     | refine⟨rfl,?_⟩
     | (refine PCall.call (high8 c) ?_;generalize highF c=q at hK ⊢;cases q)
     | (have hk:=hK [.tok 9 1 1];(simpa using hk);done)
  ·
   simp only[go_sem]
   rw[List.take_length]
   generalize hv:(L.flatMap DEnum.Ctors).all highF=v
   have hfin:=en_fin hg hu hv
   cases u<;>cases v
   all_goals
    repeat' first
     | simp only[go_sem]
     | (refine PCall.callW (once12 (L.map DEnum.Name)) ⟨.tok _ _ _,trivial⟩ ?_;generalize onceB (L.map DEnum.Name)=q at hfin ⊢;cases q)
     | (refine PCall.callW (once12 (L.flatMap DEnum.Ctors)) ⟨.tok _ _ _,trivial⟩ ?_;generalize onceB (L.flatMap DEnum.Ctors)=q at hfin ⊢;cases q)
     | (refine finIq rfl ?_;rw[hfin];simp;done)
abbrev pB (p:DProg):Blk:=progB p
theorem when93 (p:DProg) (k:Nat) (n:DNode) (hn:p.Nodes[k]?=some n) (hl:(allV n).length≤4294967296) (e:Ex) (on:List DCond) (h11:e.kind=11)
  (ih:∀ x∈e.subs,∀ on':List DCond,on'.length≤on.length+14→PCall Tryz.prog 152 [p.enc,.i k,x.enc,.lst 2 (on'.map DCond.enc) none] (.b (fitsF (rowN p.Enums n) p.Enums x on'))) (hrow:(rowN p.Enums n e.name).1.length≤13) :
  PCall Tryz.prog 191 [p.enc,.i k,e.enc,.lst 2 (on.map DCond.enc) none] (.b (fitsF (rowN p.Enums n) p.Enums e on)):=by
 refine pcall_of_vc tabOK Tryz.func191 (by kernel_rfl) rfl pureL pureI (n:=67) rfl (rs:=[.tmp 8]) rfl ?_
 have hB:fitsF (rowN p.Enums n) p.Enums e on=(decide (e.arms.length=1)&&decide (e.subs.length=1)&&(rowN p.Enums n e.name).2&&armOk p.Enums (e.arms.headD ⟨#[]⟩)&&eqB on ((rowN p.Enums n e.name).1++[condOf p.Enums e.name (e.arms.headD ⟨#[]⟩)])&&fitsL (rowN p.Enums n) p.Enums e.subs (rowN p.Enums n e.name).1):=by
  rw[fitsF_eq];simp[h11]
 rw[hB]
 clear hB
 simp only[go_sem]
 refine PCall.call (row46v p k n hn e.name hl) ?_
 generalize hR:rowN p.Enums n e.name=r at hrow ⊢
 obtain⟨r,okr⟩:=r
 dsimp only at hrow
 by_cases hst:e.arms.length=1∧e.subs.length=1
 ·
  obtain⟨ha1,hs1⟩:=hst
  obtain⟨a,ha⟩:∃ a,e.arms[0]?=some a:=⟨_,List.getElem?_eq_getElem (by omega)⟩
  obtain⟨x,hx⟩:∃ x,e.subs[0]?=some x:=⟨_,List.getElem?_eq_getElem (by omega)⟩
  have hxm:=List.mem_of_getElem? hx
  rw[show e.arms.headD ⟨#[]⟩=a by rw[eq_one ha1 ha];rfl]
  rw[show fitsL (rowN p.Enums n) p.Enums e.subs r=fitsF (rowN p.Enums n) p.Enums x r by rw[eq_one hs1 hx];simp[fitsL]]
  rw[decide_eq_true ha1,decide_eq_true hs1,Bool.true_and,Bool.true_and]
  cases okr with
  | false =>
   repeat' first
    | (exfalso;omega)
    | exact finBq rfl (by simp)
    | simp only[go_sem]
    | (intro _)
    | refine brK_dec (fun _=>?_) (fun _=>?_)
    | refine gK_dec (fun _=>?_) (fun _=>?_)
  | true =>
   repeat' first
    | (exfalso;omega)
    | simp only[go_sem,monoApp,monoApp2]
    | (intro _)
    | refine brK_dec (fun _=>?_) (fun _=>?_)
    | refine gK_dec (fun _=>?_) (fun _=>?_)
    | refine gqK_dec (fun _=>?_) (fun _=>?_)
    | refine drawK mo (by kernel_rfl) ?_
    | refine elemHave (by omega) ha ?_
    | refine elemHave (by omega) hx ?_
    | (refine pcK_of (arm91 p.Enums a) ?_;rw[armA_fst];generalize hok:armOk p.Enums a=ok;cases ok)
    | refine pcK_of (when134 r e.name (armF p.Enums a).2.1 (by omega)) ?_
    | (refine pcK_of (sameCs on (r++[(⟨e.name,(armF p.Enums a).2.1⟩:DCond)])) ?_;rw[show condOf p.Enums e.name a=⟨e.name,(armF p.Enums a).2.1⟩ from rfl];generalize eqB on (r++[(⟨e.name,(armF p.Enums a).2.1⟩:DCond)])=q;cases q)
    | refine pcK_of (ih x hxm r (by omega)) ?_
    | (refine finBq rfl ?_;first|rfl|(simp;done))
 ·
  have hB:∀ z,(decide (e.arms.length=1)&&decide (e.subs.length=1)&&okr&&armOk p.Enums (e.arms.headD ⟨#[]⟩)&&eqB on (r++[condOf p.Enums e.name (e.arms.headD ⟨#[]⟩)])&&z)=false:=by
   intro z
   have:¬ (e.arms.length=1)∨¬ (e.subs.length=1):=by
    rcases Classical.em (e.arms.length=1) with q|q
    ·
     exact .inr fun q'=>hst ⟨q,q'⟩
    ·
     exact .inl q
   rcases this with q|q<;>simp[q]
  rw[hB]
  cases okr <;>
  repeat' first
   | (exfalso;omega)
   | exact finP rfl
   | simp only[go_sem]
   | (intro _)
   | refine brK_dec (fun _=>?_) (fun _=>?_)
   | refine gK_dec (fun _=>?_) (fun _=>?_)
   | refine drawK mo (by kernel_rfl) ?_
theorem merge94 (p:DProg) (k:Nat) (n:DNode) (hn:p.Nodes[k]?=some n) (hl:(allV n).length≤4294967296) (e:Ex) (on:List DCond) (h12:e.kind=12) (hlen:on.length≤1000000)
  (ih:∀ x∈e.subs,∀ on':List DCond,on'.length≤on.length+14→PCall Tryz.prog 152 [p.enc,.i k,x.enc,.lst 2 (on'.map DCond.enc) none] (.b (fitsF (rowN p.Enums n) p.Enums x on'))) :
  PCall Tryz.prog 192 [p.enc,.i k,e.enc,.lst 2 (on.map DCond.enc) none] (.b (fitsF (rowN p.Enums n) p.Enums e on)):=by
 refine pcall_of_vc tabOK Tryz.func192 (by kernel_rfl) rfl pureL pureI (n:=77) rfl (rs:=[.tmp 8]) rfl ?_
 have hB:fitsF (rowN p.Enums n) p.Enums e on=((rowN p.Enums n e.name).2&&eqB (rowN p.Enums n e.name).1 on&&decide (e.arms.length=e.subs.length)&&fitsM (rowN p.Enums n) p.Enums e.name e.arms e.subs on):=by
  rw[fitsF_eq];simp[h12]
 rw[hB]
 clear hB
 simp only[go_sem]
 refine PCall.call (row46v p k n hn e.name hl) ?_
 generalize hR:rowN p.Enums n e.name=r
 obtain⟨r,okr⟩:=r
 by_cases hst:okr=true∧r=on∧e.arms.length=e.subs.length
 ·
  obtain⟨rfl,rfl,heq'⟩:=hst
  rw[decide_eq_true heq',eqB_eq rfl]
  simp only[Bool.true_and]
  repeat' first
   | (exfalso;omega)
   | simp only[go_sem,eqB_eq,Bool.not_true]
   | (intro _)
   | (refine PCall.call (sameCs r r) ?_;rw[eqB_eq rfl])
   | (refine pcK_of (sameCs r r) ?_;rw[eqB_eq rfl])
   | refine drawK mo (by kernel_rfl) ?_
   | refine gK_dec (fun _=>?_) (fun _=>?_)
   | refine brK_dec (fun _=>?_) (fun _=>?_)
  refine loop_frX [8,11,12,13,14,40,41,42,43,44,45,46,47,48,49,50,51,52,53,54,55,56,57,58,59,60,61,62,63,64,65,66,67,68,69,70,71,72,73,74,75,76] (fun m C=>∃ i:Nat,i≤e.arms.length∧m=e.arms.length-i∧(∀(j:Nat) c x,j<i→e.arms[j]?=some c→e.subs[j]?=some x→armOk p.Enums c=true∧fitsF (rowN p.Enums n) p.Enums x (r++[condOf p.Enums e.name c])=true)∧C=[(11,.raw (.int .i64 (i:Nat)))]) e.arms.length _ ⟨0,by omega,by omega,fun j c x hj=>by omega,rfl⟩ (.cons rfl .nil) ?_
  rintro m C jj R ⟨i,hi,rfl,hp,rfl⟩
  simp only[go_sem]
  intro _
  refine brK_dec (fun hlt=>?_) (fun hge=>?_)
  ·
   have hlt':i<e.arms.length:=by omega
   obtain⟨c,hc⟩:∃ c,e.arms[i]?=some c:=⟨_,List.getElem?_eq_getElem hlt'⟩
   obtain⟨x,hx⟩:∃ x,e.subs[i]?=some x:=⟨_,List.getElem?_eq_getElem (by omega)⟩
   simp only[go_sem]
   refine drawK mo (by kernel_rfl) ?_
   simp only[go_sem]
   refine elemHave (by omega) (by simpa using hc) ?_
   simp only[go_sem]
   refine pcK_of (arm91 p.Enums c) ?_
   rw[armA_fst]
   generalize hok:armOk p.Enums c=ok
   cases ok with
   | false =>
    simp only[go_sem,monoApp,monoApp2]
    refine drawK mo (by kernel_rfl) ?_
    simp only[go_sem]
    exact finBq rfl (fitsM_no hc hx (.inl hok)).symm
   | true =>
    simp only[go_sem,monoApp,monoApp2]
    refine drawK mo (by kernel_rfl) ?_
    simp only[go_sem]
    refine elemHave (by omega) (by simpa using hx) ?_
    simp only[go_sem]
    refine pcK_of (when134 r e.name (armF p.Enums c).2.1 (by omega)) ?_
    simp only[go_sem]
    refine pcK_of (ih x (List.mem_of_getElem? hx) (r++[condOf p.Enums e.name c]) (by simp)) ?_
    generalize hf:fitsF (rowN p.Enums n) p.Enums x (r++[condOf p.Enums e.name c])=f
    cases f with
    | false =>
     simp only[go_sem]
     exact finBq rfl (fitsM_no hc hx (.inr hf)).symm
    | true =>
     simp only[go_sem]
     exact loopFrX _ (by omega) _ ⟨i+1,by omega,rfl,fun j c' x' hj hc' hx'=>by
      rcases Nat.lt_or_ge j i with h|h
      ·
       exact hp j c' x' h hc' hx'
      ·
       have:j=i:=by omega
       subst this
       rw[hc] at hc';rw[hx] at hx'
       cases hc';cases hx'
       exact⟨hok,hf⟩,rfl⟩ (.next rfl (by omega) .nil) rfl (by first|rfl|(simp only[List.append_assoc,List.cons_append,List.nil_append];rfl))
  ·
   have:i=e.arms.length:=by omega
   subst this
   simp only[go_sem]
   refine finBq rfl (fitsM_yes fun j c x hc hx=>hp j c x (List.getElem?_eq_some_iff.1 hc).1 hc hx).symm
 ·
  have hB:∀ z,(okr&&eqB r on&&decide (e.arms.length=e.subs.length)&&z)=false:=by
   intro z
   cases okr with
   | false=>simp
   | true =>
    by_cases h1:r=on
    ·
     have:¬ e.arms.length=e.subs.length:=fun q=>hst ⟨rfl,h1,q⟩
     simp[this]
    ·
     rw[eqB_ne h1];simp
  rw[hB]
  generalize hq:eqB r on=q
  cases okr<;>cases q <;>
  repeat' first
   | (exfalso;omega)
   | (exfalso;exact hst ⟨rfl,eqB_t hq,by omega⟩)
   | exact finP rfl
   | simp only[go_sem]
   | (intro _)
   | (refine PCall.call (sameCs r on) ?_;rw[hq])
   | (refine pcK_of (sameCs r on) ?_;rw[hq])
   | refine drawK mo (by kernel_rfl) ?_
   | refine brK_dec (fun _=>?_) (fun _=>?_)
   | refine gK_dec (fun _=>?_) (fun _=>?_)
   | refine gqK_dec (fun _=>?_) (fun _=>?_)
theorem rowN_len (L:List DEnum) (n:DNode) (nm:ByteArray):(rowN L n nm).1.length≤13:=by
 unfold rowN rowL
 have:=clock_len n nm
 split
 ·
  split
  ·
   simpa using this
  ·
   simp
 ·
  simp
theorem drop_two {l:List Ex} {x:Ex} (h:l.length=2) (hx:l[((1:Int)).toNat]?=some x):l.drop 1=[x]:=by
 match l,h with
 | [a,b],_=>simp at hx;simp[hx]
theorem fitsL_no {R:ByteArray→List DCond × Bool} {L:List DEnum} {l:List Ex} {x:Ex} {on:List DCond} (hx:x∈l) (h:fitsF R L x on=false):fitsL R L l on=false:=by
 rw[fitsL_all,List.all_eq_false]
 exact⟨x,hx,by simp[h]⟩
theorem fits49 (p:DProg) (k:Nat) (n:DNode) (hn:p.Nodes[k]?=some n) (hl:(allV n).length≤4294967296):∀(e:Ex) (on:List DCond),on.length+14 * (parts e).length≤100000 →
  PCall Tryz.prog 152 [p.enc,.i k,e.enc,.lst 2 (on.map DCond.enc) none] (.b (fitsF (rowN p.Enums n) p.Enums e on)):=by
 intro e
 induction e using Ex.ind with
 | _ e ih =>
 intro on hb
 have hk:k<p.Nodes.length:=(List.getElem?_eq_some_iff.1 hn).1
 have ih':∀ x∈e.subs,∀ on':List DCond,on'.length≤on.length+14→PCall Tryz.prog 152 [p.enc,.i k,x.enc,.lst 2 (on'.map DCond.enc) none] (.b (fitsF (rowN p.Enums n) p.Enums x on')) :=
  fun x hx on' h=>ih x hx on' (by have:=size_lt hx;omega)
 refine pcall_of_vc tabOK Tryz.func152 (by kernel_rfl) rfl pureL pureI (n:=92) rfl (rs:=[.tmp 8]) rfl ?_
 repeat' first
  | exact finB rfl
  | exact finI rfl
  | exact finP rfl
  | exact absurd rfl (by assumption)
  | simp only[go_sem]
  | (intro _)
  | refine brK_dec (fun _=>?_) (fun _=>?_)
  | refine brK_any ?_ ?_
  | refine gK_dec (fun _=>?_) (fun _=>?_)
  | refine gK_any ?_ ?_
  | refine gqK_dec (fun _=>?_) (fun _=>?_)
  | refine⟨by omega,?_⟩
  | refine elemHave (by omega) (by assumption) ?_
  | refine elemMap (by omega) (by omega) (fun x hx=>?_)
  | refine drawK mo (by kernel_rfl) ?_
  | (exfalso;omega)
  | (refine PCall.call (row46v p k n hn e.name hl) ?_;generalize hR:rowN p.Enums n e.name=r;obtain⟨r,okr⟩:=r;cases okr)
  | (refine pcK_of (sameCs _ on) ?_)
  | (refine PCall.call (sameCs _ on) ?_)
  | (refine PCall.call (when93 p k n hn hl e on (by assumption) ih' (rowN_len _ _ _)) ?_)
  | (refine PCall.call (merge94 p k n hn hl e on (by assumption) (by omega) ih') ?_)
  | (have hxm:=List.mem_of_getElem? hx;refine pcK_of (ih' x hxm on (by omega)) ?_;generalize hfx:fitsF (rowN p.Enums n) p.Enums x on=fx;cases fx)
  | (refine finBq rfl ?_;rw[fitsF_eq];first
    | (simp[*];done)
    | (have h2:¬ e.subs.length=2:=(by omega);simp[*];done)
    | (have h2:e.subs.length=2:=(by omega);rw[drop_two h2 hx];simp[fitsL, *];done)
    | (have hLL:=fitsL_no hxm hfx;simp[*];done)
    | (have hLL:fitsL (rowN p.Enums n) p.Enums e.subs on=true:=(by rw[fitsL_all];exact List.all_eq_true.2 (take_full hpi (by omega)));simp[*];done))
  | exact loopFrH _ (by omega) ⟨i+1,by omega,rfl,take_all hpi (by simpa using hx) hfx,rfl⟩ (.next rfl (by omega) .nil) rfl
  | (refine loop_frH [8,11,75,76,77,78,79,80,81,82,83,84,85,86,87,88,89,90,91] (fun mm_ CC_=>∃(i:Nat),i≤e.subs.length∧mm_=e.subs.length-i∧(∀ x∈e.subs.take i,fitsF (rowN p.Enums n) p.Enums x on=true)∧CC_=[(11,.raw (.int .i64 ((i:Nat):Int)))]) (e.subs.length) _ ⟨0,by omega,by omega,by simp,rfl⟩ (.cons rfl .nil) ?_;rintro mm_ CC_ ji ⟨i,hi,rfl,hpi,rfl⟩)
def hangsF (n:DNode) (q:DEq):List ByteArray:=readsF q.E++(match q.Names with|[]=>[]|s::_=>(clock n s).1.map DDecl.On)
def okH (n:DNode) (q:DEq):Prop:=(readsF q.E).length≤100000∧(allV n).length≤4294967296
theorem on_take {l:List DDecl} {A acc:List ByteArray} {i:Nat} {x:DDecl} (h:acc=A++(l.take i).map DDecl.On∧acc.length≤A.length+i) (hx:l[((i:Nat):Int).toNat]?=some x):acc++[x.On]=A++(l.take (i+1)).map DDecl.On∧(acc++[x.On]).length≤A.length+(i+1):=by
 refine⟨?_,by have:=h.2;simp;omega⟩
 rw[take_mapS hx,← List.append_assoc,← h.1]
theorem on_done {l:List DDecl} {A acc:List ByteArray} {i:Nat} (h:acc=A++(l.take i).map DDecl.On∧acc.length≤A.length+i) (hi:¬ (i:Int)<l.length):A++l.map DDecl.On=acc:=by
 rw[h.1,List.take_of_length_le (by omega)]
theorem hangs123 (n:DNode) (q:DEq) (hl:okH n q):PCall Tryz.prog 159 [n.enc,q.enc] (.lst 1 ((hangsF n q).map AV.s) none):=by
 refine pcall_of_vc tabOK Tryz.func159 (by kernel_rfl) rfl pureL pureI (n:=40) rfl (rs:=[.tmp 4]) rfl ?_
 obtain⟨Ns,E⟩:=q
 obtain⟨hl,hn⟩:=hl
 rcases Ns with _|⟨s,ss⟩
 ·
  repeat' first
  | exact finB rfl
  | exact finI rfl
  | exact finP rfl
  | exact absurd rfl (by assumption)
  | simp only[go_sem]
  | (intro _)
  | refine brK_dec (fun _=>?_) (fun _=>?_)
  | refine brK_any ?_ ?_
  | refine gK_dec (fun _=>?_) (fun _=>?_)
  | refine gK_any ?_ ?_
  | refine gqK_dec (fun _=>?_) (fun _=>?_)
  | refine⟨by omega,?_⟩
  | refine elemHave (by omega) (by assumption) ?_
  | refine elemMap (by omega) (by omega) (fun x hx=>?_)
  | refine drawK mo (by kernel_rfl) ?_
  | (refine reads42T E hl ?_)
  | (simp only[hangsF,List.append_nil];exact⟨_,rfl,false,.tok _ _ _⟩)
  | (exact absurd rfl (by assumption))
 ·
  have hcl:=clock_len n s
  have h21:=clock21 n s hn
  unfold hangsF
  dsimp only
  generalize clock n s=c at hcl h21 ⊢
  obtain⟨l,ok⟩:=c
  dsimp only at hcl hl ⊢
  repeat' first
  | exact finB rfl
  | exact finI rfl
  | exact finP rfl
  | exact absurd rfl (by assumption)
  | simp only[go_sem]
  | (intro _)
  | refine brK_dec (fun _=>?_) (fun _=>?_)
  | refine brK_any ?_ ?_
  | refine gK_dec (fun _=>?_) (fun _=>?_)
  | refine gK_any ?_ ?_
  | refine gqK_dec (fun _=>?_) (fun _=>?_)
  | refine⟨by omega,?_⟩
  | refine elemHave (by omega) (by assumption) ?_
  | refine elemMap (by omega) (by omega) (fun x hx=>?_)
  | refine drawK mo (by kernel_rfl) ?_
  | (refine reads42T E hl ?_)
  | (exfalso;omega)
  | (refine elemK (AV.s s) (by omega) rfl ?_)
  | (refine pcK_of h21 ?_)
  | (simp only[map_snoc])
  | (refine⟨by have:=hpi.2;simp;omega,?_⟩)
  | (rw[on_done hpi (by assumption)];exact⟨_,rfl,false,.tok _ _ _⟩)
  | exact loopFr _ (by omega) ⟨i+1,acc++[x.On],b0,b1,_,by omega,rfl,on_take hpi (by assumption),rfl,(by first|rfl|(simp;done)|(simp;rfl))⟩ (.next rfl (by omega) (.cons (by first|rfl|(simp;done)|(simp;rfl)) .nil)) rfl
  | (refine loop_fr [5,9,29,30,31,32,33,34,35,36,37,38] (fun mm_ CC_ hh_=>∃(i:Nat) (acc:List ByteArray) (b0:Blk) (b1:Blk) (r_:List Blk),i≤l.length∧mm_=l.length-i∧((acc=readsF E++(l.take i).map DDecl.On∧acc.length≤(readsF E).length+i))∧CC_=[(29,.raw (.int .i64 ((i:Nat):Int))),(5,.lst 1 (acc.map AV.s) (some 2))]∧hh_=b0::b1::.tok 9 1 acc.length::r_) (l.length) _ ⟨0,readsF E,_,_,_,by omega,by omega,⟨by simp,by simp⟩,rfl,(by first|rfl|(simp;done)|(simp;rfl))⟩ (.cons (by first|rfl|(simp;done)|(simp;rfl)) (.cons (by first|rfl|(simp;done)|(simp;rfl)) .nil)) ?_;rintro mm_ CC_ ji hh_ ⟨i,acc,b0,b1,ri,hi,rfl,hpi,rfl,rfl⟩)
theorem hangs125 (n:DNode) (i:Nat) (q:DEq) (hq:n.Eqs[((i:Nat):Int).toNat]?=some q) (hl:okH n q):PCall Tryz.prog 153 [n.enc,.i (i:Int)] (.lst 1 ((hangsF n q).map AV.s) none):=by
 obtain⟨Ns,E⟩:=q
 obtain⟨hl,hn⟩:=hl
 have hil:(i:Int)<n.Eqs.length:=by
  obtain⟨a,_⟩:=List.getElem?_eq_some_iff.1 hq
  rw[Int.toNat_natCast] at a;omega
 refine pcall_of_vc tabOK Tryz.func153 (by kernel_rfl) rfl pureL pureI (n:=47) rfl (rs:=[.tmp 4]) rfl ?_
 rcases Ns with _|⟨s,ss⟩
 ·
  repeat' first
  | exact finB rfl
  | exact finI rfl
  | exact finP rfl
  | exact absurd rfl (by assumption)
  | simp only[go_sem]
  | (intro _)
  | refine brK_dec (fun _=>?_) (fun _=>?_)
  | refine brK_any ?_ ?_
  | refine gK_dec (fun _=>?_) (fun _=>?_)
  | refine gK_any ?_ ?_
  | refine gqK_dec (fun _=>?_) (fun _=>?_)
  | refine⟨by omega,?_⟩
  | refine elemHave (by omega) (by assumption) ?_
  | refine elemMap (by omega) (by omega) (fun x hx=>?_)
  | refine drawK mo (by kernel_rfl) ?_
  | (refine reads43T E hl ?_)
  | (simp only[hangsF,List.append_nil];exact⟨_,rfl,false,.tok _ _ _⟩)
  | (exact absurd rfl (by assumption))
 ·
  have hcl:=clock_len n s
  have h22:=clock22 n s hn
  unfold hangsF
  dsimp only
  generalize clock n s=c at hcl h22 ⊢
  obtain⟨l,ok⟩:=c
  dsimp only at hcl hl ⊢
  repeat' first
  | exact finB rfl
  | exact finI rfl
  | exact finP rfl
  | exact absurd rfl (by assumption)
  | simp only[go_sem]
  | (intro _)
  | refine brK_dec (fun _=>?_) (fun _=>?_)
  | refine brK_any ?_ ?_
  | refine gK_dec (fun _=>?_) (fun _=>?_)
  | refine gK_any ?_ ?_
  | refine gqK_dec (fun _=>?_) (fun _=>?_)
  | refine⟨by omega,?_⟩
  | refine elemHave (by omega) (by assumption) ?_
  | refine elemMap (by omega) (by omega) (fun x hx=>?_)
  | refine drawK mo (by kernel_rfl) ?_
  | (refine reads43T E hl ?_)
  | (exfalso;omega)
  | (refine elemK (AV.s s) (by omega) rfl ?_)
  | (refine pcK_of h22 ?_)
  | (simp only[map_snoc])
  | (refine⟨by have:=hpj.2;simp;omega,?_⟩)
  | (rw[on_done hpj (by assumption)];exact⟨_,rfl,false,.tok _ _ _⟩)
  | exact loopFr _ (by omega) ⟨j+1,acc++[x.On],b0,b1,_,by omega,rfl,on_take hpj (by assumption),rfl,(by first|rfl|(simp;done)|(simp;rfl))⟩ (.next rfl (by omega) (.cons (by first|rfl|(simp;done)|(simp;rfl)) .nil)) rfl
  | (refine loop_fr [6,9,32,33,34,35,36,37,38,39,40,41,42,43,44,45] (fun mm_ CC_ hh_=>∃(j:Nat) (acc:List ByteArray) (b0:Blk) (b1:Blk) (r_:List Blk),j≤l.length∧mm_=l.length-j∧((acc=readsF E++(l.take j).map DDecl.On∧acc.length≤(readsF E).length+j))∧CC_=[(9,.raw (.int .i64 ((j:Nat):Int))),(6,.lst 1 (acc.map AV.s) (some 2))]∧hh_=b0::b1::.tok 9 1 acc.length::r_) (l.length) _ ⟨0,readsF E,_,_,_,by omega,by omega,⟨by simp,by simp⟩,rfl,(by first|rfl|(simp;done)|(simp;rfl))⟩ (.cons (by first|rfl|(simp;done)|(simp;rfl)) (.cons (by first|rfl|(simp;done)|(simp;rfl)) .nil)) ?_;rintro mm_ CC_ jj hh_ ⟨j,acc,b0,b1,rj,hj,rfl,hpj,rfl,rfl⟩)
end Go.Proofs.YtpamokpmlplopaaGreatDoor
