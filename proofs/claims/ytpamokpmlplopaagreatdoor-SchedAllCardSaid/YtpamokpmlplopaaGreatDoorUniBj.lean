/-
  Sched9, NmSF, NmSE, NmSP, Sched10: put together.
-/
import Derived.Test.YtpamokpmlplopaaGreatDoorUniAn
import Derived.Test.YtpamokpmlplopaaGreatDoorUniAx
import Derived.Test.YtpamokpmlplopaaGreatDoorUniBd
import Derived.Test.YtpamokpmlplopaaGreatDoorUniBi
namespace Go.Proofs.YtpamokpmlplopaaGreatDoor
open Go.Abs
set_option maxRecDepth 20000
set_option linter.unusedSimpArgs false
set_option linter.unusedVariables false
set_option maxHeartbeats 1000000
attribute [local irreducible] vc vcOps vcStep vcGuard prK hrK gK gsK brK callK ElemK SeqK BlockK ScopeK OpsK CallK LoopK LoopGo finPost ACall PCall PCallE BCall vqOps vqStep vqGuard qrK heK pcK gqK gqsK QOpsK qcallK DrawK
abbrev zeroFlow:DFlow:=⟨⟨#[]⟩,[],[],[],[]⟩
abbrev zeroEq:DPlain:=⟨0,[],0,[],[],0,false,⟨⟨#[]⟩,0⟩,[]⟩
def flowF (f:DFlow):DFlow × Bool:=if(orderF (namesP f) (hangsP f)).2=true then(⟨f.Name,f.Ins,f.Outs,f.Vars,(orderF (namesP f) (hangsP f)).1.map fun i=>f.Eqs.getD i zeroEq⟩,true) else(zeroFlow,false)
abbrev flowA (p:DFlow × Bool):AV:=.tup [p.1.enc,.b p.2]
theorem pure_flowA (p:DFlow × Bool):Go.Abs.Pure (flowA p):=.tup _ (pure_cons (DFlow.pure _) (pure_cons (.raw _) pure_nil))
theorem order_lt (f:DFlow):∀ j∈(orderF (namesP f) (hangsP f)).1,j<f.Eqs.length:=by
 rw[← len_names f]
 exact order_lens _ _ _ (by simp)
theorem order_le (f:DFlow):(orderF (namesP f) (hangsP f)).1.length≤f.Eqs.length:=by
 have:=order_len (N:=namesP f) (H:=hangsP f) (namesP f).length (List.replicate (namesP f).length false) []
 rw[len_names] at this
 simpa[orderF,len_names] using this
theorem map_snocP (l:List DPlain) (x:DPlain):l.map DPlain.enc++[x.enc]=(l++[x]).map DPlain.enc:=by simp
def okEqs (f:DFlow) (out:List Nat) (i:Nat) (acc:List DPlain):Prop:=acc=(out.take i).map (fun i=>f.Eqs.getD i zeroEq)∧acc.length≤i
theorem okEqs.zero {f:DFlow} {out:List Nat}:okEqs f out 0 []:=⟨by simp,by simp⟩
theorem okEqs.next {f:DFlow} {out:List Nat} {i e:Nat} {acc:List DPlain} {x:DPlain} (h:okEqs f out i acc) (he:out[((i:Nat):Int).toNat]?=some e) (hx:f.Eqs[((e:Nat):Int).toNat]?=some x):okEqs f out (i+1) (acc++[x]):=by
 refine⟨?_,by have:=h.2;simp;omega⟩
 rw[Int.toNat_natCast] at hx
 rw[take_mapS he,h.1,List.getD_eq_getElem?_getD,hx]
 rfl
theorem okEqs.done {f:DFlow} {out:List Nat} {i:Nat} {acc:List DPlain} (h:okEqs f out i acc) (hi:¬ (i:Int)<out.length):out.map (fun i=>f.Eqs.getD i zeroEq)=acc:=by
 rw[h.1,List.take_of_length_le (by omega)]
theorem weak_noF {p:DFlow × Bool}:Weak (.tup [.agg [.raw (.string ⟨#[]⟩),.raw (.slice none 0 0),.raw (.slice none 0 0),.raw (.slice none 0 0),.raw (.slice none 0 0)],.b false]) (flowA (if false=true then p else(zeroFlow,false))):=by
 rw[if_neg (by decide)]
 show Weak _ (.tup [zeroFlow.enc,.b false])
 rw[DFlow.enc_eq]
 exact Weak.tups2 ⟨Weak.aggs ⟨.refl _,.nil _,.nil _,.nil _,.nil _,trivial⟩,.refl _,trivial⟩
theorem weak_okF (f:DFlow) (acc:List DPlain) (k:Nat):Weak (.tup [.agg [.s f.Name,.lst 5 (f.Ins.map DVar.enc) none,.lst 5 (f.Outs.map DVar.enc) none,.lst 5 (f.Vars.map DVar.enc) none,.lst 10 (acc.map DPlain.enc) (some k)],.b true]) (flowA (if true=true then(⟨f.Name,f.Ins,f.Outs,f.Vars,acc⟩,true) else(zeroFlow,false))):=by
 rw[if_pos rfl]
 show Weak _ (.tup [DFlow.enc _,.b true])
 rw[DFlow.enc_eq]
 exact Weak.tups2 ⟨Weak.aggs ⟨.refl _,.refl _,.refl _,.refl _,.tok _ _ _,trivial⟩,.refl _,trivial⟩
theorem flow31 (f:DFlow) (hf:okFlow f):PCall Tryz.prog 49 [f.enc] (flowA (flowF f)):=by
 have hlt:=order_lt f
 have hle:=order_le f
 have hn:=hf.1
 have h29:=order29 f hf
 unfold flowF
 generalize orderF (namesP f) (hangsP f)=R at hlt hle h29 ⊢
 obtain⟨out,ok⟩:=R
 dsimp only at hlt hle
 refine pcall_of_vc tabOK Tryz.func49 (by kernel_rfl) rfl (by first|exact pureL|exact pureI) (pure_flowA _) (n:=38) rfl (rs:=[.cell 2 37,.tmp 3]) rfl ?_
 simp only[go_sem]
 refine PCall.call h29 ?_
 cases ok
 ·
  simp only[go_sem]
  exact⟨_,rfl,false,weak_noF⟩
 ·
  repeat' first
  | exact finB rfl
  | exact finI rfl
  | exact finP rfl
  | exact absurd rfl (by assumption)
  | simp only[go_sem]
  | (intro _)
  | refine brK_dec (fun _=>?_) (fun _=>?_)
  | refine brK_any ?_ ?_
  | refine gK_dec (fun _=>?_) (fun _=>?_)
  | refine gK_any ?_ ?_
  | refine gqK_dec (fun _=>?_) (fun _=>?_)
  | refine⟨by omega,?_⟩
  | refine elemHave (by omega) (by assumption) ?_
  | ((fail_if_success (clear he));refine elemMap (by omega) (by omega) (fun e he=>?_))
  | refine elemMap (by omega) (by omega) (fun x hx=>?_)
  | refine drawK mo (by kernel_rfl) ?_
  | (simp only[map_snocP])
  | ((fail_if_success (clear hel));have hel:=hlt e (List.mem_of_getElem? he))
  | (refine⟨by have:=hpi.2;simp;omega,?_⟩)
  | (refine⟨mono_app _ _,?_⟩)
  | (rw[hpi.done (by assumption)];exact⟨_,rfl,false,weak_okF _ _ _⟩)
  | exact loopFr _ (by omega) ⟨i+1,acc++[x],_,by omega,rfl,hpi.next he hx,rfl,(by first|rfl|(simp;done)|(simp;rfl))⟩ (.next rfl (by omega) (.cons (by first|rfl|(simp;done)|(simp;rfl)) .nil)) rfl
  | (refine loop_fr [6,8,22,23,24,25,26,27,28,29,30,31,32,33,34] (fun mm_ CC_ hh_=>∃(i:Nat) (acc:List DPlain) (r_:List Blk),i≤out.length∧mm_=out.length-i∧(okEqs f out i acc)∧CC_=[(22,.raw (.int .i64 ((i:Nat):Int))),(6,.lst 10 (acc.map DPlain.enc) (some 2))]∧hh_=flowB f::.cells 37 [.raw (.string ⟨#[]⟩),.raw (.slice none 0 0),.raw (.slice none 0 0),.raw (.slice none 0 0),.raw (.slice none 0 0)]::.tok 53 10 (acc.map DPlain.enc).length::r_) (out.length) _ ⟨0,[],_,by omega,by omega,.zero,rfl,(by first|rfl|(simp;done)|(simp;rfl))⟩ (.cons (by first|rfl|(simp;done)|(simp;rfl)) (.cons (by first|rfl|(simp;done)|(simp;rfl)) .nil)) ?_;rintro mm_ CC_ ji hh_ ⟨i,acc,ri,hi,rfl,hpi,rfl,rfl⟩)
theorem flow32 (f:DFlow) (hf:okFlow f):PCall Tryz.prog 50 [f.enc] (flowA (flowF f)):=by
 have hlt:=order_lt f
 have hle:=order_le f
 have hn:=hf.1
 have h29:=order30 f hf
 unfold flowF
 generalize orderF (namesP f) (hangsP f)=R at hlt hle h29 ⊢
 obtain⟨out,ok⟩:=R
 dsimp only at hlt hle
 refine pcall_of_vc tabOK Tryz.func50 (by kernel_rfl) rfl (by first|exact pureL|exact pureI) (pure_flowA _) (n:=37) rfl (rs:=[.cell 2 37,.tmp 3]) rfl ?_
 simp only[go_sem]
 refine PCall.call h29 ?_
 cases ok
 ·
  simp only[go_sem]
  exact⟨_,rfl,false,weak_noF⟩
 ·
  repeat' first
  | exact finB rfl
  | exact finI rfl
  | exact finP rfl
  | exact absurd rfl (by assumption)
  | simp only[go_sem]
  | (intro _)
  | refine brK_dec (fun _=>?_) (fun _=>?_)
  | refine brK_any ?_ ?_
  | refine gK_dec (fun _=>?_) (fun _=>?_)
  | refine gK_any ?_ ?_
  | refine gqK_dec (fun _=>?_) (fun _=>?_)
  | refine⟨by omega,?_⟩
  | refine elemHave (by omega) (by assumption) ?_
  | ((fail_if_success (clear he));refine elemMap (by omega) (by omega) (fun e he=>?_))
  | refine elemMap (by omega) (by omega) (fun x hx=>?_)
  | refine drawK mo (by kernel_rfl) ?_
  | (simp only[map_snocP])
  | ((fail_if_success (clear hel));have hel:=hlt e (List.mem_of_getElem? he))
  | (refine⟨by have:=hpi.2;simp;omega,?_⟩)
  | (refine⟨mono_app _ _,?_⟩)
  | (rw[hpi.done (by assumption)];exact⟨_,rfl,false,weak_okF _ _ _⟩)
  | exact loopFr _ (by omega) ⟨i+1,acc++[x],_,by omega,rfl,hpi.next he hx,rfl,(by first|rfl|(simp;done)|(simp;rfl))⟩ (.next rfl (by omega) (.cons (by first|rfl|(simp;done)|(simp;rfl)) .nil)) rfl
  | (refine loop_fr [6,7,17,18,19,20,21,22,23,24,25,26,27,28,29,30,31,32,33] (fun mm_ CC_ hh_=>∃(i:Nat) (acc:List DPlain) (r_:List Blk),i≤out.length∧mm_=out.length-i∧(okEqs f out i acc)∧CC_=[(7,.raw (.int .i64 ((i:Nat):Int))),(6,.lst 10 (acc.map DPlain.enc) (some 2))]∧hh_=flowB f::.cells 37 [.raw (.string ⟨#[]⟩),.raw (.slice none 0 0),.raw (.slice none 0 0),.raw (.slice none 0 0),.raw (.slice none 0 0)]::.tok 53 10 (acc.map DPlain.enc).length::r_) (out.length) _ ⟨0,[],_,by omega,by omega,.zero,rfl,(by first|rfl|(simp;done)|(simp;rfl))⟩ (.cons (by first|rfl|(simp;done)|(simp;rfl)) (.cons (by first|rfl|(simp;done)|(simp;rfl)) .nil)) ?_;rintro mm_ CC_ ji hh_ ⟨i,acc,ri,hi,rfl,hpi,rfl,rfl⟩)
abbrev liveP1:DPlain:=⟨1,[⟨#[97]⟩],0,[⟨⟨#[98]⟩,0⟩],[],0,false,⟨⟨#[]⟩,0⟩,[]⟩
abbrev liveP2:DPlain:=⟨5,[⟨#[98]⟩],0,[⟨⟨#[97]⟩,0⟩],[0],0,false,⟨⟨#[]⟩,0⟩,[]⟩
abbrev liveF:DFlow:=⟨⟨#[]⟩,[],[],[],[liveP1,liveP2]⟩
theorem live_order:orderF (namesP liveF) (hangsP liveF)=([1,0],true):=by decide +kernel
theorem live_ok:okFlow liveF:=⟨by decide,by intro q hq;simp at hq;rcases hq with rfl|rfl<;>decide⟩
def schedN (N:List DFlow):List DFlow:=N.map fun f=>(flowF f).1
def schedB (N:List DFlow):Bool:=N.all fun f=>(flowF f).2
theorem flow5 (x:DFlow):∃ a b c d e,x.enc.cells=[a,b,c,d,e]:=⟨_,_,_,_,_,DFlow.enc_cells x⟩
theorem flat_flow (x:DFlow) (L:List DFlow):flat ((x::L).map DFlow.enc)=x.enc.cells++flat (L.map DFlow.enc):=rfl
theorem take_flow {f:DFlow} (rest:List AV):∀(L:List DFlow) (i:Nat),L[i]?=some f→takeN 5 ((flat (L.map DFlow.enc)++rest).drop (i * 5))=some f.enc.cells
 | [],i,h=>by simp at h
 | x::L,0,h=>by
  simp at h
  subst h
  rw[flat_flow]
  obtain⟨a,b,c,d,e,h⟩:=flow5 x
  rw[h]
  rfl
 | x::L,i+1,h=>by
  have:=take_flow rest L i (by simpa using h)
  rw[show(i+1) * 5=i * 5+5 by omega,flat_flow]
  obtain⟨a,b,c,d,e,h⟩:=flow5 x
  rw[h]
  exact this
theorem put_flow (g:DFlow) (rest:List AV):∀(L:List DFlow) (i:Nat),i<L.length→putAt (flat (L.map DFlow.enc)++rest) (i * 5) g.enc.cells=flat ((L.set i g).map DFlow.enc)++rest
 | [],i,h=>by simp at h
 | x::L,0,h=>by
  rw[List.set_cons_zero,flat_flow,flat_flow]
  obtain⟨a,b,c,d,e,h⟩:=flow5 x
  obtain⟨a',b',c',d',e',h'⟩:=flow5 g
  rw[h,h']
  rfl
 | x::L,i+1,h=>by
  have:=put_flow g rest L i (by simpa using h)
  rw[show(i+1) * 5=i * 5+5 by omega,List.set_cons_succ,flat_flow,flat_flow]
  obtain⟨a,b,c,d,e,h⟩:=flow5 x
  obtain⟨a',b',c',d',e',h'⟩:=flow5 g
  rw[h] at *
  rw[h'] at this ⊢
  show putAt (a::b::c::d::e::(flat (L.map DFlow.enc)++rest)) (i * 5+5) _=a::b::c::d::e::(flat ((L.set i g).map DFlow.enc)++rest)
  rw[← this]
  rfl
theorem flat_flowL:∀ L:List DFlow,(flat (L.map DFlow.enc)).length=L.length * 5
 | []=>rfl
 | x::L=>by
  rw[flat_flow,List.length_append,flat_flowL L,DFlow.enc_cells,List.length_cons]
  simp only[List.length_cons,List.length_nil]
  omega
theorem sched_get {N:List DFlow} {i:Nat} {f:DFlow} (hf:N[i]?=some f):(schedN (N.take i)++N.drop i)[i]?=some f:=by
 have hi:=(List.getElem?_eq_some_iff.1 hf).1
 have hl:(schedN (N.take i)).length=i:=by unfold schedN;rw[List.length_map,List.length_take];omega
 rw[List.getElem?_append_right (by omega),hl,Nat.sub_self,List.getElem?_drop,Nat.add_zero]
 exact hf
theorem sched_set {N:List DFlow} {i:Nat} {f:DFlow} (hf:N[i]?=some f):(schedN (N.take i)++N.drop i).set i (flowF f).1=schedN (N.take (i+1))++N.drop (i+1):=by
 obtain⟨hi,he⟩:=List.getElem?_eq_some_iff.1 hf
 have hl:(schedN (N.take i)).length=i:=by unfold schedN;rw[List.length_map,List.length_take];omega
 rw[List.set_append_right _ _ (by omega),hl,Nat.sub_self,List.drop_eq_getElem_cons hi,List.set_cons_zero,List.take_add_one,hf]
 simp[schedN]
theorem sched_len {N:List DFlow} {i:Nat} (hi:i≤N.length):(schedN (N.take i)++N.drop i).length=N.length:=by simp[schedN];omega
theorem schedB_next {N:List DFlow} {i:Nat} {f:DFlow} (hf:N[i]?=some f):schedB (N.take (i+1))=(schedB (N.take i)&&(flowF f).2):=by
 unfold schedB
 rw[List.take_add_one,hf,List.all_append]
 simp
theorem schedW (p:DProg) (hp:okProg p) (N:List DFlow) (hN:N.length≤10) (hok:∀ f∈N,okFlow f)
  (hnf:∀(h:List Blk) (K:AV→List Blk→Prop),(∀ rest,(∀ c∈rest,Go.Abs.Pure c)→K (.tup [.agg [.lst 2 (p.Enums.map DEnum.enc) none,.sl 5 h.length 0 (N.map DFlow.enc).length],.b true]) (h++[.cells 37 (flat (N.map DFlow.enc)++rest)]))→ACall Tryz.prog 10 [p.enc] h K) :
  PCall Tryz.prog 23 [p.enc] (flowsA (if schedB N=true then(⟨p.Enums,schedN N⟩,true) else(⟨[],[]⟩,false))):=by
 refine pcallF_of_vc tabOK Tryz.func23 (by kernel_rfl) rfl (by first|exact pureL|exact pureI) (pure_flowsA _) (n:=42) rfl (rs:=[.cell 2 30,.tmp 3]) rfl ?_
 simp only[go_sem]
 refine hnf _ _ fun rest hrest=>?_
 simp only[go_sem]
 intro _
 refine loop_fr [5,6,7,8,9,18,19,20,21,22,23,24,25,26,27,28,29,30,31,32,33,34,35,36,37] (fun mm C hh=>∃(i:Nat) (r':List Blk),i≤N.length∧mm=N.length-i∧C=[(5,.b (schedB (N.take i))),(18,.raw (.int .i64 (i:Nat)))] ∧
  hh=.cells 25 [.lst 2 (p.Enums.map DEnum.enc) none,.lst 5 (p.Nodes.map DNode.enc) none]::.cells 30 [.raw (.slice none 0 0),.raw (.slice none 0 0)] ::
   .cells 37 (flat ((schedN (N.take i)++N.drop i).map DFlow.enc)++rest)::.cells 30 [.lst 2 (p.Enums.map DEnum.enc) none,.sl 5 2 0 N.length]::r') N.length _ ⟨0,[],by omega,by omega,rfl,?_⟩ (.cons rfl (.cons rfl .nil)) ?_
 ·
  simp[schedN]
 rintro mm C j hh ⟨i,r',hi,rfl,rfl,rfl⟩
 simp only[go_sem]
 refine brK_dec (fun hlt=>?_) (fun hge=>?_)
 ·
  obtain⟨f,hf⟩:∃ f,N[i]?=some f:=⟨_,List.getElem?_eq_getElem (by omega)⟩
  have hof:=hok f (List.mem_of_getElem? hf)
  have h31:=flow31 f hof
  have htk:=take_flow rest _ _ (sched_get hf)
  have hpt:=put_flow (flowF f).1 rest _ i (by rw[sched_len hi];omega)
  rw[sched_set hf] at hpt
  have hnb:=schedB_next hf
  have hLn:=sched_len hi
  generalize schedN (N.take i)++N.drop i=L at htk hpt hLn ⊢
  generalize schedB (N.take i)=B at hnb ⊢
  generalize flowF f=g at h31 hpt hnb
  obtain⟨g,gb⟩:=g
  simp only[go_sem]
  refine And.intro (by omega) ?_
  simp only[Int.toNat_natCast,htk]
  simp only[go_sem,Int.toNat_natCast,htk,DFlow.enc_cells,DFlow.fold]
  refine PCall.call h31 ?_
  have hLl:(flat (L.map DFlow.enc)).length=N.length * 5:=by rw[flat_flowL,hLn]
  have hle:(i * 5+5≤(flat (L.map DFlow.enc)).length+rest.length)=True:=eq_true (by omega)
  rw[DFlow.enc_cells] at hpt
  have hpt':((((((flat (List.map DFlow.enc L)++rest).set (i * 5) (AV.s g.Name)).set (i * 5+1) (AV.lst 5 (List.map DVar.enc g.Ins) none)).set (i * 5+1+1) (AV.lst 5 (List.map DVar.enc g.Outs) none)).set
   (i * 5+1+1+1) (AV.lst 5 (List.map DVar.enc g.Vars) none)).set (i * 5+1+1+1+1) (AV.lst 10 (List.map DPlain.enc g.Eqs) none))=_:=hpt
  cases B<;>cases gb<;>simp only[go_sem,Int.toNat_natCast,hpt',hle,Nat.zero_add]<;>refine And.intro (by omega) ?_ <;>
   exact loopFr _ (by omega) ⟨i+1,_,by omega,rfl,rfl,rfl⟩ (.cons (by simp[hnb]) (.next rfl (by omega) .nil)) rfl
 ·
  obtain rfl:i=N.length:=by omega
  rw[List.take_length,List.drop_length,List.append_nil]
  have hnl:(schedN N).length=N.length:=by simp[schedN]
  generalize schedB N=B
  generalize schedN N=L at hnl ⊢
  cases B<;>simp only[go_sem]
  ·
   refine⟨_,rfl,_,_,.refl _,.base _ _ (.inl rfl),?_⟩
   rw[if_neg (by decide)]
   show Weak _ (.tup [DFlows.enc _,.b false])
   rw[DFlows.enc_eq]
   exact Weak.tups2 ⟨Weak.aggs ⟨.nil _,.nil _,trivial⟩,.refl _,trivial⟩
  ·
   refine⟨_,rfl,_,.tup [.agg [.lst 2 (p.Enums.map DEnum.enc) none,.lst 5 (L.map DFlow.enc) none],.b true],.refl _,Turn.tups ⟨Turn.aggs ⟨.base _ _ (.inl rfl),.base _ _ (.inr ⟨5,2,_,L.map DFlow.enc,rest,by simp[hnl],rfl,rfl,?_⟩),trivial⟩,.base _ _ (.inl rfl),trivial⟩,?_⟩
   ·
    intro x hx
    obtain⟨y,_,rfl⟩:=List.mem_map.1 hx
    rw[DFlow.enc_cells]
    rfl
   ·
    rw[if_pos trivial]
    show Weak _ (.tup [DFlows.enc _,.b true])
    rw[DFlows.enc_eq]
    exact .refl _
noncomputable def schedF (p:DProg):DFlows × Bool:=if(normF p).2=true∧schedB (normF p).1.Flows=true then(⟨(normF p).1.Enums,schedN (normF p).1.Flows⟩,true) else(⟨[],[]⟩,false)
theorem weak_noFs:Weak (.tup [.agg [.raw (.slice none 0 0),.raw (.slice none 0 0)],.b false]) (flowsA (⟨[],[]⟩,false)):=by
 show Weak _ (.tup [DFlows.enc _,.b false])
 rw[DFlows.enc_eq]
 exact Weak.tups2 ⟨Weak.aggs ⟨.nil _,.nil _,trivial⟩,.refl _,trivial⟩
theorem schedB_no {N:List DFlow} {i:Nat} {f:DFlow} (hf:N[i]?=some f) (h:(flowF f).2=false):¬ schedB N=true:=fun hb=>by
 have:=List.all_eq_true.1 hb f (List.mem_of_getElem? hf)
 rw[h] at this
 cases this
theorem schedN_next {N:List DFlow} {i:Nat} {f:DFlow} (hf:N[i]?=some f):schedN (N.take (i+1))=schedN (N.take i)++[(flowF f).1]:=by
 unfold schedN
 rw[List.take_add_one,hf]
 simp
theorem norm_okF (p:DProg) (hp:okProg p):(normF p).1.Flows.length≤10∧∀ f∈(normF p).1.Flows,okFlow f:=by
 by_cases h0:(startF p).Err=0
 ·
  rw[norm_ok h0]
  dsimp only
  have hl:=nodesNm_len p p.Nodes 0
  have hpl:=hp.2.1
  refine⟨by omega,fun f hf=>?_⟩
  obtain⟨k,hk,rfl⟩:=List.getElem_of_mem hf
  have h1:=nodesNm_at p (l:=p.Nodes) (i:=0) (j:=k)
  rw[List.getElem?_eq_getElem hk] at h1
  cases hn:p.Nodes[k]? with
  | none=>rw[hn] at h1;cases h1
  | some n =>
   rw[hn,Nat.zero_add] at h1
   have h2:(nodesNm p 0 p.Nodes)[k]=flowNm p (k:Int) n:=Option.some.inj h1
   rw[h2]
   have h3:=flow_sz h0 hp hn
   exact⟨h3.2.1,h3.1⟩
 ·
  rw[norm_no h0]
  simp
theorem check_ne {p:DProg} (h:checkF p=0):p.Nodes≠[]:=fun q=>by
 unfold checkF at h
 split at h
 ·
  rename_i hne
  exact hne h
 ·
  rw[q] at h
  simp at h
theorem norm_cells (p:DProg) (hp:okProg p) (h0:(startF p).Err=0) (h:List Blk) (K:AV→List Blk→Prop)
  (hK:∀ rest,(∀ c∈rest,Go.Abs.Pure c)→K (.tup [.agg [.lst 2 (p.Enums.map DEnum.enc) none,.sl 5 h.length 0 ((nodesNm p 0 p.Nodes).map DFlow.enc).length],.b true]) (h++[.cells 37 (flat ((nodesNm p 0 p.Nodes).map DFlow.enc)++rest)])) :
  ACall Tryz.prog 10 [p.enc] h K:=by
 have ht:Turn (MovSl h.length) (.tup [.agg [.lst 2 (p.Enums.map DEnum.enc) none,.sl 5 0 0 ((nodesNm p 0 p.Nodes).map DFlow.enc).length],.b true])
   (.tup [.agg [.lst 2 (p.Enums.map DEnum.enc) none,.sl 5 h.length 0 ((nodesNm p 0 p.Nodes).map DFlow.enc).length],.b true]) :=
  Turn.tups ⟨Turn.aggs ⟨.base _ _ (.inl ⟨rfl,DEnum.pures _⟩),.base _ _ (.inr ⟨5,_,rfl,rfl⟩),trivial⟩,.base _ _ (.inl ⟨rfl,.raw _⟩),trivial⟩
 exact ocall (fun KK hk=>flows10e p hp h0 (check_ne (start_eqs h0).1) KK hk) (by first|exact pureL|exact pureI) (flat_pureO (DFlow.pures _)) ht hK
theorem sched0 (p:DProg) (hx:PCall Tryz.prog 10 [p.enc] (flowsA (⟨[],[]⟩,false))):PCall Tryz.prog 23 [p.enc] (flowsA (⟨[],[]⟩,false)):=by
 refine pcall_of_vc tabOK Tryz.func23 (by kernel_rfl) rfl (by first|exact pureL|exact pureI) (pure_flowsA _) (n:=42) rfl (rs:=[.cell 2 30,.tmp 3]) rfl ?_
 simp only[go_sem]
 refine PCall.call hx ?_
 simp only[go_sem,DFlows.enc_cells]
 intro _
 refine loop_fr [5,6,7,8,9,18,19,20,21,22,23,24,25,26,27,28,29,30,31,32,33,34,35,36,37] (fun mm C hh=>∃(r':List Blk),mm=0∧C=[(5,.b false),(18,.raw (.int .i64 0))] ∧
  hh=.cells 25 [.lst 2 (p.Enums.map DEnum.enc) none,.lst 5 (p.Nodes.map DNode.enc) none]::.cells 30 [.raw (.slice none 0 0),.raw (.slice none 0 0)] ::
   .cells 30 [.lst 2 [] none,.lst 5 [] none]::r') 0 _ ⟨[],rfl,rfl,rfl⟩ (.cons rfl (.cons rfl .nil)) ?_
 rintro mm C j hh ⟨r',rfl,rfl,rfl⟩
 simp only[go_sem]
 refine brK_dec (fun h=>absurd h (by decide)) (fun _=>?_)
 simp only[go_sem]
 exact⟨_,rfl,false,weak_noFs⟩
theorem flows9 (p:DProg) (hp:okProg p):PCall Tryz.prog 23 [p.enc] (flowsA (schedF p)):=by
 unfold schedF
 by_cases h0:(startF p).Err=0
 ·
  have hok:=norm_okF p hp
  rw[norm_ok h0] at hok ⊢
  dsimp only at hok ⊢
  have h:=schedW p hp (nodesNm p 0 p.Nodes) hok.1 hok.2 (norm_cells p hp h0)
  simpa using h
 ·
  have h10:=flows10 p hp
  rw[norm_no h0] at h10 ⊢
  rw[if_neg (by simp)]
  exact sched0 p h10
abbrev p1 (a b:Nat):AV:=.agg [.i 1,.lst 1 [.s ⟨#[97]⟩] (some a),.i 0,.lst 2 [.agg [.s ⟨#[98]⟩,.i 0]] (some b),.raw (.slice none 0 0),.i 0,.b false,.s ⟨#[]⟩,.i 0,.raw (.slice none 0 0)]
abbrev p2 (a b c:Nat):AV:=.agg [.i 5,.lst 1 [.s ⟨#[98]⟩] (some a),.i 0,.lst 2 [.agg [.s ⟨#[97]⟩,.i 0]] (some b),.lst 1 [.i 0] (some c),.i 0,.b false,.s ⟨#[]⟩,.i 0,.raw (.slice none 0 0)]
theorem weakF (a b c d e g:Nat):Weak (.agg [.s ⟨#[]⟩,.raw (.slice none 0 0),.raw (.slice none 0 0),.raw (.slice none 0 0),.lst 10 [p1 a b,p2 c d e] (some g)]) liveF.enc:=by
 rw[DFlow.enc_eq]
 refine Weak.aggs ⟨.refl _,.nil _,.nil _,.nil _,?_,trivial⟩
 refine Weak.lsts rfl (by intro e he;simp at he;rcases he with rfl|rfl<;>(rw[DPlain.enc_cells];rfl)) ?_
 simp only[List.map_cons,List.map_nil,DPlain.enc_eq,flat_nil,flat_agg,List.cons_append,List.nil_append,DAtom.enc_eq]
 repeat' first|exact trivial|exact .nil _|exact .refl _|exact .tok _ _ _|refine⟨?_,?_⟩
theorem live28 :PCall Tryz.prog 22 [] (.b true):=by
 refine pcall_of_vc tabOK Tryz.func22 (by kernel_rfl) rfl pureL pureI (n:=28) rfl (rs:=[.tmp 0]) rfl ?_
 simp only[go_sem]
 refine PCall.callW (order29 liveF live_ok) ⟨weakF _ _ _ _ _ _,trivial⟩ ?_
 rw[live_order]
 simp only[go_sem]
 refine PCall.callW (ints33 [1,0] [1,0]) ⟨.refl _,.tok _ _ _,trivial⟩ ?_
 rw[eqB_eq rfl]
 simp only[go_sem]
 exact finP rfl
end Go.Proofs.YtpamokpmlplopaaGreatDoor
