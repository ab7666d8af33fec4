/-
  NmDg, NmX0, NmX1, NmX2: put together.
-/
import Derived.Test.YtpamokpmlplopaaGreatDoorUniAf
import Derived.Test.YtpamokpmlplopaaGreatDoorUniAg
import Derived.Test.YtpamokpmlplopaaGreatDoorUniBb
import Derived.Test.YtpamokpmlplopaaGreatDoorUniBc
import Derived.Test.YtpamokpmlplopaaGreatDoorUniBd
namespace Go.Proofs.YtpamokpmlplopaaGreatDoor
open Go.Abs
set_option maxRecDepth 20000
set_option linter.unusedSimpArgs false
set_option linter.unusedVariables false
set_option maxHeartbeats 1000000
attribute [local irreducible] vc vcOps vcStep vcGuard prK hrK gK gsK brK callK ElemK SeqK BlockK ScopeK OpsK CallK LoopK LoopGo finPost ACall PCall PCallE BCall vqOps vqStep vqGuard qrK heK pcK gqK gqsK QOpsK qcallK DrawK
theorem bytes_extD {a b:ByteArray} (h:a.data.toList=b.data.toList):a=b:=by
 cases a;cases b
 congr
 exact Array.toList_inj.1 h
theorem app_listD (a b:ByteArray):(a++b).data.toList=a.data.toList++b.data.toList:=by
 rw[ByteArray.data_append]
 simp
theorem finSqD {T:TypeId→TI} {rs:List ResultVar} {s:List AV} {h:List Blk} {a b:ByteArray} (hr:resAV T s h rs=some [.s a]) (he:a=b):Go.Abs.Fin T rs (.s b) s h:=he▸⟨_,hr,false,.refl _⟩
theorem size_listD (a:ByteArray):a.size=a.data.toList.length:=by unfold ByteArray.size;simp
theorem u64_in (x:Int) (h1:0≤x) (h2:x<18446744073709551616):IntKind.u64.wrap x=x:=by
 unfold IntKind.wrap
 simp[IntKind.bits,IntKind.signed]
 omega
theorem u8_in (x:Int) (h1:0≤x) (h2:x<256):IntKind.u8.wrap x=x:=by
 unfold IntKind.wrap
 simp[IntKind.bits,IntKind.signed]
 omega
theorem u64_neg (n:Int) (h:I64 n) (hn:n<0):IntKind.u64.wrap (0-IntKind.u64.wrap n)=(n.natAbs:Int):=by
 obtain⟨h1,h2⟩:=h
 unfold IntKind.wrap
 simp[IntKind.bits,IntKind.signed]
 omega
theorem u64_pos (n:Int) (h:I64 n) (hn:¬ n<0):IntKind.u64.wrap n=(n.natAbs:Int):=by
 obtain⟨h1,h2⟩:=h
 rw[u64_in n (by omega) (by omega)]
 omega
def preD (v:Nat) (t:List UInt8):List UInt8:=if v=0∧t≠[] then [] else Lib.decDigits v
theorem preD_step {v:Nat} {t:List UInt8} (h:¬ (v=0∧t≠[])):preD (v / 10) (UInt8.ofNat (48+v % 10)::t)++UInt8.ofNat (48+v % 10)::t=preD v t++t:=by
 unfold preD
 rw[if_neg h]
 by_cases hv:v<10
 ·
  rw[if_pos ⟨by omega,by simp⟩,Lib.decDigits_one hv,Nat.mod_eq_of_lt hv]
  rfl
 ·
  rw[if_neg (by omega)]
  conv=>rhs;rw[Lib.decDigits,dif_neg hv]
  simp
theorem preD_end {v:Nat} {t:List UInt8} (h:v=0∧t≠[]):preD v t++t=t:=by
 unfold preD
 rw[if_pos h]
 rfl
theorem itoa_abs (n:Int):Lib.itoa n=(if n<0 then 45::Lib.decDigits n.natAbs else Lib.decDigits n.natAbs):=by
 unfold Lib.itoa
 split
 ·
  rfl
 ·
  rw[show n.toNat=n.natAbs by omega]
theorem digits_len (u:Nat) (h:u≤9223372036854775808):(Lib.decDigits u).length≤21:=by
 have:=Lib.itoa_length_le (-(u:Int)) (by omega) (by omega)
 rw[itoa_abs] at this
 split at this
 ·
  rw[List.length_cons,show(-(u:Int)).natAbs=u by omega] at this
  omega
 ·
  rw[show(-(u:Int)).natAbs=u by omega] at this
  omega
theorem size0_list {t:ByteArray}:t.data.toList=[]↔t=⟨#[]⟩:=by
 constructor
 ·
  intro h
  exact bytes_extD (by rw[h])
 ·
  rintro rfl
  rfl
theorem digit_byte (v:Nat):UInt8.ofNat (IntKind.u8.wrap (IntKind.u64.wrap (48+((v:Int)).tmod 10))).toNat=UInt8.ofNat (48+v % 10):=by
 have h:((v:Int)).tmod 10=((v % 10:Nat):Int):=by
  rw[Int.tmod_eq_emod_of_nonneg (by omega)]
  omega
 rw[h,u64_in _ (by omega) (by omega),u8_in _ (by omega) (by omega)]
 congr 1
theorem digit_rest (v:Nat) (h:v<18446744073709551616):IntKind.u64.wrap (((v:Int)).tdiv 10)=((v / 10:Nat):Int):=by
 have h':((v:Int)).tdiv 10=((v / 10:Nat):Int):=by
  rw[Int.tdiv_eq_ediv_of_nonneg (by omega)]
  omega
 rw[h',u64_in _ (by omega) (by omega)]
theorem arr_one (x:UInt8):(#[x]:Array UInt8).size=1:=rfl
theorem one_list (x:UInt8) (t:ByteArray):((⟨#[x]⟩:ByteArray)++t).data.toList=x::t.data.toList:=by rw[app_listD];rfl
theorem digits59 (n:Int) (h:I64 n):PCall Tryz.prog 108 [.i n] (.s (digB n)):=by
 obtain⟨h1,h2⟩:=h
 obtain⟨U,hU⟩:∃ U:Nat,U=n.natAbs:=⟨_,rfl⟩
 have hlen:=digits_len U (by omega)
 have goal2:∀ t:ByteArray,t.data.toList=Lib.decDigits U→digB n=if n<0 then⟨#[45]⟩++t else t:=by
  intro t ht
  apply bytes_extD
  unfold digB
  rw[itoa_abs,← hU,← ht]
  split
  ·
   rw[app_listD];simp
  ·
   simp
 refine pcall_of_vc tabOK Tryz.func108 (by kernel_rfl) rfl pureL pureI (n:=32) rfl (rs:=[.tmp 2]) rfl ?_
 simp only[go_sem]
 refine brK_dec (fun hneg=>?_) (fun hneg=>?_)
 ·
  simp only[go_sem]
  rw[u64_neg n ⟨h1,h2⟩ hneg,← hU]
  refine loop_fr [3,4,11,12,13,14,15,16,17,18,19,20,21,22,23,24,25,26] (fun m C hh=>∃(v:Nat) (t:ByteArray) (r:List Blk),v≤U∧preD v t.data.toList++t.data.toList=Lib.decDigits U∧m=v+(if t.data.toList=[] then 1 else 0)∧C=[(3,.raw (.int .u64 (v:Nat))),(4,.s t)]∧hh=r) (U+1) _ ⟨U,⟨#[]⟩,_,by omega,by simp[preD],by simp,rfl,rfl⟩ (.cons rfl (.cons rfl .nil)) ?_
  rintro m C ja hh ⟨v,t,r,hv,hp,rfl,rfl,rfl⟩
  have hts:t.size≤21:=by
   have:=congrArg List.length hp
   rw[List.length_append] at this
   rw[size_listD]
   omega
  by_cases hgo:v=0∧t.data.toList≠[]
  ·
   rw[preD_end hgo] at hp
   have hf:=goal2 t hp
   have hne:¬ t=⟨#[]⟩:=fun q=>hgo.2 (by rw[q])
   obtain⟨rfl,_⟩:=hgo
   repeat' first
    | (exfalso;omega)
    | (exfalso;exact hne (by assumption))
    | simp only[go_sem]
    | refine gK_dec (fun _=>?_) (fun _=>?_)
    | refine brK_dec (fun _=>?_) (fun _=>?_)
    | refine⟨by first|omega|(simp;omega),?_⟩
    | (refine finSqD rfl ?_;rw[hf];first|rw[if_pos (by omega)]|rw[if_neg (by omega)])
  ·
   have hstep:=preD_step hgo
   have hwr:=digit_rest v (by omega)
   have hby:=digit_byte v
   rw[← one_list] at hstep
   have hm:v / 10+(if((⟨#[UInt8.ofNat (48+v % 10)]⟩:ByteArray)++t).data.toList=[] then 1 else 0)<v+(if t.data.toList=[] then 1 else 0):=by
    rw[if_neg (by rw[one_list];simp)]
    by_cases hv0:v=0
    ·
     rw[if_pos (Classical.byContradiction fun q=>hgo ⟨hv0,q⟩)];omega
    ·
     split<;>omega
   repeat' first
    | (exfalso;omega)
    | (exfalso;exact hgo ⟨by omega,fun q=>absurd (size0_list.1 q) (by assumption)⟩)
    | simp only[go_sem,hwr,hby]
    | refine gK_dec (fun _=>?_) (fun _=>?_)
    | refine brK_dec (fun _=>?_) (fun _=>?_)
    | exact loopFr _ hm ⟨_,_,_,by omega,hstep.trans hp,rfl,rfl,rfl⟩ (.cons rfl (.cons rfl .nil)) rfl
    | refine⟨by first|omega|decide|(rw[arr_one];omega),?_⟩
 ·
  simp only[go_sem]
  rw[u64_pos n ⟨h1,h2⟩ hneg,← hU]
  refine loop_fr [3,4,11,12,13,14,15,16,17,18,19,20,21,22,23,24,25,26] (fun m C hh=>∃(v:Nat) (t:ByteArray) (r:List Blk),v≤U∧preD v t.data.toList++t.data.toList=Lib.decDigits U∧m=v+(if t.data.toList=[] then 1 else 0)∧C=[(3,.raw (.int .u64 (v:Nat))),(4,.s t)]∧hh=r) (U+1) _ ⟨U,⟨#[]⟩,_,by omega,by simp[preD],by simp,rfl,rfl⟩ (.cons rfl (.cons rfl .nil)) ?_
  rintro m C ja hh ⟨v,t,r,hv,hp,rfl,rfl,rfl⟩
  have hts:t.size≤21:=by
   have:=congrArg List.length hp
   rw[List.length_append] at this
   rw[size_listD]
   omega
  by_cases hgo:v=0∧t.data.toList≠[]
  ·
   rw[preD_end hgo] at hp
   have hf:=goal2 t hp
   have hne:¬ t=⟨#[]⟩:=fun q=>hgo.2 (by rw[q])
   obtain⟨rfl,_⟩:=hgo
   repeat' first
    | (exfalso;omega)
    | (exfalso;exact hne (by assumption))
    | simp only[go_sem]
    | refine gK_dec (fun _=>?_) (fun _=>?_)
    | refine brK_dec (fun _=>?_) (fun _=>?_)
    | refine⟨by first|omega|(simp;omega),?_⟩
    | (refine finSqD rfl ?_;rw[hf];first|rw[if_pos (by omega)]|rw[if_neg (by omega)])
  ·
   have hstep:=preD_step hgo
   have hwr:=digit_rest v (by omega)
   have hby:=digit_byte v
   rw[← one_list] at hstep
   have hm:v / 10+(if((⟨#[UInt8.ofNat (48+v % 10)]⟩:ByteArray)++t).data.toList=[] then 1 else 0)<v+(if t.data.toList=[] then 1 else 0):=by
    rw[if_neg (by rw[one_list];simp)]
    by_cases hv0:v=0
    ·
     rw[if_pos (Classical.byContradiction fun q=>hgo ⟨hv0,q⟩)];omega
    ·
     split<;>omega
   repeat' first
    | (exfalso;omega)
    | (exfalso;exact hgo ⟨by omega,fun q=>absurd (size0_list.1 q) (by assumption)⟩)
    | simp only[go_sem,hwr,hby]
    | refine gK_dec (fun _=>?_) (fun _=>?_)
    | refine brK_dec (fun _=>?_) (fun _=>?_)
    | exact loopFr _ hm ⟨_,_,_,by omega,hstep.trans hp,rfl,rfl,rfl⟩ (.cons rfl (.cons rfl .nil)) rfl
    | refine⟨by first|omega|decide|(rw[arr_one];omega),?_⟩
section
theorem C.relst {S:Addr→Prop} {w:World} {φ:Nat→Go.Abs.Loc} {sz:Nat} {es ds:List AV} {tok:Option Nat} {v:Value} (hl:es.length=ds.length) (hsz:∀ e∈ds,e.cells.length=sz) (hw:WeakL (flat es) (flat ds)) (h:Go.Abs.C S w φ (.lst sz es tok) v):Go.Abs.C S w φ (.lst sz ds tok) v:=by
 obtain⟨k1,k2⟩:=hw.at
 cases h with
 | lst _ _ _ a len cap u hlen hcap hmax hsz' hm hc h1 ht =>
  have hj:∀(j:Nat) c,(flat ds)[j]?=some c→∃ d,(flat es)[j]?=some d:=fun j c h=>by
   have:=(List.getElem?_eq_some_iff.1 h).1
   exact⟨_,List.getElem?_eq_getElem (by omega)⟩
  refine .lst sz ds tok a len cap u (by omega) hcap hmax hsz (fun j c h=>?_) (fun j c h=>?_) (fun j c h=>?_) ht
  ·
   obtain⟨d,hd⟩:=hj j c h
   exact hm j d hd
  ·
   obtain⟨d,hd⟩:=hj j c h
   exact(hc j d hd).weak (k2 j d c hd h)
  ·
   obtain⟨d,hd⟩:=hj j c h
   exact h1 j d hd
 | lstnil _ _ ht =>
  obtain rfl:ds=[]:=List.length_eq_zero_iff.1 (by simpa using hl.symm)
  exact .lstnil sz tok ht
theorem CAll.reset {S:Addr→Prop} {w:World} {φ:Nat→Go.Abs.Loc} {cs:List AV} {vs:Array Value} {i:Nat} {a b:AV} (ha:cs[i]?=some a) (hc:∀ v,Go.Abs.C S w φ a v→Go.Abs.C S w φ b v) (h:CAll S w φ cs vs):CAll S w φ (cs.set i b) vs:=by
 refine⟨by rw[List.length_set];exact h.1,fun j x v hx hv=>?_⟩
 rw[List.getElem?_set] at hx
 split at hx
 ·
  rename_i e
  subst e
  split at hx
  ·
   cases hx
   exact hc v (h.2 i a v ha hv)
  ·
   cases hx
 ·
  exact h.2 j x v hx hv
theorem weakL_app:∀ {a b:List AV} (l:List AV),WeakL a b→WeakL (l++a) (l++b)
 | _,_,[],h=>h
 | _,_,_::l,h=>⟨.refl _,weakL_app l h⟩
theorem C.relast {S:Addr→Prop} {w:World} {φ:Nat→Go.Abs.Loc} {sz:Nat} {es:List AV} {cs ds:List AV} {tok:Option Nat} {v:Value} (h:Go.Abs.C S w φ (.lst sz (es++[.agg cs]) tok) v) (hsz:∀ e∈es,e.cells.length=sz) (hd:ds.length=sz) (hw:WeakL cs ds):Go.Abs.C S w φ (.lst sz (es++[.agg ds]) tok) v:=by
 refine C.relst (by simp) (fun e he=>?_) ?_ h
 ·
  rcases List.mem_append.1 he with he|he
  ·
   exact hsz e he
  ·
   rw[List.mem_singleton.1 he]
   exact hd
 ·
  rw[flat_append,flat_append]
  refine weakL_app _ ?_
  show WeakL (cs++flat []) (ds++flat [])
  rw[flat_nil,List.append_nil,List.append_nil]
  exact hw
theorem ACall.recell {P:Program} {f:FuncId} {args:List AV} {h:List Blk} {K K':AV→List Blk→Prop} (hc:ACall P f args h K')
  (hk:∀ r h',K' r h'→∃(k:Nat) (t:TypeId) (cs cs':List AV),h'[k]?=some (.cells t cs)∧(∀(S:Addr→Prop) (φ:Nat→Go.Abs.Loc) (w:World) (vs:Array Value),CAll S w φ cs vs→CAll S w φ cs' vs)∧K r (h'.set k (.cells t cs'))):ACall P f args h K:=by
 unfold ACall at hc ⊢
 intro S φ w vs hr ha
 obtain⟨e1,e2⟩:=hc S φ w vs hr ha
 refine⟨e1,Calls.mono e2 ?_⟩
 rintro e w' ⟨v,r,h',S',φ',rfl,hK,hC,hr',he⟩
 obtain⟨k,t,cs,cs',h1,h2,h3⟩:=hk r h' hK
 obtain⟨q1,q2⟩:=hr'.recell h1 (fun vs hv=>h2 S' φ' w' vs hv)
 exact⟨v,r,_,S',φ',rfl,h3,hC,q1,he.trans q2⟩
abbrev nB (p:DProg) (k:Int) (fst:ByteArray) (m:Nat) (c5 c6 c7 c8 c9:AV):Blk:=.cells 85 [.lst 2 (p.Enums.map DEnum.enc) none,.lst 5 (p.Nodes.map DNode.enc) none,.i k,.s fst,.i (m:Int),c5,c6,c7,c8,c9]
abbrev HX (A:List Blk) (y z:Blk) (p:DProg) (k:Int) (c5 c6 c7:AV) (st:NmSt) (fst:ByteArray) (r:List Blk):List Blk :=
 A++nB p k fst st.k c5 c6 c7 (.lst 5 (st.vars.map DVar.enc) (some (A.length+3))) (.lst 10 (st.eqs.map DPlain.enc) (some (A.length+4)))::y::z::.tok 45 5 st.vars.length::.tok 53 10 st.eqs.length::r
section
variable {A r:List Blk} {y z:Blk} {p:DProg} {k:Int} {c5 c6 c7:AV} {fst:ByteArray} {K:AV→List Blk→Prop}
theorem emitF67 {st:NmSt} (q:DPlain) (t:DTy) (on:List DCond) (hs:fst.size≤1000) (hk:st.k+1<100) (hv:st.vars.length≤1000000) (hl:st.eqs.length≤1000000)
  (hK:∀ r',K (.s (nmN fst (st.k+1))) (HX A y z p k c5 c6 c7 (freshN (nmN fst) q t on st).2 fst (r++r'))) :
  ACall Tryz.prog 67 [.ptr A.length 0,q.enc,.lst 1 [] none,t.enc,.lst 2 (on.map DCond.enc) none] (HX A y z p k c5 c6 c7 st fst r) K:=by
 obtain⟨j,hj⟩:∃ j,j=st.k+1:=⟨_,rfl⟩
 have hw:IntKind.i64.wrap ((st.k:Int)+1)=(j:Int):=by rw[wrap_in _ (by omega) (by omega)];omega
 have hd:=digN_size j (by omega)
 have he:(⟨#[46]⟩:ByteArray).size=1:=rfl
 have hz:(fst++⟨#[46]⟩).size=fst.size+1:=by rw[ByteArray.size_append,he]
 have hi:=digits59 (j:Int) ⟨by omega,by omega⟩
 refine ACall.recell (K':=fun rr hh=>∃(J:Nat) (r':List Blk),rr=.s (nmN fst j)∧hh=A++nB p k fst j c5 c6 c7 (.lst 5 ((st.vars++[(⟨nmN fst j,t,on⟩:DVar)]).map DVar.enc) (some (A.length+3))) (.lst 10 (st.eqs.map DPlain.enc++[.agg [.i q.Kind,.lst 1 [.s (nmN fst j)] (some J),.i q.Op,.lst 2 (q.Args.map DAtom.enc) none,.lst 1 (q.Init.map AV.i) none,.i q.Node,.b q.Reset,.s q.Every.Var,.i q.Every.N,.lst 2 (on.map DCond.enc) none]]) (some (A.length+4)))::y::z::.tok 45 5 (st.vars.length+1)::.tok 53 10 (st.eqs.length+1)::(r++r')) ?_ ?_
 ·
  refine acallK_of_vc tabOK Tryz.func67 (by kernel_rfl) rfl (n:=71) rfl (rs:=[.tmp 10]) rfl ?_
  simp only[go_sem,hw]
  intro _
  refine brK_dec (fun _=>?_) (fun h=>absurd rfl h)
  simp only[go_sem,hw]
  refine drawK mo (by kernel_rfl) ?_
  repeat' first
   | simp only[go_sem,hw]
   | (refine pcK_of hi ?_)
   | refine And.intro (by first|omega|(simp;done)|(simp;omega)) ?_
   | (refine drawZ mo (by kernel_rfl) rfl ?_;simp only[List.dropLast_cons_cons,List.dropLast_singleton,List.getLast_cons_cons,List.getLast_singleton])
   | refine elemK _ (by omega) rfl ?_
  exact finKw (r:=.s (nmN fst j)) rfl (.refl _) ⟨_,_,rfl,by simp only[List.map_append,List.map_cons,List.map_nil,DVar.enc_eq];rfl⟩
 ·
  rintro rr hh ⟨J,r',rfl,rfl⟩
  refine⟨A.length,_,_,_,(by rw[at_app0];rfl),(fun S φ w vs hv=>by
   refine CAll.reset (i:=9) (b:=.lst 10 (st.eqs.map DPlain.enc++[.agg [.i q.Kind,.lst 1 ([nmN fst j].map AV.s) none,.i q.Op,.lst 2 (q.Args.map DAtom.enc) none,.lst 1 (q.Init.map AV.i) none,.i q.Node,.b q.Reset,.s q.Every.Var,.i q.Every.N,.lst 2 (on.map DCond.enc) none]]) (some (A.length+4))) rfl (fun v hc=>?_) hv
   exact C.relast hc (fun e he=>by obtain⟨x,_,rfl⟩:=List.mem_map.1 he;rw[DPlain.enc_cells];rfl) rfl ⟨.refl _,.tok _ _ _,.refl _,.refl _,.refl _,.refl _,.refl _,.refl _,.refl _,.refl _,trivial⟩),?_⟩
  have h9:=hK r'
  simp only[HX,freshN,← hj,List.map_append,List.map_cons,List.map_nil,DPlain.enc_eq,List.length_append,List.length_cons,List.length_nil,Nat.zero_add] at h9 ⊢
  simpa using h9
end
end
section
section
variable {A r:List Blk} {y z:Blk} {p:DProg} {k:Int} {c5 c6 c7:AV} {fst:ByteArray} {K:AV→List Blk→Prop}
theorem emitN67 {st:NmSt} (q:DPlain) (s:ByteArray) (rest:List ByteArray) (t:DTy) (on:List DCond) (hr:rest.length≤1000) (hl:st.eqs.length≤1000000)
  (hK:∀ r',K (.s s) (HX A y z p k c5 c6 c7 ⟨st.vars,st.eqs++[{ q with Names:=s::rest,On:=on }],st.k⟩ fst (r++r'))) :
  ACall Tryz.prog 67 [.ptr A.length 0,q.enc,.lst 1 ((s::rest).map AV.s) none,t.enc,.lst 2 (on.map DCond.enc) none] (HX A y z p k c5 c6 c7 st fst r) K:=by
 refine acallK_of_vc tabOK Tryz.func67 (by kernel_rfl) rfl (n:=71) rfl (rs:=[.tmp 10]) rfl ?_
 repeat' first
  | simp only[go_sem]
  | (intro _)
  | refine brK_dec (fun _=>?_) (fun _=>?_)
  | (exfalso;omega)
  | (refine drawZ mo (by kernel_rfl) rfl ?_;simp only[List.dropLast_cons_cons,List.dropLast_singleton,List.getLast_cons_cons,List.getLast_singleton])
  | refine And.intro (by first|omega|(simp;done)|(simp;omega)) ?_
  | refine elemK _ (by omega) rfl ?_
 refine finKw (r:=.s s) rfl (.refl _) ?_
 simp only[HX,List.map_append,List.map_cons,List.map_nil,DPlain.enc_eq,List.length_append,List.length_cons,List.length_nil,Nat.zero_add] at hK
 exact hK _
end
section
variable (p:DProg) (k:Nat) (n:DNode)
def PlX (f:Nat) (e:Ex):Prop:=∀(A:List Blk) (y z:Blk) (r:List Blk) (c5 c6 c7:AV) (fst:ByteArray) (on:List DCond) (st:NmSt) (K:AV→List Blk→Prop),fst.size≤1000→fitsF (rowN p.Enums n) p.Enums e on=true→bnd on st (parts e).length (frN e) →
 (∀ r',K (plN p k fst e on st).1.enc (HX A y z p (k:Int) c5 c6 c7 (plN p k fst e on st).2 fst (r++r')))→ACall Tryz.prog f [.ptr A.length 0,e.enc,.lst 2 (on.map DCond.enc) none] (HX A y z p (k:Int) c5 c6 c7 st fst r) K
def AtX (e:Ex):Prop:=∀(A:List Blk) (y z:Blk) (r:List Blk) (c5 c6 c7:AV) (fst:ByteArray) (on:List DCond) (st:NmSt) (K:AV→List Blk→Prop),fst.size≤1000→fitsF (rowN p.Enums n) p.Enums e on=true→bnd on st (parts e).length (gN e) →
 (∀ r',K (atN p k fst e on st).1.enc (HX A y z p (k:Int) c5 c6 c7 (atN p k fst e on st).2 fst (r++r')))→ACall Tryz.prog 106 [.ptr A.length 0,e.enc,.lst 2 (on.map DCond.enc) none] (HX A y z p (k:Int) c5 c6 c7 st fst r) K
def EachX (l:List Ex):Prop:=∀(A:List Blk) (y z:Blk) (r:List Blk) (c5 c6 c7:AV) (fst:ByteArray) (on:List DCond) (st:NmSt) (K:AV→List Blk→Prop),fst.size≤1000→fitsL (rowN p.Enums n) p.Enums l on=true→bnd on st (partsL l).length (frL l) →
 (∀ r',K (.lst 2 ((eaN p k fst l on st).1.map DAtom.enc) none) (HX A y z p (k:Int) c5 c6 c7 (eaN p k fst l on st).2 fst (r++r')))→ACall Tryz.prog 103 [.ptr A.length 0,.lst 6 (l.map Ex.enc) none,.lst 2 (on.map DCond.enc) none] (HX A y z p (k:Int) c5 c6 c7 st fst r) K
end
section
variable {p:DProg} {k:Nat} {n:DNode}
theorem apartF {e:Ex} (hty:∀ n∈p.Nodes,tyOK p n) (hp:∀ y∈parts e,partE y=true) (hok:okE e) (h:PlX p k n 65 e) {A r:List Blk} {y z:Blk} {c5 c6 c7:AV} {fst:ByteArray} {on:List DCond} {st:NmSt} {K:AV→List Blk→Prop}
  (hs:fst.size≤1000) (hf:fitsF (rowN p.Enums n) p.Enums e on=true) (hb:bnd on st (parts e).length (frN e+1))
  (hK:∀ r',K (.s (freshN (nmN fst) (plN p k fst e on st).1 (tyN p (k:Int) e) on (plN p k fst e on st).2).1.Var) (HX A y z p (k:Int) c5 c6 c7 (freshN (nmN fst) (plN p k fst e on st).1 (tyN p (k:Int) e) on (plN p k fst e on st).2).2 fst (r++r'))) :
  ACall Tryz.prog 36 [.ptr A.length 0,e.enc,.lst 1 [] none,.lst 2 (on.map DCond.enc) none] (HX A y z p (k:Int) c5 c6 c7 st fst r) K:=by
 obtain⟨b1,b2,b3,b4⟩:=hb
 have g:grewN st (plN p k fst e on st).2 (frN e):=plain_grew (nmN fst) (tyN p (k:Int)) (cnN p) (vaN p) (fiN p) e hp on st
 have h1:=fun r K=>h A y z r c5 c6 c7 fst on st K hs hf ⟨b1,by omega,by omega,by omega⟩
 have hof:=OfXk p (k:Int) e hty hp hok
 have htn:tyN p (k:Int) e=(ofN p (k:Int) e).1:=rfl
 rw[htn] at hK
 generalize ofN p (k:Int) e=O at hof hK
 obtain⟨t,ok⟩:=O
 generalize plN p k fst e on st=R at h1 hK g
 obtain⟨q,st1⟩:=R
 obtain⟨g1,g2,g3⟩:=g
 dsimp only at h1 hK g1 g2 g3
 refine acallK_of_vc tabOK Tryz.func36 (by kernel_rfl) rfl (n:=38) rfl (rs:=[.tmp 8]) rfl ?_
 simp only[go_sem]
 refine h1 _ _ fun r1=>?_
 simp only[go_sem]
 intro _
 refine brK_dec (fun _=>?_) (fun h=>absurd rfl h)
 simp only[go_sem]
 refine drawM [A.length+(r.length+(r1.length+1+1)+1+1+1+1+1)] (.pur 0 (.pur 1 (.pur 2 (.pur 3 (.pur 4 (.pur 5 (.pur 6 (.pur 7 (.pur 8 (.pur 9 (.pur 10 (.pur 11 (.pur 12 (.eff 13 .nil)))))))))))))) mo (by kernel_rfl) ?_
 simp only[go_sem]
 refine pcK_of hof ?_
 simp only[go_sem]
 refine ACall.weakA (args:=[.ptr A.length 0,q.enc,.lst 1 [] none,t.enc,.lst 2 (on.map DCond.enc) none]) ⟨.refl _,.refl _,.refl _,.refl _,.refl _,trivial⟩ ?_
 refine emitF67 q t on hs (by omega) (by omega) (by omega) fun r2=>?_
 simp only[go_sem]
 exact finKw (r:=.s (nmN fst (st1.k+1))) rfl (.refl _) (hK _)
end
end
section
section
variable {p:DProg} {k:Nat} {n:DNode}
theorem atX_leaf {e:Ex} (hl:leafK e.kind=true):AtX p k n e:=by
 intro A y z r c5 c6 c7 fst on st K hs hf hb hK
 have hk:e.kind=1∨e.kind=2∨e.kind=3∨e.kind=4:=by unfold leafK at hl;exact of_decide_eq_true hl
 have hat:atN p k fst e on st=(leafA (vaN p) e,st):=by unfold atN atomN;rw[if_pos hl]
 rw[hat] at hK
 unfold leafA at hK
 refine acallK_of_vc tabOK Tryz.func106 (by kernel_rfl) rfl (n:=44) rfl (rs:=[.cell 6 51]) rfl ?_
 by_cases h3:e.kind=3
 ·
  rw[if_pos h3] at hK
  repeat' first
   | simp only[go_sem]
   | refine brK_dec (fun _=>?_) (fun _=>?_)
   | (exfalso;omega)
   | exact finKe (⟨e.name,0⟩:DAtom).enc (by simp only[go_sem];rfl) (by rw[DAtom.enc_eq]) (by simpa using hK _)
 ·
  rw[if_neg h3] at hK
  by_cases h4:e.kind=4
  ·
   rw[if_pos h4] at hK
   have hc:=arm91 p.Enums e.name
   have hva:vaN p e.name=(armF p.Enums e.name).2.1:=rfl
   rw[hva] at hK
   generalize armF p.Enums e.name=q at hc hK
   obtain⟨t,v,ok⟩:=q
   dsimp only at hK
   repeat' first
    | simp only[go_sem]
    | refine brK_dec (fun _=>?_) (fun _=>?_)
    | (exfalso;omega)
    | refine drawK mo (by kernel_rfl) ?_
    | refine pcK_of hc ?_
    | exact finKe (⟨⟨#[]⟩,v⟩:DAtom).enc (by simp only[go_sem];rfl) (by rw[DAtom.enc_eq]) (by simpa using hK _)
  ·
   rw[if_neg h4] at hK
   repeat' first
    | simp only[go_sem]
    | refine brK_dec (fun _=>?_) (fun _=>?_)
    | (exfalso;omega)
    | exact finKe (⟨⟨#[]⟩,e.n⟩:DAtom).enc (by simp only[go_sem];rfl) (by rw[DAtom.enc_eq]) (by simpa using hK _)
theorem atX_of (hty:∀ n∈p.Nodes,tyOK p n) {e:Ex} (hp:∀ y∈parts e,partE y=true) (hok:okE e) (h:PlX p k n 65 e):AtX p k n e:=by
 by_cases hl:leafK e.kind=true
 ·
  exact atX_leaf hl
 intro A y z r c5 c6 c7 fst on st K hs hf hb hK
 have hk:¬ e.kind=1∧¬ e.kind=2∧¬ e.kind=3∧¬ e.kind=4:=by
  unfold leafK at hl
  simp only[decide_eq_true_eq,not_or] at hl
  exact hl
 have hat:atN p k fst e on st=freshN (nmN fst) (plN p k fst e on st).1 (tyN p (k:Int) e) on (plN p k fst e on st).2:=by unfold atN atomN;rw[if_neg hl]
 rw[hat] at hK
 have hg:gN e=frN e+1:=by unfold gN;rw[if_neg hl]
 rw[hg] at hb
 have h1:=fun(r:List Blk) (K:AV→List Blk→Prop)=>apartF hty hp hok h (A:=A) (r:=r) (y:=y) (z:=z) (c5:=c5) (c6:=c6) (c7:=c7) (fst:=fst) (on:=on) (st:=st) (K:=K) hs hf hb
 have hN:(freshN (nmN fst) (plN p k fst e on st).1 (tyN p (k:Int) e) on (plN p k fst e on st).2).1.N=0:=rfl
 generalize freshN (nmN fst) (plN p k fst e on st).1 (tyN p (k:Int) e) on (plN p k fst e on st).2=F at h1 hK hN
 obtain⟨⟨f,fN⟩,st2⟩:=F
 dsimp only at h1 hK hN
 subst hN
 refine acallK_of_vc tabOK Tryz.func106 (by kernel_rfl) rfl (n:=44) rfl (rs:=[.cell 6 51]) rfl ?_
 repeat' first
  | simp only[go_sem]
  | refine brK_dec (fun _=>?_) (fun _=>?_)
  | (exfalso;omega)
 refine ACall.weakA (args:=[.ptr A.length 0,e.enc,.lst 1 [] none,.lst 2 (on.map DCond.enc) none]) ⟨.refl _,.refl _,.nil _,.refl _,trivial⟩ ?_
 refine h1 _ _ fun r1=>?_
 simp only[go_sem]
 exact finKw (r:=(⟨f,0⟩:DAtom).enc) (by simp only[go_sem];rfl) (by rw[DAtom.enc_eq];exact .refl _) (hK _)
theorem eachX_of {l:List Ex} (hl:l.length≤1000) (hx:∀ x∈l,AtX p k n x) (hp:∀ x∈l,∀ y∈parts x,partE y=true):EachX p k n l:=by
 intro A y z r c5 c6 c7 fst on st K hs hf hb hK
 obtain⟨b1,b2,b3,b4⟩:=hb
 have hlen:∀ i,(eaN p k fst (l.take i) on st).1.length=(l.take i).length:=fun i=>eachN_len _ _ _ _ _ _ _ _
 refine acallK_of_vc tabOK Tryz.func103 (by kernel_rfl) rfl (n:=27) rfl (rs:=[.tmp 6]) rfl ?_
 simp only[go_sem]
 refine loop_fr [7,8,10,11,12,13,14,15,16,17,18,19,20,21,22,23,24,25] (fun m C hh=>∃(i:Nat) (r':List Blk),i≤l.length∧m=l.length-i ∧
  C=[(8,.raw (.int .i64 (i:Nat))),(7,.lst 2 ((eaN p k fst (l.take i) on st).1.map DAtom.enc) (some (A.length+(r.length+1+1+1+1+1))))] ∧
  hh=HX A y z p (k:Int) c5 c6 c7 (eaN p k fst (l.take i) on st).2 fst (r++.tok 51 2 (eaN p k fst (l.take i) on st).1.length::r')) l.length _ ⟨0,[],by omega,by omega,rfl,by rw[List.take_zero];unfold eaN;rw[eachN_nil];rfl⟩ (.cons rfl (.cons (by rw[List.take_zero];unfold eaN;rw[eachN_nil];rfl) .nil)) ?_
 rintro m C j hh ⟨i,r',hi,rfl,rfl,rfl⟩
 simp only[go_sem]
 intro _
 refine brK_dec (fun hlt=>?_) (fun hge=>?_)
 ·
  obtain⟨x,hq⟩:∃ x,l[i]?=some x:=⟨_,List.getElem?_eq_getElem (by omega)⟩
  have hxm:=List.mem_of_getElem? hq
  have hfx:fitsF (rowN p.Enums n) p.Enums x on=true:=by
   rw[fitsL_all,List.all_eq_true] at hf
   exact hf x hxm
  have g:grewN st (eaN p k fst (l.take i) on st).2 (frL (l.take i)):=each_grew (nmN fst) (tyN p (k:Int)) (cnN p) (vaN p) (fiN p) (fun y hy=>hp y (List.mem_of_mem_take hy)) on st
  have hfr:=frL_at hq
  have hpl:=partsL_in hxm
  have hll:=hlen i
  have hnx:=eaN_next (p:=p) (k:=k) (fst:=fst) (on:=on) (st:=st) hq
  have h1:=fun st1 (h:grewN st st1 (frL (l.take i))) r K=>hx x hxm A y z r c5 c6 c7 fst on st1 K hs hfx ⟨by omega,by have:=h.1;omega,by have:=h.2.1;omega,by have:=h.2.2;omega⟩
  generalize eaN p k fst (l.take i) on st=R at g hll hnx ⊢
  obtain⟨as1,st1⟩:=R
  dsimp only at g hll hnx
  have h1:=h1 st1 g
  simp only[go_sem]
  refine elemHave (x:=x) (by omega) (by simpa using hq) ?_
  simp only[go_sem]
  refine h1 _ _ fun r2=>?_
  generalize atN p k fst x on st1=AA at hnx ⊢
  obtain⟨a,st2⟩:=AA
  dsimp only at hnx ⊢
  simp only[go_sem]
  rw[List.length_take] at hll
  refine And.intro (by first|omega|(simp;done)|(simp;omega)) ?_
  refine loopFr _ (by omega) ⟨i+1,_,by omega,rfl,rfl,by rw[hnx];simp;rfl⟩ (.next rfl (by omega) (.cons (by rw[hnx];simp) .nil)) rfl
 ·
  rw[List.take_of_length_le (by omega)]
  simp only[go_sem]
  refine⟨_,rfl,_,.tok _ _ _,?_⟩
  exact hK _
theorem callX104 {e:Ex} (h13:e.kind=13) (hn:e.n=0∨e.n=1) (hsn:e.n≤e.subs.length) (hp:∀ x∈e.subs,∀ y∈parts x,partE y=true) (hx:∀ x∈e.subs,AtX p k n x):PlX p k n 104 e:=by
 intro A y z r c5 c6 c7 fst on st K hs hf hb hK
 obtain⟨b1,b2,b3,b4⟩:=hb
 rw[frN_eq,if_neg (by omega),if_neg (by omega),Nat.zero_add] at b2 b3 b4
 rw[parts_lenC] at b1
 have hsl:=subs_le2 e.subs
 have hfL:fitsL (rowN p.Enums n) p.Enums e.subs on=true:=by rw[fitsF_eq] at hf;simpa[h13] using hf
 rw[plN_13 h13] at hK
 obtain⟨m,hm⟩:∃ m:Nat,(m:Int)=(e.subs.length:Int)-e.n:=⟨((e.subs.length:Int)-e.n).toNat,by omega⟩
 have hw:IntKind.i64.wrap ((e.subs.length:Int)-e.n)=(m:Int):=by rw[hm,wrap_in _ (by omega) (by omega)]
 have hE:EachX p k n (e.subs.take m):=eachX_of (by rw[List.length_take];omega) (fun x h=>hx x (List.mem_of_mem_take h)) (fun x h=>hp x (List.mem_of_mem_take h))
 have hfT:fitsL (rowN p.Enums n) p.Enums (e.subs.take m) on=true:=by
  rw[fitsL_all,List.all_eq_true] at hfL ⊢
  exact fun x h=>hfL x (List.mem_of_mem_take h)
 have hfr:frL (e.subs.take m)≤frL e.subs:=by
  have:frL e.subs=frL (e.subs.take m)+frL (e.subs.drop m):=by rw[← frL_append,List.take_append_drop]
  omega
 have hpr:(partsL (e.subs.take m)).length≤(partsL e.subs).length:=by
  have:partsL e.subs=partsL (e.subs.take m)++partsL (e.subs.drop m):=by
   conv=>lhs;rw[← List.take_append_drop m e.subs]
   generalize e.subs.take m=l
   generalize e.subs.drop m=l2
   induction l with
   | nil=>rfl
   | cons x l ih=>rw[List.cons_append,partsL,partsL,ih,List.append_assoc]
  rw[this,List.length_append]
  omega
 have hE1:=fun r K=>hE A y z r c5 c6 c7 fst on st K hs hfT ⟨by omega,by omega,by omega,by omega⟩
 have g:grewN st (eaN p k fst (e.subs.take m) on st).2 (frL (e.subs.take m)):=each_grew (nmN fst) (tyN p (k:Int)) (cnN p) (vaN p) (fiN p) (fun y hy=>hp y (List.mem_of_mem_take hy)) on st
 have hll:(eaN p k fst (e.subs.take m) on st).1.length=m:=by
  unfold eaN
  rw[eachN_len,List.length_take]
  omega
 rcases hn with hn|hn
 ·
  have hme:m=e.subs.length:=by omega
  rw[if_neg (by omega)] at hK
  have hst:e.subs.take m=e.subs:=List.take_of_length_le (by omega)
  rw[hst] at hE1 hll
  generalize eaN p k fst e.subs on st=G at hE1 hK hll
  obtain⟨ats,st1⟩:=G
  dsimp only at hE1 hK hll
  refine acallK_of_vc tabOK Tryz.func104 (by kernel_rfl) rfl (n:=44) rfl (rs:=[.cell 6 53]) rfl ?_
  simp only[go_sem,hw]
  intro _
  refine drawM [A.length] (.pur 0 (.pur 1 (.pur 2 (.pur 4 (.pur 5 (.pur 7 (.pur 8 (.pur 9 (.pur 10 (.pur 11 (.pur 12 (.two 3 (.pur 6 (.two 13 (.pur 14 (.eff 15 (.eff 16 .nil))) 15 (.eff 13 (.pur 14 (.eff 16 .nil))))) 15 (.eff 3 (.pur 6 (.eff 13 (.pur 14 (.eff 16 .nil))))))))))))))))) mo (by kernel_rfl) ?_
  repeat' first
   | simp only[go_sem,Int.toNat_natCast]
   | refine pcK_of (find24 p e.name) ?_
   | (rw[hst];refine hE1 _ _ fun r1=>?_)
   | refine brK_dec (fun _=>?_) (fun _=>?_)
   | (exfalso;omega)
   | refine And.intro (by first|omega|(simp;done)|(simp;omega)) ?_
   | refine And.intro ?_ ?_
   | exact finKw (r:=({ plain0 7 0 ats with Node:=findF p e.name }:DPlain).enc) (by simp only[go_sem];rfl) (by rw[DPlain.enc_eq];exact Weak.aggs ⟨.refl _,.nil _,.refl _,.refl _,.nil _,.refl _,.refl _,.refl _,.refl _,.nil _,trivial⟩) (hK _)
 ·
  obtain⟨x,hq⟩:∃ x,e.subs[m]?=some x:=⟨_,List.getElem?_eq_getElem (by omega)⟩
  have hxm:=List.mem_of_getElem? hq
  have hfx:fitsF (rowN p.Enums n) p.Enums x on=true:=by
   rw[fitsL_all,List.all_eq_true] at hfL
   exact hfL x hxm
  have hfr2:=frL_at hq
  have hpl:=partsL_in hxm
  have hnx:=eaN_next (p:=p) (k:=k) (fst:=fst) (on:=on) (st:=st) hq
  rw[List.take_of_length_le (i:=m+1) (by omega)] at hnx
  rw[if_pos hn,hnx] at hK
  have h1:=fun st1 (h:grewN st st1 (frL (e.subs.take m))) r K=>hx x hxm A y z r c5 c6 c7 fst on st1 K hs hfx ⟨by omega,by have:=h.1;omega,by have:=h.2.1;omega,by have:=h.2.2;omega⟩
  generalize eaN p k fst (e.subs.take m) on st=G at hE1 hK hll g
  obtain⟨ats,st1⟩:=G
  dsimp only at hE1 hK hll g
  have h1:=h1 st1 g
  generalize atN p k fst x on st1=AA at h1 hK
  obtain⟨a,st2⟩:=AA
  dsimp only at h1 hK
  have e1:(ats++[a]).take ((ats++[a]).length-1)=ats:=by simp
  have e2:(ats++[a]).getLastD noAtom=a:=by simp
  rw[e1,e2] at hK
  refine acallK_of_vc tabOK Tryz.func104 (by kernel_rfl) rfl (n:=44) rfl (rs:=[.cell 6 53]) rfl ?_
  simp only[go_sem,hw]
  intro _
  refine drawM [A.length] (.pur 0 (.pur 1 (.pur 2 (.pur 4 (.pur 5 (.pur 7 (.pur 8 (.pur 9 (.pur 10 (.pur 11 (.pur 12 (.two 3 (.pur 6 (.two 13 (.pur 14 (.eff 15 (.eff 16 .nil))) 15 (.eff 13 (.pur 14 (.eff 16 .nil))))) 15 (.eff 3 (.pur 6 (.eff 13 (.pur 14 (.eff 16 .nil))))))))))))))))) mo (by kernel_rfl) ?_
  repeat' first
   | simp only[go_sem,Int.toNat_natCast]
   | refine pcK_of (find24 p e.name) ?_
   | (refine hE1 _ _ fun r1=>?_)
   | refine brK_dec (fun _=>?_) (fun _=>?_)
   | (exfalso;omega)
   | refine elemHave (x:=x) (by omega) (by simpa using hq) ?_
   | (refine h1 _ _ fun r2=>?_)
   | refine And.intro (by first|omega|(simp;done)|(simp;omega)) ?_
   | refine And.intro ?_ ?_
   | exact finKw (r:=({ plain0 7 0 ats with Node:=findF p e.name,Reset:=true,Every:=a }:DPlain).enc) (by simp only[go_sem];rfl) (by rw[DPlain.enc_eq];exact Weak.aggs ⟨.refl _,.nil _,.refl _,.refl _,.nil _,.refl _,.refl _,.refl _,.refl _,.nil _,trivial⟩) (hK _)
end
end
end Go.Proofs.YtpamokpmlplopaaGreatDoor
