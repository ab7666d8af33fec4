/-
  NmHas, NmO, NmO2, ScOnceA, Law17, CkRow, NmO3: put together.
-/
import Derived.Test.YtpamokpmlplopaaGreatDoorUniAj
import Derived.Test.YtpamokpmlplopaaGreatDoorUniAr
import Derived.Test.YtpamokpmlplopaaGreatDoorUniAu
import Derived.Test.YtpamokpmlplopaaGreatDoorUniAx
import Derived.Test.YtpamokpmlplopaaGreatDoorUniAy
import Derived.Test.YtpamokpmlplopaaGreatDoorUniBa
import Derived.Test.YtpamokpmlplopaaGreatDoorUniBb
import Derived.Test.YtpamokpmlplopaaGreatDoorUniBj
namespace Go.Proofs.YtpamokpmlplopaaGreatDoor
open Go.Abs
set_option maxRecDepth 20000
set_option linter.unusedSimpArgs false
set_option linter.unusedVariables false
set_option maxHeartbeats 1000000
attribute [local irreducible] vc vcOps vcStep vcGuard prK hrK gK gsK brK callK ElemK SeqK BlockK ScopeK OpsK CallK LoopK LoopGo finPost ACall PCall PCallE BCall vqOps vqStep vqGuard qrK heK pcK gqK gqsK QOpsK qcallK DrawK
theorem has26 (l:List ByteArray) (x:ByteArray):PCall Tryz.prog 26 [.lst 1 (l.map AV.s) none,.s x] (.b (memB x l)):=by
 refine pcall_of_vc tabOK Tryz.func26 (by kernel_rfl) rfl (pure_cons (pure_strs _) (pure_cons (.raw _) pure_nil)) (.raw _) (n:=18) rfl (rs:=[.tmp 4]) rfl ?_
 simp only[go_sem]
 refine loop_frH [4,5,6,7,8,9,10,11,12,13,14,15,16,17] (fun m C=>∃ i:Nat,i≤l.length∧m=l.length-i∧(∀ t∈l.take i,decide (t=x)=false)∧C=[(5,.raw (.int .i64 (i:Nat)))]) l.length _ ⟨0,by omega,by omega,by simp,rfl⟩ (.cons rfl .nil) ?_
 rintro m C ja ⟨i,hi,rfl,hp0,rfl⟩
 simp only[go_sem]
 intro _
 refine brK_dec (fun hlt=>?_) (fun hge=>?_)
 ·
  obtain⟨y,hy⟩:∃ y,l[i]?=some y:=⟨_,List.getElem?_eq_getElem (by omega)⟩
  simp only[go_sem]
  refine elemHave (x:=y) (by omega) (by simpa using hy) ?_
  simp only[go_sem]
  refine brK_dec (fun he=>?_) (fun he=>?_)
  ·
   simp only[go_sem]
   exact finBq rfl (memB_iff.2 (he▸List.mem_of_getElem? hy)).symm
  ·
   simp only[go_sem]
   exact loopFrH _ (by omega) ⟨i+1,by omega,rfl,take_all hp0 hy (decide_eq_false he),rfl⟩ (.next rfl (by omega) .nil) rfl
 ·
  simp only[go_sem]
  refine finBq rfl ?_
  symm
  cases hq:memB x l with
  | false=>rfl
  | true =>
   have:=take_full hp0 (by omega) x (memB_iff.1 hq)
   simp at this
section
section
variable (D:ByteArray→Prop) (nm:Nat→ByteArray) (ty:Ex→DTy) (cn:Ex→List Int) (va:ByteArray→Int) (fi:ByteArray→Int)
def Vn (k:Nat) (s:ByteArray):Prop:=D s∨∃ j,1≤j∧j≤k∧s=nm j
def okA (k:Nat) (a:DAtom):Prop:=a.Var=⟨#[]⟩∨Vn D nm k a.Var
def goodP (k:Nat) (q:DPlain):Prop:=(∀ a∈q.Args,okA D nm k a)∧okA D nm k q.Every
theorem Vn.mono {k k':Nat} {s:ByteArray} (h:Vn D nm k s) (hk:k≤k'):Vn D nm k' s:=by
 rcases h with h|⟨j,h1,h2,h3⟩
 ·
  exact .inl h
 ·
  exact .inr ⟨j,h1,by omega,h3⟩
theorem okA.mono {k k':Nat} {a:DAtom} (h:okA D nm k a) (hk:k≤k'):okA D nm k' a:=h.imp id fun h=>h.mono D nm hk
theorem goodP.mono {k k':Nat} {q:DPlain} (h:goodP D nm k q) (hk:k≤k'):goodP D nm k' q:=⟨fun a ha=>(h.1 a ha).mono D nm hk,h.2.mono D nm hk⟩
theorem okA_no (k:Nat) (n:Int):okA D nm k ⟨⟨#[]⟩,n⟩:=.inl rfl
structure Grw (st st':NmSt) (vs:List DVar) (es:List DPlain):Prop where
 vars:st'.vars=st.vars++vs
 eqs:st'.eqs=st.eqs++es
 num:st'.k=st.k+vs.length
 name:vs.map DVar.Name=(List.range' (st.k+1) vs.length).map nm
 tell:es.map (fun q=>(q.Names,q.On))=vs.map fun v=>([v.Name],v.On)
 good:∀ q∈es,goodP D nm st'.k q∧∀ c∈q.On,D c.Var
def Grew (st st':NmSt):Prop:=∃ vs es,Grw D nm st st' vs es
theorem Grew.refl (st:NmSt):Grew D nm st st:=⟨[],[],by simp,by simp,by simp,by simp,by simp,by simp⟩
theorem Grew.le {st st':NmSt} (h:Grew D nm st st'):st.k≤st'.k:=by obtain⟨vs,es,h⟩:=h;have:=h.num;omega
theorem Grew.trans {a b c:NmSt} (h:Grew D nm a b) (h2:Grew D nm b c):Grew D nm a c:=by
 have hle:=h2.le
 obtain⟨vs,es,h⟩:=h
 obtain⟨vs2,es2,h2⟩:=h2
 refine⟨vs++vs2,es++es2,by rw[h2.vars,h.vars,List.append_assoc],by rw[h2.eqs,h.eqs,List.append_assoc],by rw[h2.num,h.num,List.length_append];omega,?_,by rw[List.map_append,List.map_append,h.tell,h2.tell],fun q hq=>?_⟩
 ·
  rw[List.map_append,List.length_append,← List.range'_append_1,List.map_append,h.name,h2.name,h.num]
  rw[show a.k+1+vs.length=a.k+vs.length+1 by omega]
 ·
  rcases List.mem_append.1 hq with hq|hq
  ·
   exact⟨(h.good q hq).1.mono D nm hle,(h.good q hq).2⟩
  ·
   exact h2.good q hq
theorem Grew.fresh {q:DPlain} {t:DTy} {on:List DCond} {st:NmSt} (hq:goodP D nm st.k q) (ho:∀ c∈on,D c.Var):Grew D nm st (freshN nm q t on st).2∧okA D nm (freshN nm q t on st).2.k (freshN nm q t on st).1:=by
 refine⟨⟨[⟨nm (st.k+1),t,on⟩],[{ q with Names:=[nm (st.k+1)],On:=on }],rfl,rfl,rfl,by simp[List.range'],rfl,fun x hx=>?_⟩,.inr (.inr ⟨st.k+1,by omega,Nat.le_refl _,rfl⟩)⟩
 rw[List.mem_singleton.1 hx]
 exact⟨⟨fun a ha=>(hq.1 a ha).mono D nm (Nat.le_succ _),hq.2.mono D nm (Nat.le_succ _)⟩,ho⟩
def OkE (e:Ex):Prop:=∀ y∈parts e,y.kind=3∨y.kind=12→D y.name
def OkOn (on:List DCond):Prop:=∀ c∈on,D c.Var
def GoodE (e:Ex):Prop:=∀ on,OkOn D on→∀ st,Grew D nm st (plainN nm ty cn va fi e on st).2∧goodP D nm (plainN nm ty cn va fi e on st).2.k (plainN nm ty cn va fi e on st).1
theorem leaf_ok {e:Ex} (he:OkE D e) (k:Nat):okA D nm k (leafA va e):=by
 unfold leafA
 split
 ·
  rename_i h
  exact .inr (.inl (he e (self_parts e) (.inl h)))
 ·
  split
  ·
   exact okA_no D nm k _
  ·
   exact okA_no D nm k _
theorem atom_good {x:Ex} (he:OkE D x) (h:GoodE D nm ty cn va fi x) {on:List DCond} (ho:OkOn D on) (st:NmSt):Grew D nm st (atomN nm ty cn va fi x on st).2∧okA D nm (atomN nm ty cn va fi x on st).2.k (atomN nm ty cn va fi x on st).1:=by
 unfold atomN
 split
 ·
  exact⟨Grew.refl D nm st,leaf_ok D nm va he _⟩
 ·
  obtain⟨h1,h2⟩:=h on ho st
  obtain⟨h3,h4⟩:=Grew.fresh D nm (t:=ty x) h2 ho
  exact⟨h1.trans D nm h3,h4⟩
theorem each_good {l:List Ex} (he:∀ x∈l,OkE D x) (h:∀ x∈l,GoodE D nm ty cn va fi x) {on:List DCond} (ho:OkOn D on):∀ st,Grew D nm st (eachN nm ty cn va fi l on st).2∧∀ a∈(eachN nm ty cn va fi l on st).1,okA D nm (eachN nm ty cn va fi l on st).2.k a:=by
 induction l with
 | nil=>intro st;rw[eachN_nil];exact⟨Grew.refl D nm st,by simp⟩
 | cons x l ih =>
  intro st
  rw[eachN_cons]
  obtain⟨h1,h2⟩:=atom_good D nm ty cn va fi (he x List.mem_cons_self) (h x List.mem_cons_self) ho st
  obtain⟨h3,h4⟩:=ih (fun y hy=>he y (List.mem_cons_of_mem _ hy)) (fun y hy=>h y (List.mem_cons_of_mem _ hy)) (atomN nm ty cn va fi x on st).2
  refine⟨h1.trans D nm h3,fun a ha=>?_⟩
  rcases List.mem_cons.1 ha with rfl|ha
  ·
   exact h2.mono D nm (h3.le D nm)
  ·
   exact h4 a ha
theorem merge_good {l:List Ex} (he:∀ x∈l,OkE D x) (h:∀ x∈l,GoodE D nm ty cn va fi x) {m:ByteArray} (hm:D m) {on:List DCond} (ho:OkOn D on):∀(arms:List ByteArray) st,Grew D nm st (mergeN nm ty cn va fi m arms l on st).2∧∀ a∈(mergeN nm ty cn va fi m arms l on st).1,okA D nm (mergeN nm ty cn va fi m arms l on st).2.k a:=by
 induction l with
 | nil=>intro arms st;rw[mergeN];exact⟨Grew.refl D nm st,by simp⟩
 | cons x l ih =>
  intro arms st
  cases arms with
  | nil=>rw[mergeN];exact⟨Grew.refl D nm st,by simp⟩
  | cons c cs =>
   rw[mergeN_cons]
   have ho2:OkOn D (on++[⟨m,va c⟩]):=fun d hd=>by
    rcases List.mem_append.1 hd with hd|hd
    ·
     exact ho d hd
    ·
     rw[List.mem_singleton.1 hd];exact hm
   obtain⟨h1,h2⟩:=atom_good D nm ty cn va fi (he x List.mem_cons_self) (h x List.mem_cons_self) ho2 st
   obtain⟨h3,h4⟩:=ih (fun y hy=>he y (List.mem_cons_of_mem _ hy)) (fun y hy=>h y (List.mem_cons_of_mem _ hy)) cs (atomN nm ty cn va fi x (on++[⟨m,va c⟩]) st).2
   refine⟨h1.trans D nm h3,fun a ha=>?_⟩
   rcases List.mem_cons.1 ha with rfl|ha
   ·
    exact h2.mono D nm (h3.le D nm)
   ·
    exact h4 a ha
theorem head_good {e:Ex} (he:OkE D e) {ats:List DAtom} {frst:DAtom} {k:Nat} (h1:∀ a∈ats,okA D nm k a) (h2:okA D nm k frst) (hm:e.kind=12→D e.name):goodP D nm k (headN ty cn va fi e ats frst):=by
 have hn:okA D nm k noAtom:=okA_no D nm k 0
 have key:∀(c:Prop) [Decidable c] (x y:DPlain),goodP D nm k x→(¬ c→goodP D nm k y)→goodP D nm k (if c then x else y):=by
  intro c _ x y a b
  split
  ·
   exact a
  ·
   exact b ‹_›
 have pl:∀(kd op:Int) (l:List DAtom),(∀ a∈l,okA D nm k a)→goodP D nm k (plain0 kd op l):=fun kd op l hl=>⟨hl,hn⟩
 unfold headN
 refine key _ _ _ (pl _ _ _ h1) fun _=>?_
 refine key _ _ _ (pl _ _ _ h1) fun _=>?_
 refine key _ _ _ (pl _ _ _ h1) fun _=>?_
 refine key _ _ _ (pl _ _ _ h1) fun _=>?_
 refine key _ _ _ (pl _ _ _ h1) fun _=>?_
 refine key _ _ _ (pl _ _ _ h1) fun _=>?_
 refine key _ _ _ ⟨h1,hn⟩ fun _=>?_
 refine key _ _ _ ⟨h1,hn⟩ fun _=>?_
 refine key _ _ _ (pl _ _ _ (fun a ha=>by
  rcases List.mem_cons.1 ha with rfl|ha
  ·
   exact h2
  ·
   exact h1 a ha)) fun _=>?_
 refine key _ _ _ (pl _ _ _ h1) fun _=>?_
 split
 ·
  rename_i h12
  exact pl _ _ _ (fun a ha=>by
   rcases List.mem_cons.1 ha with rfl|ha
   ·
    exact .inr (.inl (hm h12))
   ·
    exact h1 a ha)
 ·
  split
  ·
   split
   ·
    refine⟨fun a ha=>h1 a (List.mem_of_mem_take ha),?_⟩
    show okA D nm k (ats.getLastD noAtom)
    cases hx:ats.getLast? with
    | none=>rw[List.getLastD_eq_getLast?,hx];exact hn
    | some a=>rw[List.getLastD_eq_getLast?,hx];exact h1 a (List.mem_of_getLast? hx)
   ·
    exact⟨h1,hn⟩
  ·
   exact pl _ _ _ (fun a ha=>by rw[List.mem_singleton.1 ha];exact leaf_ok D nm va he k)
theorem plain_good (e:Ex):OkE D e→GoodE D nm ty cn va fi e:=by
 induction e using Ex.ind with
 | _ e ih =>
 intro he on ho st
 have hes:∀ x∈e.subs,OkE D x:=fun x hx y hy=>he y (sub_parts hx hy)
 have ih':∀ x∈e.subs,GoodE D nm ty cn va fi x:=fun x hx=>ih x hx (hes x hx)
 have hf:Grew D nm st (frstN nm e on st).2∧okA D nm (frstN nm e on st).2.k (frstN nm e on st).1:=by
  unfold frstN
  split
  ·
   refine Grew.fresh D nm ⟨fun a ha=>?_,okA_no D nm _ 0⟩ ho
   rw[List.mem_singleton.1 ha]
   exact okA_no D nm _ 0
  ·
   exact⟨Grew.refl D nm st,okA_no D nm _ 0⟩
 rw[plainN_eq]
 generalize frstN nm e on st=fr at hf
 obtain⟨hf1,hf2⟩:=hf
 have ha:Grew D nm fr.2 (argsN nm ty cn va fi e on fr.2).2∧∀ a∈(argsN nm ty cn va fi e on fr.2).1,okA D nm (argsN nm ty cn va fi e on fr.2).2.k a:=by
  unfold argsN
  split
  ·
   rename_i h12
   exact merge_good D nm ty cn va fi hes ih' (he e (self_parts e) (.inr h12)) ho _ _
  ·
   split
   ·
    exact each_good D nm ty cn va fi (fun x hx=>hes x (List.mem_of_mem_drop hx)) (fun x hx=>ih' x (List.mem_of_mem_drop hx)) ho _
   ·
    refine each_good D nm ty cn va fi hes ih' ?_ _
    unfold onN
    split
    ·
     exact fun c hc=>ho c (List.dropLast_subset _ hc)
    ·
     exact ho
 exact⟨hf1.trans D nm ha.1,head_good D nm ty cn va fi he ha.2 (hf2.mono D nm (ha.1.le D nm)) fun h12=>he e (self_parts e) (.inr h12)⟩
end
end
def valN (l:List UInt8):Nat:=l.foldl (fun a c=>a * 10+(c.toNat-48)) 0
theorem valN_snoc (l:List UInt8) (c:UInt8):valN (l++[c])=valN l * 10+(c.toNat-48):=by simp[valN]
theorem dig8N {k:Nat} (h:k<10):(UInt8.ofNat (48+k)).toNat=48+k:=by
 rw[UInt8.toNat_ofNat']
 omega
theorem decN_val (u:Nat):valN (Lib.decDigits u)=u:=by
 induction u using Nat.strongRecOn with
 | _ u ih =>
 rw[Lib.decDigits]
 split
 ·
  rename_i h
  show 0 * 10+((UInt8.ofNat (48+u)).toNat-48)=u
  rw[dig8N h]
  omega
 ·
  rename_i h
  rw[valN_snoc,ih (u / 10) (by omega),dig8N (Nat.mod_lt _ (by decide))]
  omega
theorem digN_list (j:Nat):bts (digB (j:Int))=Lib.decDigits j:=by
 unfold digB Lib.itoa
 rw[if_neg (by omega)]
 simp[bts]
theorem cutN {c:UInt8}:∀ {a b r s:List UInt8},a++c::r=b++c::s→c ∉ a→c ∉ b→a=b∧r=s
 | [],[],_,_,h,_,_=>⟨rfl,by simpa using h⟩
 | [],y::b,_,_,h,_,hb=>by
  simp at h
  exact absurd (by rw[h.1];exact List.mem_cons_self) hb
 | x::a,[],_,_,h,ha,_=>by
  simp at h
  exact absurd (by rw[h.1];exact List.mem_cons_self) ha
 | x::a,y::b,r,s,h,ha,hb=>by
  simp only[List.cons_append,List.cons.injEq] at h
  obtain⟨h1,h2⟩:=cutN h.2 (fun q=>ha (List.mem_cons_of_mem _ q)) (fun q=>hb (List.mem_cons_of_mem _ q))
  exact⟨by rw[h.1,h1],h2⟩
theorem nm_list (x:ByteArray) (j:Nat):bts (nmN x j)=bts x++46::Lib.decDigits j:=by
 unfold nmN
 rw[show bts ((x++⟨#[46]⟩)++digB (j:Int))=(bts x++[46])++bts (digB (j:Int)) by unfold bts;rw[ByteArray.data_append,ByteArray.data_append];simp,digN_list]
 simp
theorem bts_eq {a b:ByteArray} (h:bts a=bts b):a=b:=by
 cases a;cases b
 congr
 exact Array.toList_inj.1 h
theorem nm_inj {x y:ByteArray} (hx:(46:UInt8) ∉ bts x) (hy:(46:UInt8) ∉ bts y) {i j:Nat} (h:nmN x i=nmN y j):x=y∧i=j:=by
 have h:=congrArg bts h
 rw[nm_list,nm_list] at h
 obtain⟨h1,h2⟩:=cutN h hx hy
 refine⟨bts_eq h1,?_⟩
 have:=congrArg valN h2
 rwa[decN_val,decN_val] at this
theorem nm_dot (x:ByteArray) (j:Nat):(46:UInt8)∈bts (nmN x j):=by rw[nm_list];simp
theorem low_dot {s:ByteArray} (h:lowF s=true):(46:UInt8) ∉ bts s:=by
 unfold lowF nameG at h
 simp only[Bool.and_eq_true,List.all_eq_true] at h
 intro hm
 exact absurd (h.1.2 46 hm) (by decide)
def prsN (es:List DPlain):List (ByteArray × List DCond):=es.flatMap fun q=>q.Names.map fun s=>(s,q.On)
theorem prs_app (a b:List DPlain):prsN (a++b)=prsN a++prsN b:=by simp[prsN]
theorem prs_tell {es:List DPlain} {vs:List DVar} (h:es.map (fun q=>(q.Names,q.On))=vs.map fun v=>([v.Name],v.On)):prsN es=vs.map fun v=>(v.Name,v.On):=by
 induction es generalizing vs with
 | nil =>
  cases vs with
  | nil=>rfl
  | cons v vs=>simp at h
 | cons q es ih =>
  cases vs with
  | nil=>simp at h
  | cons v vs =>
   simp only[List.map_cons,List.cons.injEq,Prod.mk.injEq] at h
   have h2:=ih h.2
   unfold prsN at h2 ⊢
   rw[List.flatMap_cons,h2,h.1.1,h.1.2]
   rfl
abbrev hdN (q:DEq):ByteArray:=q.Names.headD ⟨#[]⟩
def inA (D:ByteArray→Prop) (vs:List DVar) (a:DAtom):Prop:=a.Var=⟨#[]⟩∨D a.Var∨a.Var∈vs.map DVar.Name
structure InvN (D:ByteArray→Prop) (on:ByteArray→List DCond) (v0:List DVar) (l:List DEq) (st:List DVar × List DPlain) (vs:List DVar):Prop where
 vars:st.1=v0++vs
 frs:∀ v∈vs,(v.Name,v.On)∈prsN st.2
 dot:∀ v∈vs,∃ q∈l,∃ j,v.Name=nmN (hdN q) j
 mine:∀ q∈l,∀ s∈q.Names,(s,on (hdN q))∈prsN st.2
 nodup:((prsN st.2).map Prod.fst).Nodup
 only:∀ s∈(prsN st.2).map Prod.fst,s∈l.flatMap DEq.Names∨s∈vs.map DVar.Name
 good:∀ q∈st.2,(∀ a∈q.Args,inA D vs a)∧inA D vs q.Every∧∀ c∈q.On,D c.Var
theorem inv_step {p:DProg} {k:Int} {D:ByteArray→Prop} {v0:List DVar} {l:List DEq} {st:List DVar × List DPlain} {vs:List DVar} (h:InvN D (rowOn p k) v0 l st vs) {x:DEq}
  (hl:∀ q∈l,q.Names≠[]∧∀ s∈q.Names,(46:UInt8) ∉ bts s) (hx:x.Names≠[]) (hxd:∀ s∈x.Names,(46:UInt8) ∉ bts s) (hnd:((l++[x]).flatMap DEq.Names).Nodup) (he:OkE D x.E) (ho:OkOn D (rowOn p k (hdN x))) :
  ∃ vs',InvN D (rowOn p k) v0 (l++[x]) (eqNm p k st x) vs':=by
 obtain⟨hG,hq⟩:=plain_good D (nmN (hdN x)) (tyN p k) (cnN p) (vaN p) (fiN p) x.E he (rowOn p k (hdN x)) ho ⟨st.1,st.2,0⟩
 have e1:(eqNm p k st x).1=(eqPl p k st x).2.vars:=rfl
 have e2:(eqNm p k st x).2=(eqPl p k st x).2.eqs++[{ (eqPl p k st x).1 with Names:=x.Names,On:=rowOn p k (hdN x) }]:=rfl
 have e3:plainN (nmN (hdN x)) (tyN p k) (cnN p) (vaN p) (fiN p) x.E (rowOn p k (hdN x)) ⟨st.1,st.2,0⟩=eqPl p k st x:=rfl
 rw[e3] at hG hq
 generalize eqPl p k st x=r at e1 e2 hG hq
 obtain⟨q0,r2⟩:=r
 obtain⟨ws,es,hv,heq,hk,hnm,htl,hgd⟩:=hG
 simp only at e1 e2 hv heq hk hnm hgd hq
 rw[Nat.zero_add] at hk hnm
 rw[hv] at e1
 rw[heq] at e2
 have hhd:hdN x∈x.Names:=by
  unfold hdN
  match x.Names,hx with
  | s::r,_=>simp
 have hws:∀ v∈ws,∃ j,v.Name=nmN (hdN x) j:=fun v hv=>by
  have:v.Name∈ws.map DVar.Name:=List.mem_map.2 ⟨v,hv,rfl⟩
  rw[hnm] at this
  obtain⟨j,_,hj⟩:=List.mem_map.1 this
  exact⟨j,hj.symm⟩
 have hin:∀ a:DAtom,okA D (nmN (hdN x)) r2.k a→inA D (vs++ws) a:=fun a ha=>by
  rcases ha with ha|ha|⟨j,j1,j2,j3⟩
  ·
   exact .inl ha
  ·
   exact .inr (.inl ha)
  ·
   refine .inr (.inr ?_)
   rw[List.map_append,hnm,j3]
   refine List.mem_append_right _ (List.mem_map.2 ⟨j,?_,rfl⟩)
   rw[List.mem_range'_1]
   omega
 have hinO:∀ a:DAtom,inA D vs a→inA D (vs++ws) a:=fun a ha=>by
  rcases ha with ha|ha|ha
  ·
   exact .inl ha
  ·
   exact .inr (.inl ha)
  ·
   exact .inr (.inr (by rw[List.map_append];exact List.mem_append_left _ ha))
 have hP:prsN (eqNm p k st x).2=prsN st.2++(ws.map (fun v=>(v.Name,v.On))++x.Names.map fun s=>(s,rowOn p k (hdN x))):=by
  rw[e2,List.append_assoc,prs_app,prs_app,prs_tell htl]
  simp[prsN]
 have hF:(prsN (eqNm p k st x).2).map Prod.fst=(prsN st.2).map Prod.fst++(ws.map DVar.Name++x.Names):=by
  rw[hP,List.map_append,List.map_append,List.map_map,List.map_map]
  congr 2
  simp[Function.comp_def]
 rw[List.flatMap_append,List.nodup_append] at hnd
 obtain⟨_,n2,n3⟩:=hnd
 have n2:x.Names.Nodup:=by simpa using n2
 have n3:∀ a∈l.flatMap DEq.Names,∀ b∈x.Names,a≠b:=fun a ha b hb=>n3 a ha b (by simpa using hb)
 refine⟨vs++ws,by rw[e1,h.vars,List.append_assoc],fun v hm=>?_,fun v hm=>?_,fun q hm s hs=>?_,?_,fun s hs=>?_,fun q hm=>?_⟩
 ·
  rw[hP]
  rcases List.mem_append.1 hm with hm|hm
  ·
   exact List.mem_append_left _ (h.frs v hm)
  ·
   exact List.mem_append_right _ (List.mem_append_left _ (List.mem_map.2 ⟨v,hm,rfl⟩))
 ·
  rcases List.mem_append.1 hm with hm|hm
  ·
   obtain⟨q,hq,j,hj⟩:=h.dot v hm
   exact⟨q,List.mem_append_left _ hq,j,hj⟩
  ·
   obtain⟨j,hj⟩:=hws v hm
   exact⟨x,by simp,j,hj⟩
 ·
  rw[hP]
  rcases List.mem_append.1 hm with hm|hm
  ·
   exact List.mem_append_left _ (h.mine q hm s hs)
  ·
   rw[List.mem_singleton.1 hm] at hs ⊢
   exact List.mem_append_right _ (List.mem_append_right _ (List.mem_map.2 ⟨s,hs,rfl⟩))
 ·
  rw[hF,List.nodup_append,List.nodup_append]
  refine⟨h.nodup,⟨?_,n2,fun a ha b hb e=>?_⟩,fun a ha b hb e=>?_⟩
  ·
   rw[hnm]
   refine List.Pairwise.map _ (fun i j hij e=>?_) (List.nodup_range' (n:=ws.length) (s:=1))
   exact hij (nm_inj (hxd _ hhd) (hxd _ hhd) e).2
  ·
   obtain⟨v,hv,rfl⟩:=List.mem_map.1 ha
   obtain⟨j,hj⟩:=hws v hv
   rw[← e,hj] at hb
   exact hxd _ hb (nm_dot _ _)
  ·
   have hb2:(46:UInt8)∈bts b∨b∈x.Names:=by
    rcases List.mem_append.1 hb with hb|hb
    ·
     obtain⟨v,hv,rfl⟩:=List.mem_map.1 hb
     obtain⟨j,hj⟩:=hws v hv
     exact .inl (by rw[hj];exact nm_dot _ _)
    ·
     exact .inr hb
   rcases h.only a ha with ha|ha
   ·
    rcases hb2 with hb2|hb2
    ·
     obtain⟨q,hq,hs⟩:=List.mem_flatMap.1 ha
     exact(hl q hq).2 a hs (by rw[e];exact hb2)
    ·
     exact n3 a ha b hb2 e
   ·
    obtain⟨v,hv,rfl⟩:=List.mem_map.1 ha
    obtain⟨q,hq,j,hj⟩:=h.dot v hv
    have hqh:hdN q∈q.Names:=by
     have:=(hl q hq).1
     unfold hdN
     match q.Names,this with
     | s::r,_=>simp
    rcases List.mem_append.1 hb with hb|hb
    ·
     obtain⟨w,hw,rfl⟩:=List.mem_map.1 hb
     obtain⟨i,hi⟩:=hws w hw
     rw[hj,hi] at e
     exact n3 _ (List.mem_flatMap.2 ⟨q,hq,hqh⟩) _ hhd (nm_inj ((hl q hq).2 _ hqh) (hxd _ hhd) e).1
    ·
     rw[hj] at e
     exact hxd b hb (by rw[← e];exact nm_dot _ _)
 ·
  rw[hF] at hs
  rw[List.flatMap_append,List.map_append]
  rcases List.mem_append.1 hs with hs|hs
  ·
   rcases h.only s hs with hs|hs
   ·
    exact .inl (List.mem_append_left _ hs)
   ·
    exact .inr (List.mem_append_left _ hs)
  ·
   rcases List.mem_append.1 hs with hs|hs
   ·
    exact .inr (List.mem_append_right _ hs)
   ·
    exact .inl (List.mem_append_right _ (by simpa using hs))
 ·
  rw[e2,List.append_assoc] at hm
  rcases List.mem_append.1 hm with hm|hm
  ·
   obtain⟨g1,g2,g3⟩:=h.good q hm
   exact⟨fun a ha=>hinO a (g1 a ha),hinO _ g2,g3⟩
  ·
   rcases List.mem_append.1 hm with hm|hm
   ·
    obtain⟨⟨g1,g2⟩,g3⟩:=hgd q hm
    exact⟨fun a ha=>hin a (g1 a ha),hin _ g2,g3⟩
   ·
    rw[List.mem_singleton.1 hm]
    exact⟨fun a ha=>hin a (hq.1 a ha),hin _ hq.2,ho⟩
theorem inv_all {p:DProg} {k:Int} {D:ByteArray→Prop} {v0:List DVar} {l:List DEq} (hl:∀ q∈l,q.Names≠[]∧(∀ s∈q.Names,(46:UInt8) ∉ bts s)∧OkE D q.E∧OkOn D (rowOn p k (hdN q))) (hnd:(l.flatMap DEq.Names).Nodup) :
  ∀ i,i≤l.length→∃ vs,InvN D (rowOn p k) v0 (l.take i) (eqsNm p k (v0,[]) (l.take i)) vs
 | 0,_=>⟨[],by simp[eqsNm],by simp,by simp,by simp,by simp[eqsNm,prsN],by simp[eqsNm,prsN],by simp[eqsNm]⟩
 | i+1,hi=>by
  obtain⟨vs,h⟩:=inv_all hl hnd i (by omega)
  obtain⟨x,hx⟩:∃ x,l[i]?=some x:=⟨_,List.getElem?_eq_getElem (by omega)⟩
  rw[eqsNm_next p k hx]
  have hxm:=List.mem_of_getElem? hx
  have ht:l.take (i+1)=l.take i++[x]:=by rw[List.take_add_one,hx];rfl
  rw[ht]
  refine inv_step h (fun q hq=>⟨(hl q (List.mem_of_mem_take hq)).1,(hl q (List.mem_of_mem_take hq)).2.1⟩) (hl x hxm).1 (hl x hxm).2.1 ?_ (hl x hxm).2.2.1 (hl x hxm).2.2.2
  rw[← ht]
  have h2:l.flatMap DEq.Names=(l.take (i+1)).flatMap DEq.Names++(l.drop (i+1)).flatMap DEq.Names:=by rw[← List.flatMap_append,List.take_append_drop]
  rw[h2,List.nodup_append] at hnd
  exact hnd.1
theorem names_nodup {n:DNode}:∀ {l D:List ByteArray},namesErr n D l=0→D.Nodup→(D++l).Nodup
 | [],D,_,h=>by simpa using h
 | s::r,D,h,hD=>by
  rw[namesErr] at h
  split at h
  ·
   omega
  ·
   split at h
   ·
    omega
   ·
    rename_i h2
    have hs:s ∉ D:=fun hm=>h2 (by rw[memB_iff.2 hm,Bool.or_true])
    have:=names_nodup h (by rw[List.nodup_append];exact⟨hD,by simp,fun a ha b hb e=>by rw[List.mem_singleton.1 hb] at e;exact hs (e▸ha)⟩)
    simpa using this
theorem eqs_nodup {p:DProg} {a:Int} {n:DNode}:∀ {l:List DEq} {i:Nat} {D:List ByteArray},(eqsErr p a n i D l).2=0→D.Nodup→(D++l.flatMap DEq.Names).Nodup∧∀ q∈l,(parts q.E).all (leadsF p a n)=true
 | [],_,_,_,hD=>by simpa using hD
 | q::r,i,D,h,hD=>by
  rw[eqsErr] at h
  split at h
  ·
   rename_i h0
   have hq:namesErr n D q.Names=0∧(parts q.E).all (leadsF p a n)=true:=by
    unfold eqErr at h0
    split at h0
    ·
     split at h0
     ·
      exact⟨by assumption,by assumption⟩
     ·
      omega
    ·
     rename_i h1;exact absurd h0 h1
   obtain⟨k1,k2⟩:=eqs_nodup h (names_nodup hq.1 hD)
   refine⟨by rw[List.flatMap_cons,← List.append_assoc];exact k1,fun x hx=>?_⟩
   rcases List.mem_cons.1 hx with rfl|hx
   ·
    exact hq.2
   ·
    exact k2 x hx
  ·
   rename_i h0
   exact absurd h h0
theorem zeroF:(AV.agg [.raw (.int .i64 0),.raw (.int .i64 0),.raw (.int .i64 0)])=(⟨0,0,0⟩:DFault).enc:=by rw[DFault.enc_eq]
theorem clk_app (n:DNode):∀(k:Nat) (s:ByteArray) (acc:List DDecl),clk n k s acc=if(clk n k s []).2=true then((clk n k s []).1++acc,true) else([],false)
 | 0,_,_=>rfl
 | k+1,s,acc=>by
  rw[clk_succ,clk_succ]
  by_cases h1:(decl n s).2=true
  ·
   rw[if_pos h1,if_pos h1]
   by_cases h2:(decl n s).1.On=⟨#[]⟩
   ·
    rw[if_pos h2,if_pos h2];rfl
   ·
    rw[if_neg h2,if_neg h2,clk_app n k _ ((decl n s).1::acc),clk_app n k _ [(decl n s).1]]
    by_cases h3:(clk n k (decl n s).1.On []).2=true
    ·
     rw[if_pos h3,if_pos h3];simp
    ·
     rw[if_neg h3,if_neg h3];rfl
  ·
   rw[if_neg h1,if_neg h1];rfl
theorem clk_on {n:DNode} {k:Nat} {s:ByteArray} (h:(clk n (k+1) s []).2=true) (h2:¬ (decl n s).1.On=⟨#[]⟩):(clk n k (decl n s).1.On []).2=true∧clk n (k+1) s []=((clk n k (decl n s).1.On []).1++[(decl n s).1],true):=by
 rw[clk_succ] at h ⊢
 by_cases h1:(decl n s).2=true
 ·
  rw[if_pos h1,if_neg h2,clk_app n k _ [(decl n s).1]] at h ⊢
  by_cases h3:(clk n k (decl n s).1.On []).2=true
  ·
   exact⟨h3,by rw[if_pos h3]⟩
  ·
   rw[if_neg h3] at h;cases h
 ·
  rw[if_neg h1] at h;cases h
theorem clk_more {n:DNode}:∀ {k:Nat} {s:ByteArray},(clk n k s []).2=true→clk n (k+1) s []=clk n k s []
 | 0,_,h=>by cases h
 | k+1,s,h=>by
  by_cases h2:(decl n s).1.On=⟨#[]⟩
  ·
   rw[clk_succ n (k+1),if_pos h2,clk_succ n k,if_pos h2]
  ·
   obtain⟨h3,h4⟩:=clk_on h h2
   have h5:=clk_more h3
   have h1:(decl n s).2=true:=by
    rw[clk_succ] at h
    by_cases h1:(decl n s).2=true
    ·
     exact h1
    ·
     rw[if_neg h1] at h;cases h
   rw[h4,clk_succ,if_pos h1,if_neg h2,clk_app,h5,if_pos h3]
theorem clk_ahead {n:DNode}:∀ {k:Nat} {s:ByteArray},(clk n k s []).2=true→∀(j:Nat) d,(clk n k s []).1[j]?=some d→clk n k d.On []=((clk n k s []).1.take j,true)
 | 0,_,h,_,_,_=>by cases h
 | k+1,s,h,j,d,hd=>by
  by_cases h2:(decl n s).1.On=⟨#[]⟩
  ·
   rw[clk_succ,if_pos h2] at hd
   split at hd<;>simp at hd
  ·
   obtain⟨h3,h4⟩:=clk_on h h2
   rw[h4] at hd ⊢
   generalize hX:(clk n k (decl n s).1.On []).1=X at hd
   dsimp only at hd ⊢
   by_cases hj:j<X.length
   ·
    rw[List.getElem?_append_left hj] at hd
    have ih:=clk_ahead h3 j d (by rw[hX];exact hd)
    rw[clk_more (by rw[ih]),ih,hX,List.take_append_of_le_length (by omega)]
   ·
    rw[List.getElem?_append_right (by omega)] at hd
    have hj2:j=X.length:=by
     have:=(List.getElem?_eq_some_iff.1 hd).1
     simp at this
     omega
    subst hj2
    simp at hd
    subst hd
    rw[clk_more h3,List.take_left,← hX,← h3]
theorem rowN_ok {L:List DEnum} {n:DNode} {s:ByteArray} (h:(rowN L n s).2=true):(clock n s).2=true∧(∀ d∈(clock n s).1,armOk L d.Ctor=true)∧rowN L n s=((clock n s).1.map (fun d=>condOf L d.On d.Ctor),true):=by
 unfold rowN at *
 split at h
 ·
  rename_i h0
  rw[if_pos h0]
  unfold rowL at *
  split at h
  ·
   rename_i h1
   exact⟨h0,fun d hd=>List.all_eq_true.1 h1 d hd,by rw[if_pos h1]⟩
  ·
   cases h
 ·
  cases h
theorem row_ahead {L:List DEnum} {n:DNode} {s:ByteArray} (h:(rowN L n s).2=true) {j:Nat} {c:DCond} (hc:(rowN L n s).1[j]?=some c):rowN L n c.Var=((rowN L n s).1.take j,true):=by
 obtain⟨h1,h2,h3⟩:=rowN_ok h
 rw[h3] at hc ⊢
 dsimp only at hc ⊢
 rw[List.getElem?_map] at hc
 cases hd:(clock n s).1[j]? with
 | none=>rw[hd] at hc;cases hc
 | some d =>
  rw[hd] at hc
  obtain rfl:=Option.some.inj hc
  have ha:clock n d.On=((clock n s).1.take j,true):=clk_ahead h1 j d hd
  show rowN L n d.On=_
  unfold rowN
  rw[ha,if_pos rfl,rowL_yes (fun x hx=>h2 x (List.mem_of_mem_take hx)),List.map_take]
theorem once_nodes {p:DProg} (h:checkF p=0) {n:DNode} (hn:n∈p.Nodes):((allV n).map DDecl.Name).Nodup:=by
 unfold checkF at h
 split at h
 ·
  rename_i h0;exact absurd h h0
 ·
  split at h
  ·
   omega
  ·
   split at h
   ·
    omega
   ·
    split at h
    ·
     split at h
     ·
      rename_i hq
      simp only[Bool.and_eq_true] at hq
      have h1:=List.all_eq_true.1 hq.1 n hn
      unfold onceN at h1
      by_cases hN:((allV n).map DDecl.Name).Nodup
      ·
       exact hN
      ·
       rw[onceB_no hN] at h1;cases h1
     ·
      omega
    ·
     omega
theorem row_in {L:List DEnum} {n:DNode} {s:ByteArray} (h:(rowN L n s).2=true):isF n s=true:=by
 have h1:=(rowN_ok h).1
 unfold clock at h1
 rw[clk_succ] at h1
 unfold isF
 split at h1
 ·
  assumption
 ·
  cases h1
theorem rowF_at {p:DProg} {k:Nat} {n:DNode} (hn:p.Nodes[k]?=some n) (s:ByteArray):rowF p (k:Int) s=rowN p.Enums n s:=by unfold rowF;rw[nodeAt_nat,hn]
theorem rowOn_at {p:DProg} {k:Nat} {n:DNode} (hn:p.Nodes[k]?=some n) (s:ByteArray):rowOn p (k:Int) s=(rowN p.Enums n s).1:=by unfold rowOn;rw[rowF_at hn]
structure NodeFit (p:DProg) (k:Nat) (n:DNode):Prop where
 at_:p.Nodes[k]?=some n
 eqs:∀ q∈n.Eqs,q.Names≠[]∧(∀ s∈q.Names,isF n s=true∧(46:UInt8) ∉ bts s)∧OkE (fun s=>isF n s=true) q.E∧OkOn (fun s=>isF n s=true) (rowOn p (k:Int) (hdN q))∧∀ s∈q.Names,rowOn p (k:Int) s=rowOn p (k:Int) (hdN q)
 nodup:(n.Eqs.flatMap DEq.Names).Nodup
 ins:∀ d∈n.Ins,d.Name ∉ n.Eqs.flatMap DEq.Names
 outs:∀ d∈n.Outs++n.Vars,d.Name∈n.Eqs.flatMap DEq.Names
 dots:∀ d∈allV n,(46:UInt8) ∉ bts d.Name
 decls:((allV n).map DDecl.Name).Nodup
theorem node_fit {p:DProg} (h:(startF p).Err=0) {k:Nat} {n:DNode} (hn:p.Nodes[k]?=some n):NodeFit p k n:=by
 obtain⟨hck,hall⟩:=start_eqs h
 obtain⟨hr,hf,hq⟩:=hall k n hn
 have hnm:=List.mem_of_getElem? hn
 have hnf:=List.all_eq_true.1 (check_nodes hck) n hnm
 have hdot:∀ d∈allV n,(46:UInt8) ∉ bts d.Name:=fun d hd=>by
  unfold nodeF at hnf
  simp only[Bool.and_eq_true,List.all_eq_true] at hnf
  have:=hnf.1.1.1 d hd
  unfold declaredF at this
  simp only[Bool.and_eq_true] at this
  exact low_dot this.1.1
 have hisd:∀ s,isF n s=true→(46:UInt8) ∉ bts s:=fun s hs=>by
  obtain⟨d,hd,rfl⟩:=is_mem hs
  exact hdot d hd
 have his:=node_is hf
 have hf2:=hf
 unfold nodeFault at hf2
 split at hf2
 case isFalse=>cases hf2
 split at hf2
 case isFalse h2=>exact absurd hf2 h2
 rename_i _ h2
 split at hf2
 case isFalse=>cases hf2
 rename_i hd
 obtain⟨k1,_⟩:=eqs_nodup h2 List.nodup_nil
 rw[List.nil_append] at k1
 refine⟨hn,fun q hm=>?_,k1,fun d hd hm=>?_,fun d hdm=>memB_iff.1 (List.all_eq_true.1 hd d hdm),hdot,once_nodes hck hnm⟩
 ·
  obtain⟨i1,i2⟩:=his q hm
  have hne:q.Names≠[]:=by obtain⟨s,r,e⟩:=(hq q hm).names;rw[e];simp
  have hhd:hdN q∈q.Names:=by
   unfold hdN
   match q.Names,hne with
   | s::r,_=>simp
  have hrow:=row_is hr (i1 _ hhd)
  refine⟨hne,fun s hs=>⟨i1 s hs,hisd s (i1 s hs)⟩,fun y hy hk=>?_,fun c hc=>?_,fun s hs=>by rw[rowOn_at hn,rowOn_at hn];exact(hq q hm).same s hs⟩
  ·
   have hl:=List.all_eq_true.1 i2 y hy
   unfold leadsF at hl
   rw[if_pos (by omega)] at hl
   simp only[Bool.and_eq_true] at hl
   exact hl.2
  ·
   rw[rowOn_at hn] at hc
   obtain⟨j,hj,rfl⟩:=List.getElem_of_mem hc
   have:=row_ahead hrow (List.getElem?_eq_getElem hj)
   exact row_in (L:=p.Enums) (by rw[this])
 ·
  have h1:=eqsErr_in h2 _ hm
  have h3:inF n d.Name=true:=List.any_eq_true.2 ⟨d,hd,by simp⟩
  rw[h3] at h1;cases h1
def allN (f:DFlow):List DVar:=f.Ins++(f.Outs++f.Vars)
theorem flow_inv {p:DProg} {k:Nat} {n:DNode} (h:NodeFit p k n):∃ vs,InvN (fun s=>isF n s=true) (rowOn p (k:Int)) (n.Vars.map (varNm p (k:Int))) n.Eqs ((flowNm p (k:Int) n).Vars,(flowNm p (k:Int) n).Eqs) vs:=by
 obtain⟨vs,hv⟩:=inv_all (p:=p) (k:=(k:Int)) (D:=fun s=>isF n s=true) (v0:=n.Vars.map (varNm p (k:Int))) (l:=n.Eqs)
  (fun q hq=>⟨(h.eqs q hq).1,fun s hs=>((h.eqs q hq).2.1 s hs).2,(h.eqs q hq).2.2.1,(h.eqs q hq).2.2.2.1⟩) h.nodup n.Eqs.length (Nat.le_refl _)
 rw[List.take_length] at hv
 exact⟨vs,hv⟩
theorem filt_one {β:Type} {l:List (ByteArray × β)} (hn:(l.map Prod.fst).Nodup) {x:ByteArray × β} (hx:x∈l):l.filter (fun y=>decide (y.1=x.1))=[x]:=by
 induction l with
 | nil=>cases hx
 | cons a l ih =>
  rw[List.map_cons,List.nodup_cons] at hn
  rcases List.mem_cons.1 hx with rfl|hx
  ·
   rw[List.filter_cons,if_pos (by simp),List.filter_eq_nil_iff.2 (fun y hy=>by
    simp only[decide_eq_true_eq]
    exact fun e=>hn.1 (e▸List.mem_map.2 ⟨y,hy,rfl⟩))]
  ·
   rw[List.filter_cons,if_neg (by
    simp only[decide_eq_true_eq]
    exact fun e=>hn.1 (e▸List.mem_map.2 ⟨x,hx,rfl⟩)),ih hn.2 hx]
noncomputable def cntN (f:DFlow) (x:DVar):Nat × Bool:=(((prsN f.Eqs).filter fun y=>decide (y.1=x.Name)).length,((prsN f.Eqs).filter fun y=>decide (y.1=x.Name)).all fun y=>eqB y.2 x.On)
theorem cnt_outs {p:DProg} {k:Nat} {n:DNode} (h:NodeFit p k n):∀ x∈(flowNm p (k:Int) n).Outs++(flowNm p (k:Int) n).Vars,cntN (flowNm p (k:Int) n) x=(1,true):=by
 obtain⟨vs,hv⟩:=flow_inv h
 have key:∀ x:DVar,(x.Name,x.On)∈prsN (flowNm p (k:Int) n).Eqs→cntN (flowNm p (k:Int) n) x=(1,true):=fun x hx=>by
  have:=filt_one hv.nodup hx
  unfold cntN
  rw[this]
  simp[eqB_eq (x:=x.On) (y:=x.On) rfl]
 have dc:∀ d∈n.Outs++n.Vars,((varNm p (k:Int) d).Name,(varNm p (k:Int) d).On)∈prsN (flowNm p (k:Int) n).Eqs:=fun d hd=>by
  obtain⟨q,hq,hs⟩:=List.mem_flatMap.1 (h.outs d hd)
  have:=hv.mine q hq d.Name hs
  rw[← (h.eqs q hq).2.2.2.2 d.Name hs] at this
  exact this
 intro x hx
 rcases List.mem_append.1 hx with hx|hx
 ·
  obtain⟨d,hd,rfl⟩:=List.mem_map.1 (show x∈n.Outs.map (varNm p (k:Int)) from hx)
  exact key _ (dc d (by simp[hd]))
 ·
  have e:(flowNm p (k:Int) n).Vars=n.Vars.map (varNm p (k:Int))++vs:=hv.vars
  rw[e] at hx
  rcases List.mem_append.1 hx with hx|hx
  ·
   obtain⟨d,hd,rfl⟩:=List.mem_map.1 hx
   exact key _ (dc d (by simp[hd]))
  ·
   exact key x (hv.frs x hx)
theorem in_all {p:DProg} {k:Nat} {n:DNode} {vs:List DVar} (hv:(flowNm p (k:Int) n).Vars=n.Vars.map (varNm p (k:Int))++vs) {s:ByteArray} (hs:isF n s=true∨s∈vs.map DVar.Name):s∈(allN (flowNm p (k:Int) n)).map DVar.Name:=by
 unfold allN
 rw[hv]
 simp only[List.map_append,List.mem_append]
 rcases hs with hs|hs
 ·
  obtain⟨d,hd,rfl⟩:=is_mem hs
  have hd:d∈n.Ins∨d∈n.Outs∨d∈n.Vars:=by simpa[allV] using hd
  rcases hd with hd|hd|hd
  ·
   exact .inl (List.mem_map.2 ⟨varNm p (k:Int) d,List.mem_map.2 ⟨d,hd,rfl⟩,rfl⟩)
  ·
   exact .inr (.inl (List.mem_map.2 ⟨varNm p (k:Int) d,List.mem_map.2 ⟨d,hd,rfl⟩,rfl⟩))
  ·
   exact .inr (.inr (.inl (List.mem_map.2 ⟨varNm p (k:Int) d,List.mem_map.2 ⟨d,hd,rfl⟩,rfl⟩)))
 ·
  exact .inr (.inr (.inr hs))
theorem need_in {p:DProg} {k:Nat} {n:DNode} (h:NodeFit p k n):∀ q∈(flowNm p (k:Int) n).Eqs,∀ s∈readsP q++q.Names,s∈(allN (flowNm p (k:Int) n)).map DVar.Name:=by
 obtain⟨vs,hv⟩:=flow_inv h
 intro q hq s hs
 obtain⟨g1,g2,g3⟩:=hv.good q hq
 rcases List.mem_append.1 hs with hs|hs
 ·
  unfold readsP rawP at hs
  rw[List.mem_filter] at hs
  obtain⟨hs,hne⟩:=hs
  have hne:¬ s=⟨#[]⟩:=by simpa using hne
  have key:∀ a:DAtom,inA (fun s=>isF n s=true) vs a→a.Var=s→s∈(allN (flowNm p (k:Int) n)).map DVar.Name:=fun a ha e=>by
   rw[← e]
   rcases ha with ha|ha|ha
   ·
    exact absurd (e▸ha) hne
   ·
    exact in_all hv.vars (.inl ha)
   ·
    exact in_all hv.vars (.inr ha)
  rcases List.mem_append.1 hs with hs|hs
  ·
   unfold argsP at hs
   split at hs
   ·
    cases hs
   ·
    obtain⟨a,ha,e⟩:=List.mem_map.1 hs
    exact key a (g1 a ha) e
  ·
   rcases List.mem_append.1 hs with hs|hs
   ·
    split at hs
    ·
     exact key q.Every g2 (List.mem_singleton.1 hs).symm
    ·
     cases hs
   ·
    obtain⟨c,hc,e⟩:=List.mem_map.1 hs
    exact in_all hv.vars (.inl (by rw[← e];exact g3 c hc))
 ·
  have hm:s∈(prsN (flowNm p (k:Int) n).Eqs).map Prod.fst:=List.mem_map.2 ⟨(s,q.On),List.mem_flatMap.2 ⟨q,hq,List.mem_map.2 ⟨s,hs,rfl⟩⟩,rfl⟩
  rcases hv.only s hm with hs2|hs2
  ·
   obtain⟨x,hx,hsx⟩:=List.mem_flatMap.1 hs2
   exact in_all hv.vars (.inl ((h.eqs x hx).2.1 s hsx).1)
  ·
   exact in_all hv.vars (.inr hs2)
end Go.Proofs.YtpamokpmlplopaaGreatDoor
