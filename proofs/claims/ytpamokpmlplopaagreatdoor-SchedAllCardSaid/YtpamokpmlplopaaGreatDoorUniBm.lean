/-
  NmS2, NmS3, NmSA: put together.
-/
import Derived.Test.YtpamokpmlplopaaGreatDoorUniAj
import Derived.Test.YtpamokpmlplopaaGreatDoorUniAx
import Derived.Test.YtpamokpmlplopaaGreatDoorUniBb
import Derived.Test.YtpamokpmlplopaaGreatDoorUniBj
import Derived.Test.YtpamokpmlplopaaGreatDoorUniBk
import Derived.Test.YtpamokpmlplopaaGreatDoorUniBl
namespace Go.Proofs.YtpamokpmlplopaaGreatDoor
open Go.Abs
set_option maxRecDepth 20000
set_option linter.unusedSimpArgs false
set_option linter.unusedVariables false
set_option maxHeartbeats 1000000
attribute [local irreducible] vc vcOps vcStep vcGuard prK hrK gK gsK brK callK ElemK SeqK BlockK ScopeK OpsK CallK LoopK LoopGo finPost ACall PCall PCallE BCall vqOps vqStep vqGuard qrK heK pcK gqK gqsK QOpsK qcallK DrawK
section
section
variable (H D:ByteArray→Prop) (nm:Nat→ByteArray) (ty:Ex→DTy) (cn:Ex→List Int) (va:ByteArray→Int) (fi:ByteArray→Int)
def okR (fl:List Bool) (m:Nat) (d:Bool) (s:ByteArray):Prop:=if d=true then D s∨∃ j,j<m∧s=nm (j+1) else H s∨∃ j,j<m∧s=nm (j+1)∧fl[j]?=some false
def okRA (fl:List Bool) (m:Nat) (d:Bool) (a:DAtom):Prop:=a.Var=⟨#[]⟩∨okR H D nm fl m d a.Var
theorem okR.mono {fl fs:List Bool} {m m':Nat} {d:Bool} {s:ByteArray} (h:okR H D nm fl m d s) (hm:m≤m'):okR H D nm (fl++fs) m' d s:=by
 unfold okR at h ⊢
 split at h
 ·
  rename_i hd
  rw[if_pos hd]
  rcases h with h|⟨j,h1,h2⟩
  ·
   exact .inl h
  ·
   exact .inr ⟨j,by omega,h2⟩
 ·
  rename_i hd
  rw[if_neg hd]
  rcases h with h|⟨j,h1,h2,h3⟩
  ·
   exact .inl h
  ·
   refine .inr ⟨j,by omega,h2,?_⟩
   rw[List.getElem?_append_left (List.getElem?_eq_some_iff.1 h3).1]
   exact h3
theorem okRA.mono {fl fs:List Bool} {m m':Nat} {d:Bool} {a:DAtom} (h:okRA H D nm fl m d a) (hm:m≤m'):okRA H D nm (fl++fs) m' d a:=h.imp id fun h=>h.mono H D nm hm
structure Gfl (st st':NmSt) (fl fs:List Bool) (es:List DPlain):Prop where
 old:st.k=fl.length
 eqs:st'.eqs=st.eqs++es
 num:st'.k=st.k+fs.length
 len:es.length=fs.length
 names:∀(i:Nat) q,es[i]?=some q→q.Names=[nm (st.k+i+1)]
 reads:∀(i:Nat) q d,es[i]?=some q→fs[i]?=some d→∀ s∈readsP q,okR H D nm (fl++fs) (st.k+i) d s
def Grows (st st':NmSt) (fl fl':List Bool):Prop:=∃ fs es,fl'=fl++fs∧Gfl H D nm st st' fl fs es
theorem Grows.refl {st:NmSt} {fl:List Bool} (h:st.k=fl.length):Grows H D nm st st fl fl:=⟨[],[],by simp,h,by simp,by simp,by simp,by simp,by simp⟩
theorem Grows.k {st st':NmSt} {fl fl':List Bool} (h:Grows H D nm st st' fl fl'):st.k=fl.length∧st'.k=fl'.length∧st.k≤st'.k:=by
 obtain⟨fs,es,rfl,h⟩:=h
 have h1:=h.old
 have h2:=h.num
 rw[List.length_append]
 omega
theorem Grows.trans {a b c:NmSt} {f g k:List Bool} (h:Grows H D nm a b f g) (h2:Grows H D nm b c g k):Grows H D nm a c f k:=by
 obtain⟨fs,es,rfl,h⟩:=h
 obtain⟨fs2,es2,rfl,h2⟩:=h2
 have hn:=h.num
 have hl:=h.len
 refine⟨fs++fs2,es++es2,by rw[List.append_assoc],h.old,by rw[h2.eqs,h.eqs,List.append_assoc],by rw[h2.num,h.num,List.length_append];omega,by rw[List.length_append,List.length_append,h.len,h2.len],fun i q hq=>?_,fun i q d hq hd s hs=>?_⟩
 ·
  by_cases hi:i<es.length
  ·
   rw[List.getElem?_append_left hi] at hq
   exact h.names i q hq
  ·
   rw[List.getElem?_append_right (by omega)] at hq
   have:=h2.names _ q hq
   rw[this]
   congr 2
   omega
 ·
  by_cases hi:i<es.length
  ·
   rw[List.getElem?_append_left hi] at hq
   rw[List.getElem?_append_left (by omega)] at hd
   have:=(h.reads i q d hq hd s hs).mono H D nm (fs:=fs2) (Nat.le_refl _)
   rwa[List.append_assoc] at this
  ·
   rw[List.getElem?_append_right (by omega)] at hq
   rw[List.getElem?_append_right (by omega)] at hd
   have:=h2.reads (i-es.length) q d hq (by rw[hl];exact hd) s hs
   rw[List.append_assoc] at this
   have e:b.k+(i-es.length)=a.k+i:=by omega
   rw[e] at this
   exact this
def goodR (fl:List Bool) (m:Nat) (d:Bool) (q:DPlain):Prop:=(q.Kind=5∨∀ a∈q.Args,okRA H D nm fl m d a)∧okRA H D nm fl m d q.Every
def okRO (fl:List Bool) (m:Nat) (d:Bool) (on:List DCond):Prop:=∀ c∈on,if d=true then D c.Var else H c.Var
theorem reads_good {fl:List Bool} {m:Nat} {d:Bool} {q:DPlain} {ns:List ByteArray} {on:List DCond} (h:goodR H D nm fl m d q) (ho:okRO H D fl m d on):∀ s∈readsP { q with Names:=ns,On:=on },okR H D nm fl m d s:=by
 intro s hs
 unfold readsP rawP at hs
 rw[List.mem_filter] at hs
 obtain⟨hs,hne⟩:=hs
 have hne:¬ s=⟨#[]⟩:=by simpa using hne
 rcases List.mem_append.1 hs with hs|hs
 ·
  unfold argsP at hs
  split at hs
  ·
   cases hs
  ·
   rename_i h5
   obtain⟨a,ha,rfl⟩:=List.mem_map.1 hs
   rcases h.1 with h1|h1
   ·
    exact absurd h1 h5
   ·
    exact(h1 a ha).resolve_left hne
 ·
  rcases List.mem_append.1 hs with hs|hs
  ·
   split at hs
   ·
    rw[List.mem_singleton.1 hs] at hne ⊢
    exact h.2.resolve_left hne
   ·
    cases hs
  ·
   obtain⟨c,hc,rfl⟩:=List.mem_map.1 hs
   have:=ho c hc
   unfold okR
   split
   ·
    rename_i hd;rw[if_pos hd] at this;exact .inl this
   ·
    rename_i hd;rw[if_neg hd] at this;exact .inl this
theorem Grows.fresh {q:DPlain} {t:DTy} {on:List DCond} {st:NmSt} {fl:List Bool} {d:Bool} (hk:st.k=fl.length) (hq:goodR H D nm fl st.k d q) (ho:okRO H D fl st.k d on) :
  Grows H D nm st (freshN nm q t on st).2 fl (fl++[d])∧okRA H D nm (fl++[d]) (freshN nm q t on st).2.k d (freshN nm q t on st).1:=by
 refine⟨⟨[d],[{ q with Names:=[nm (st.k+1)],On:=on }],rfl,hk,rfl,rfl,rfl,fun i x hx=>?_,fun i x e hx he s hs=>?_⟩,.inr ?_⟩
 ·
  have:i=0:=by
   have:=(List.getElem?_eq_some_iff.1 hx).1
   simpa using this
  subst this
  simp at hx
  rw[← hx]
 ·
  have:i=0:=by
   have:=(List.getElem?_eq_some_iff.1 hx).1
   simpa using this
  subst this
  simp at hx he
  subst he
  rw[← hx] at hs
  exact(reads_good H D nm hq ho s hs).mono H D nm (by omega)
 ·
  unfold okR
  cases d with
  | true=>exact .inr ⟨st.k,by show st.k<st.k+1;omega,rfl⟩
  | false=>exact .inr ⟨st.k,by show st.k<st.k+1;omega,rfl,by rw[hk];simp⟩
def OkH (d:Bool) (e:Ex):Prop:=OkE D e∧(d=false→∀ s∈readsF e,H s)
def GoodF (e:Ex):Prop:=∀(d:Bool) on st fl,OkH H D d e→okRO H D fl st.k d on→st.k=fl.length→∃ fl',Grows H D nm st (plainN nm ty cn va fi e on st).2 fl fl'∧goodR H D nm fl' (plainN nm ty cn va fi e on st).2.k d (plainN nm ty cn va fi e on st).1
theorem leaf_okR {e:Ex} {d:Bool} (he:OkH H D d e) (fl:List Bool) (m:Nat):okRA H D nm fl m d (leafA va e):=by
 unfold leafA
 split
 ·
  rename_i h
  refine .inr ?_
  unfold okR
  split
  ·
   exact .inl (he.1 e (self_parts e) (.inl h))
  ·
   rename_i hd
   refine .inl (he.2 (by simpa using hd) _ ?_)
   rw[readsF_eq]
   refine List.mem_append_left _ ?_
   unfold mineK
   rw[if_pos (.inl h)]
   exact List.mem_singleton.2 rfl
 ·
  split
  ·
   exact .inl rfl
  ·
   exact .inl rfl
theorem atom_goodR {x:Ex} {d:Bool} (he:OkH H D d x) (h:GoodF H D nm ty cn va fi x) {on:List DCond} {st:NmSt} {fl:List Bool} (ho:okRO H D fl st.k d on) (hk:st.k=fl.length) :
  ∃ fl',Grows H D nm st (atomN nm ty cn va fi x on st).2 fl fl'∧okRA H D nm fl' (atomN nm ty cn va fi x on st).2.k d (atomN nm ty cn va fi x on st).1:=by
 unfold atomN
 split
 ·
  exact⟨fl,Grows.refl H D nm hk,leaf_okR H D nm va he _ _⟩
 ·
  obtain⟨fl',h1,h2⟩:=h d on st fl he ho hk
  obtain⟨h3,h4⟩:=Grows.fresh H D nm (t:=ty x) (on:=on) (h1.k H D nm).2.1 h2 ho
  exact⟨_,h1.trans H D nm h3,h4⟩
theorem Grows.app {st st':NmSt} {fl fl':List Bool} (h:Grows H D nm st st' fl fl'):∃ fs,fl'=fl++fs:=by obtain⟨fs,_,e,_⟩:=h;exact⟨fs,e⟩
theorem each_goodR {l:List Ex} {d:Bool} (he:∀ x∈l,OkH H D d x) (h:∀ x∈l,GoodF H D nm ty cn va fi x) {on:List DCond}:∀(st:NmSt) (fl:List Bool),okRO H D fl st.k d on→st.k=fl.length →
  ∃ fl',Grows H D nm st (eachN nm ty cn va fi l on st).2 fl fl'∧∀ a∈(eachN nm ty cn va fi l on st).1,okRA H D nm fl' (eachN nm ty cn va fi l on st).2.k d a:=by
 induction l with
 | nil=>intro st fl ho hk;rw[eachN_nil];exact⟨fl,Grows.refl H D nm hk,by simp⟩
 | cons x l ih =>
  intro st fl ho hk
  rw[eachN_cons]
  obtain⟨f1,h1,h2⟩:=atom_goodR H D nm ty cn va fi (he x List.mem_cons_self) (h x List.mem_cons_self) ho hk
  obtain⟨f2,h3,h4⟩:=ih (fun y hy=>he y (List.mem_cons_of_mem _ hy)) (fun y hy=>h y (List.mem_cons_of_mem _ hy)) (atomN nm ty cn va fi x on st).2 f1 ho (h1.k H D nm).2.1
  refine⟨f2,h1.trans H D nm h3,fun a ha=>?_⟩
  rcases List.mem_cons.1 ha with rfl|ha
  ·
   obtain⟨fs,rfl⟩:=h3.app H D nm
   exact h2.mono H D nm (h3.k H D nm).2.2
  ·
   exact h4 a ha
theorem merge_goodR {l:List Ex} {d:Bool} (he:∀ x∈l,OkH H D d x) (h:∀ x∈l,GoodF H D nm ty cn va fi x) {m:ByteArray} (hm:if d=true then D m else H m):∀(arms:List ByteArray) {on:List DCond} (st:NmSt) (fl:List Bool),okRO H D fl st.k d on→st.k=fl.length →
  ∃ fl',Grows H D nm st (mergeN nm ty cn va fi m arms l on st).2 fl fl'∧∀ a∈(mergeN nm ty cn va fi m arms l on st).1,okRA H D nm fl' (mergeN nm ty cn va fi m arms l on st).2.k d a:=by
 induction l with
 | nil=>intro arms on st fl ho hk;rw[mergeN];exact⟨fl,Grows.refl H D nm hk,by simp⟩
 | cons x l ih =>
  intro arms on st fl ho hk
  cases arms with
  | nil=>rw[mergeN];exact⟨fl,Grows.refl H D nm hk,by simp⟩
  | cons c cs =>
   rw[mergeN_cons]
   have ho2:okRO H D fl st.k d (on++[⟨m,va c⟩]):=fun c hc=>by
    rcases List.mem_append.1 hc with hc|hc
    ·
     exact ho c hc
    ·
     rw[List.mem_singleton.1 hc];exact hm
   obtain⟨f1,h1,h2⟩:=atom_goodR H D nm ty cn va fi (he x List.mem_cons_self) (h x List.mem_cons_self) ho2 hk
   obtain⟨f2,h3,h4⟩:=ih (fun y hy=>he y (List.mem_cons_of_mem _ hy)) (fun y hy=>h y (List.mem_cons_of_mem _ hy)) cs (atomN nm ty cn va fi x (on++[⟨m,va c⟩]) st).2 f1 (on:=on) ho (h1.k H D nm).2.1
   refine⟨f2,h1.trans H D nm h3,fun a ha=>?_⟩
   rcases List.mem_cons.1 ha with rfl|ha
   ·
    obtain⟨fs,rfl⟩:=h3.app H D nm
    exact h2.mono H D nm (h3.k H D nm).2.2
   ·
    exact h4 a ha
theorem head_goodR {e:Ex} {d:Bool} (he:OkH H D d e) {ats:List DAtom} {frst:DAtom} {fl:List Bool} {k:Nat} (h1:e.kind=8∨e.kind=10∨∀ a∈ats,okRA H D nm fl k d a) (h2:okRA H D nm fl k d frst) (hm:e.kind=12→if d=true then D e.name else H e.name):goodR H D nm fl k d (headN ty cn va fi e ats frst):=by
 have hn:okRA H D nm fl k d noAtom:=.inl rfl
 by_cases h8:e.kind=8
 ·
  unfold headN
  rw[if_neg (by omega),if_neg (by omega),if_neg (by omega),if_neg (by omega),if_neg (by omega),if_neg (by omega),if_pos h8]
  exact⟨.inl rfl,hn⟩
 by_cases h10:e.kind=10
 ·
  unfold headN
  rw[if_neg (by omega),if_neg (by omega),if_neg (by omega),if_neg (by omega),if_neg (by omega),if_neg (by omega),if_neg h8,if_pos h10]
  exact⟨.inl rfl,hn⟩
 have h1:∀ a∈ats,okRA H D nm fl k d a:=by
  rcases h1 with h|h|h
  ·
   exact absurd h h8
  ·
   exact absurd h h10
  ·
   exact h
 have key:∀(c:Prop) [Decidable c] (x y:DPlain),goodR H D nm fl k d x→(¬ c→goodR H D nm fl k d y)→goodR H D nm fl k d (if c then x else y):=by
  intro c _ x y a b
  split
  ·
   exact a
  ·
   exact b ‹_›
 have pl:∀(kd op:Int) (l:List DAtom),(∀ a∈l,okRA H D nm fl k d a)→goodR H D nm fl k d (plain0 kd op l):=fun kd op l hl=>⟨.inr hl,hn⟩
 unfold headN
 refine key _ _ _ (pl _ _ _ h1) fun _=>?_
 refine key _ _ _ (pl _ _ _ h1) fun _=>?_
 refine key _ _ _ (pl _ _ _ h1) fun _=>?_
 refine key _ _ _ (pl _ _ _ h1) fun _=>?_
 refine key _ _ _ (pl _ _ _ h1) fun _=>?_
 refine key _ _ _ (pl _ _ _ h1) fun _=>?_
 refine key _ _ _ ⟨.inr h1,hn⟩ fun _=>?_
 refine key _ _ _ ⟨.inr h1,hn⟩ fun _=>?_
 refine key _ _ _ (pl _ _ _ (fun a ha=>by
  rcases List.mem_cons.1 ha with rfl|ha
  ·
   exact h2
  ·
   exact h1 a ha)) fun _=>?_
 refine key _ _ _ (pl _ _ _ h1) fun _=>?_
 split
 ·
  rename_i h12
  exact pl _ _ _ (fun a ha=>by
   rcases List.mem_cons.1 ha with rfl|ha
   ·
    refine .inr ?_
    have:=hm h12
    unfold okR
    split
    ·
     rename_i hd;rw[if_pos hd] at this;exact .inl this
    ·
     rename_i hd;rw[if_neg hd] at this;exact .inl this
   ·
    exact h1 a ha)
 ·
  split
  ·
   split
   ·
    refine⟨.inr fun a ha=>h1 a (List.mem_of_mem_take ha),?_⟩
    show okRA H D nm fl k d (ats.getLastD noAtom)
    cases hx:ats.getLast? with
    | none=>rw[List.getLastD_eq_getLast?,hx];exact hn
    | some a=>rw[List.getLastD_eq_getLast?,hx];exact h1 a (List.mem_of_getLast? hx)
   ·
    exact⟨.inr h1,hn⟩
  ·
   exact pl _ _ _ (fun a ha=>by rw[List.mem_singleton.1 ha];exact leaf_okR H D nm va he _ _)
theorem readsL_mem {l:List Ex} {x:Ex} (hx:x∈l) {s:ByteArray} (hs:s∈readsF x):s∈readsL l:=by
 induction l with
 | nil=>cases hx
 | cons y l ih =>
  rw[readsL]
  rcases List.mem_cons.1 hx with rfl|hx
  ·
   exact List.mem_append_left _ hs
  ·
   exact List.mem_append_right _ (ih hx)
theorem plain_goodR (hHD:∀ s,H s→D s) (e:Ex):GoodF H D nm ty cn va fi e:=by
 induction e using Ex.ind with
 | _ e ih =>
 intro d on st fl he ho hk
 have hes:∀ x∈e.subs,OkE D x:=fun x hx y hy=>he.1 y (sub_parts hx hy)
 have hf:∃ f1,Grows H D nm st (frstN nm e on st).2 fl f1∧okRA H D nm f1 (frstN nm e on st).2.k d (frstN nm e on st).1:=by
  unfold frstN
  split
  ·
   obtain⟨a,b⟩:=Grows.fresh H D nm (q:={ plain0 5 0 [noAtom] with Init:=[1] }) (t:=tyB) (on:=on) (d:=d) hk ⟨.inl rfl,.inl rfl⟩ ho
   exact⟨_,a,b⟩
  ·
   exact⟨fl,Grows.refl H D nm hk,.inl rfl⟩
 rw[plainN_eq]
 generalize frstN nm e on st=fr at hf
 obtain⟨f1,hf1,hf2⟩:=hf
 have hk1:=(hf1.k H D nm).2.1
 have hmine:e.kind=12→if d=true then D e.name else H e.name:=fun h12=>by
  split
  ·
   exact he.1 e (self_parts e) (.inr h12)
  ·
   rename_i hd
   refine he.2 (by simpa using hd) _ ?_
   rw[readsF_eq]
   refine List.mem_append_left _ ?_
   unfold mineK
   rw[if_pos (.inr (.inr h12))]
   exact List.mem_singleton.2 rfl
 have hweak:okRO H D f1 fr.2.k true on:=fun c hc=>by
  have:=ho c hc
  rw[if_pos rfl]
  split at this
  ·
   exact this
  ·
   exact hHD _ this
 by_cases h8:e.kind=8
 ·
  have ha:=each_goodR H D nm ty cn va fi (l:=e.subs.drop 1) (d:=true) (fun x hx=>⟨hes x (List.mem_of_mem_drop hx),by simp⟩) (fun x hx=>ih x (List.mem_of_mem_drop hx)) (on:=on) fr.2 f1 hweak hk1
  unfold argsN
  rw[if_neg (by omega),if_pos h8]
  obtain⟨f2,g1,g2⟩:=ha
  refine⟨f2,hf1.trans H D nm g1,head_goodR H D nm ty cn va fi he (.inl h8) ?_ hmine⟩
  obtain⟨fs,rfl⟩:=g1.app H D nm
  exact hf2.mono H D nm (g1.k H D nm).2.2
 by_cases h10:e.kind=10
 ·
  have ha:=each_goodR H D nm ty cn va fi (l:=e.subs) (d:=true) (fun x hx=>⟨hes x hx,by simp⟩) (fun x hx=>ih x hx) (on:=onN e on) fr.2 f1 (by unfold onN;rw[if_neg (by omega)];exact hweak) hk1
  unfold argsN
  rw[if_neg (by omega),if_neg h8]
  obtain⟨f2,g1,g2⟩:=ha
  refine⟨f2,hf1.trans H D nm g1,head_goodR H D nm ty cn va fi he (.inr (.inl h10)) ?_ hmine⟩
  obtain⟨fs,rfl⟩:=g1.app H D nm
  exact hf2.mono H D nm (g1.k H D nm).2.2
 have hkeep:keepK e.kind e.subs=e.subs:=by unfold keepK;rw[if_neg h10,if_neg h8]
 have heH:∀ x∈e.subs,OkH H D d x:=fun x hx=>⟨hes x hx,fun hd s hs=>he.2 hd s (by
  rw[readsF_eq,hkeep]
  exact List.mem_append_right _ (readsL_mem hx hs))⟩
 have ha:∃ f2,Grows H D nm fr.2 (argsN nm ty cn va fi e on fr.2).2 f1 f2∧∀ a∈(argsN nm ty cn va fi e on fr.2).1,okRA H D nm f2 (argsN nm ty cn va fi e on fr.2).2.k d a:=by
  unfold argsN
  split
  ·
   rename_i h12
   exact merge_goodR H D nm ty cn va fi heH (fun x hx=>ih x hx) (hmine h12) _ _ _ ho hk1
  ·
   refine each_goodR H D nm ty cn va fi heH (fun x hx=>ih x hx) _ _ ?_ hk1
   unfold onN
   split
   ·
    exact fun c hc=>ho c (List.dropLast_subset _ hc)
   ·
    exact ho
 obtain⟨f2,g1,g2⟩:=ha
 refine⟨f2,hf1.trans H D nm g1,head_goodR H D nm ty cn va fi he (.inr (.inr g2)) ?_ hmine⟩
 obtain⟨fs,rfl⟩:=g1.app H D nm
 exact hf2.mono H D nm (g1.k H D nm).2.2
end
end
theorem flat_idx {α:Type} {f:α→List ByteArray} {l:List α} (h:(l.flatMap f).Nodup) {a b:Nat} {x y:α} {s:ByteArray} (ha:l[a]?=some x) (hb:l[b]?=some y) (hx:s∈f x) (hy:s∈f y):a=b:=by
 have key:∀ {a b:Nat} {x y:α},l[a]?=some x→l[b]?=some y→s∈f x→s∈f y→¬ a<b:=by
  intro a b x y ha hb hx hy hlt
  have e:l.flatMap f=(l.take b).flatMap f++(l.drop b).flatMap f:=by rw[← List.flatMap_append,List.take_append_drop]
  rw[e,List.nodup_append] at h
  have h1:x∈l.take b:=by
   refine List.mem_of_getElem? (i:=a) ?_
   rw[List.getElem?_take,if_pos hlt]
   exact ha
  have h2:y∈l.drop b:=by
   refine List.mem_of_getElem? (i:=0) ?_
   rw[List.getElem?_drop]
   exact hb
  exact h.2.2 s (List.mem_flatMap.2 ⟨x,h1,hx⟩) s (List.mem_flatMap.2 ⟨y,h2,hy⟩) rfl
 have h1:=key ha hb hx hy
 have h2:=key hb ha hy hx
 omega
def tagE (i:Nat):Nat→List DPlain→List (DPlain × (Nat × Option Nat))
 | _,[]=>[]
 | j,q::l=>(q,(i,some j))::tagE i (j+1) l
theorem tagE_fst (i:Nat):∀(j:Nat) (l:List DPlain),(tagE i j l).map Prod.fst=l
 | _,[]=>rfl
 | j,q::l=>by rw[tagE,List.map_cons,tagE_fst i (j+1) l]
theorem tagE_mem {i:Nat}:∀ {j:Nat} {l:List DPlain} {x:DPlain × (Nat × Option Nat)},x∈tagE i j l→∃ t:Nat,l[t]?=some x.1∧x.2=(i,some (j+t))
 | _,[],_,h=>by simp[tagE] at h
 | j,q::l,x,h=>by
  rw[tagE] at h
  rcases List.mem_cons.1 h with rfl|h
  ·
   exact⟨0,rfl,rfl⟩
  ·
   obtain⟨t,h1,h2⟩:=tagE_mem h
   exact⟨t+1,by simpa using h1,by rw[h2,show j+1+t=j+(t+1) by omega]⟩
def hngN (n:DNode) (q:DEq) (s:ByteArray):Prop:=s∈hangsF n q∧isF n s=true
def TagOk (n:DNode) (FL:Nat→List Bool) (x:DPlain × (Nat × Option Nat)):Prop :=
 ∃ qa,n.Eqs[x.2.1]?=some qa∧match x.2.2 with
  | none=>x.1.Names=qa.Names∧∀ s∈readsP x.1,okR (hngN n qa) (fun s=>isF n s=true) (nmN (hdN qa)) (FL x.2.1) (FL x.2.1).length false s
  | some j=>x.1.Names=[nmN (hdN qa) (j+1)]∧∃ d,(FL x.2.1)[j]?=some d∧∀ s∈readsP x.1,okR (hngN n qa) (fun s=>isF n s=true) (nmN (hdN qa)) (FL x.2.1) j d s
theorem TagOk.own {n:DNode} {FL:Nat→List Bool} {q:DPlain} {a:Nat} (h:TagOk n FL (q,(a,none))):∃ qa,n.Eqs[a]?=some qa∧q.Names=qa.Names∧∀ s∈readsP q,okR (hngN n qa) (fun s=>isF n s=true) (nmN (hdN qa)) (FL a) (FL a).length false s:=h
theorem TagOk.frs {n:DNode} {FL:Nat→List Bool} {q:DPlain} {a j:Nat} (h:TagOk n FL (q,(a,some j))):∃ qa,n.Eqs[a]?=some qa∧q.Names=[nmN (hdN qa) (j+1)]∧∃ d,(FL a)[j]?=some d∧∀ s∈readsP q,okR (hngN n qa) (fun s=>isF n s=true) (nmN (hdN qa)) (FL a) j d s:=h
theorem TagOk.congr {n:DNode} {FL FL':Nat→List Bool} {x:DPlain × (Nat × Option Nat)} (h:TagOk n FL x) (e:FL' x.2.1=FL x.2.1):TagOk n FL' x:=by
 unfold TagOk at h ⊢
 rw[e]
 exact h
def InvT (p:DProg) (k:Int) (n:DNode) (v0:List DVar) (i:Nat):Prop:=∃(FL:Nat→List Bool) (M:Nat) (T:List (DPlain × (Nat × Option Nat))),(∀ a,(FL a).length<M)∧T.map Prod.fst=(eqsNm p k (v0,[]) (n.Eqs.take i)).2∧∀ x∈T,x.2.1<i∧TagOk n FL x
theorem invT_all {p:DProg} {k:Int} {n:DNode} {v0:List DVar} (h:∀ q∈n.Eqs,OkE (fun s=>isF n s=true) q.E∧(∀ s∈readsF q.E,hngN n q s)∧∀ c∈rowOn p k (hdN q),hngN n q c.Var):∀ i,i≤n.Eqs.length→InvT p k n v0 i
 | 0,_=>⟨fun _=>[],1,[],by simp,by simp[eqsNm],by simp⟩
 | i+1,hi=>by
  obtain⟨FL,M,T,h1,h2,h3⟩:=invT_all h i (by omega)
  obtain⟨x,hx⟩:∃ x,n.Eqs[i]?=some x:=⟨_,List.getElem?_eq_getElem (by omega)⟩
  obtain⟨g1,g2,g3⟩:=h x (List.mem_of_getElem? hx)
  unfold InvT
  rw[eqsNm_next p k hx]
  generalize eqsNm p k (v0,[]) (n.Eqs.take i)=st at h2
  have hok:okRO (hngN n x) (fun s=>isF n s=true) [] 0 false (rowOn p k (hdN x)):=fun c hc=>by
   rw[if_neg (by simp)]
   exact g3 c hc
  obtain⟨fl,hg,hq⟩:=plain_goodR (hngN n x) (fun s=>isF n s=true) (nmN (hdN x)) (tyN p k) (cnN p) (vaN p) (fiN p) (fun s hs=>hs.2) x.E false (rowOn p k (hdN x)) ⟨st.1,st.2,0⟩ [] ⟨g1,fun _=>g2⟩ hok rfl
  have e2:(eqNm p k st x).2=(eqPl p k st x).2.eqs++[{ (eqPl p k st x).1 with Names:=x.Names,On:=rowOn p k (hdN x) }]:=rfl
  have e3:plainN (nmN (hdN x)) (tyN p k) (cnN p) (vaN p) (fiN p) x.E (rowOn p k (hdN x)) ⟨st.1,st.2,0⟩=eqPl p k st x:=rfl
  rw[e3] at hg hq
  generalize eqPl p k st x=r at e2 hg hq
  have hrk:=(hg.k _ _ _).2.1
  obtain⟨fs,es,rfl,hg⟩:=hg
  have he:r.2.eqs=st.2++es:=hg.eqs
  have hlen:=hg.len
  have hFi:(fun a=>if a=i then fl else FL a) i=fl:=if_pos rfl
  refine⟨fun a=>if a=i then fl else FL a,M+fl.length+1,T++(tagE i 0 es++[({ r.1 with Names:=x.Names,On:=rowOn p k (hdN x) },(i,none))]),fun a=>?_,?_,fun y hy=>?_⟩
  ·
   dsimp only
   have:=h1 a
   split<;>omega
  ·
   rw[List.map_append,List.map_append,tagE_fst,h2,e2,he,List.append_assoc]
   rfl
  ·
   rcases List.mem_append.1 hy with hy|hy
   ·
    obtain⟨y1,y2⟩:=h3 y hy
    exact⟨by omega,y2.congr (if_neg (by omega))⟩
   ·
    rcases List.mem_append.1 hy with hy|hy
    ·
     obtain⟨t,t1,t2⟩:=tagE_mem hy
     obtain⟨q,tg⟩:=y
     dsimp only at t1 t2
     subst t2
     refine⟨by dsimp only;omega,x,hx,?_⟩
     have hn:=hg.names t q t1
     have htl:=(List.getElem?_eq_some_iff.1 t1).1
     obtain⟨d,hd⟩:∃ d,fl[t]?=some d:=⟨_,List.getElem?_eq_getElem (by omega)⟩
     have hr:=hg.reads t q d t1 hd
     rw[List.nil_append] at hr
     dsimp only at hn hr ⊢
     rw[if_pos rfl]
     simp only[Nat.zero_add] at hn hr ⊢
     exact⟨hn,d,hd,hr⟩
    ·
     rw[List.mem_singleton.1 hy]
     refine⟨by dsimp only;omega,x,hx,?_⟩
     dsimp only
     rw[if_pos rfl]
     refine⟨rfl,?_⟩
     rw[← hrk]
     exact reads_good (hngN n x) (fun s=>isF n s=true) (nmN (hdN x)) hq fun c hc=>by
      rw[if_neg (by simp)]
      exact g3 c hc
def rnkT (pos:Nat→Nat) (L M:Nat) (FL:Nat→List Bool) (t:Nat × Option Nat):Nat:=match t.2 with
 | none=>pos t.1 * M+(M-1)
 | some j=>if(FL t.1)[j]?=some false then pos t.1 * M+j else(L+t.1) * M+j
theorem mul_lt {a b M:Nat} (h:a<b):a * M+M≤b * M:=by
 have:=Nat.mul_le_mul_right M (show a+1≤b from h)
 rw[Nat.add_mul,Nat.one_mul] at this
 exact this
theorem tags_pairs {n:DNode} {FL:Nat→List Bool} {M L:Nat} {pos:Nat→Nat} (hM:∀ a,(FL a).length<M) (hL:∀(a:Nat) q,n.Eqs[a]?=some q→pos a<L)
  (hp:∀(a:Nat) q,n.Eqs[a]?=some q→∀ s∈hangsF n q,∀(b:Nat) q',n.Eqs[b]?=some q'→s∈q'.Names→pos b<pos a)
  (hnd:(n.Eqs.flatMap DEq.Names).Nodup) (hdot:∀ s,isF n s=true→(46:UInt8) ∉ bts s) (hnm:∀ q∈n.Eqs,q.Names≠[]∧∀ s∈q.Names,isF n s=true)
  {x y:DPlain × (Nat × Option Nat)} (hx:TagOk n FL x) (hy:TagOk n FL y) {s:ByteArray} (hs:s∈readsP x.1) (hn:s∈y.1.Names):rnkT pos L M FL y.2<rnkT pos L M FL x.2:=by
 obtain⟨qx,a,o⟩:=x
 obtain⟨qy,b,o'⟩:=y
 have hhd:∀ q∈n.Eqs,hdN q∈q.Names:=fun q hq=>by
  have:=(hnm q hq).1
  unfold hdN
  match q.Names,this with
  | s::r,_=>simp
 have same:∀(qa qb:DEq),n.Eqs[a]?=some qa→n.Eqs[b]?=some qb→∀ i j,nmN (hdN qa) i=nmN (hdN qb) j→a=b∧i=j:=fun qa qb ha hb i j e=>by
  have m1:=List.mem_of_getElem? ha
  have m2:=List.mem_of_getElem? hb
  obtain⟨e1,e2⟩:=nm_inj (hdot _ ((hnm qa m1).2 _ (hhd qa m1))) (hdot _ ((hnm qb m2).2 _ (hhd qb m2))) e
  exact⟨flat_idx hnd ha hb (hhd qa m1) (by rw[e1];exact hhd qb m2),e2⟩
 dsimp only at hs hn ⊢
 have hMa:=hM a
 cases o with
 | none =>
  obtain⟨qa,ha,_,hr⟩:=hx.own
  have hr:=hr s hs
  unfold okR at hr
  rw[if_neg (by simp)] at hr
  cases o' with
  | none =>
   obtain⟨qb,hb,hnb,_⟩:=hy.own
   rw[hnb] at hn
   rcases hr with hr|⟨j,_,hr,_⟩
   ·
    have:=mul_lt (M:=M) (hp a qa ha s hr.1 b qb hb hn)
    simp only[rnkT]
    omega
   ·
    exact absurd (by rw[hr];exact nm_dot _ _) (hdot s ((hnm qb (List.mem_of_getElem? hb)).2 s hn))
  | some j' =>
   obtain⟨qb,hb,hnb,_⟩:=hy.frs
   rw[hnb] at hn
   have hn:=List.mem_singleton.1 hn
   rcases hr with hr|⟨j,hj,hr,hf⟩
   ·
    exact absurd (by rw[hn];exact nm_dot _ _) (hdot s hr.2)
   ·
    obtain⟨rfl,e⟩:=same qa qb ha hb _ _ (hr.symm.trans hn)
    obtain rfl:j=j':=by omega
    simp only[rnkT]
    rw[if_pos hf]
    omega
 | some jx =>
  obtain⟨qa,ha,_,d,hd,hr⟩:=hx.frs
  have hr:=hr s hs
  have hLa:=mul_lt (M:=M) (hL a qa ha)
  have hle:L * M≤(L+a) * M:=Nat.mul_le_mul_right M (Nat.le_add_right L a)
  have hjx:jx<(FL a).length:=(List.getElem?_eq_some_iff.1 hd).1
  unfold okR at hr
  cases d with
  | false =>
   rw[if_neg (by simp)] at hr
   cases o' with
   | none =>
    obtain⟨qb,hb,hnb,_⟩:=hy.own
    rw[hnb] at hn
    rcases hr with hr|⟨j,_,hr,_⟩
    ·
     have:=mul_lt (M:=M) (hp a qa ha s hr.1 b qb hb hn)
     simp only[rnkT]
     rw[if_pos hd]
     omega
    ·
     exact absurd (by rw[hr];exact nm_dot _ _) (hdot s ((hnm qb (List.mem_of_getElem? hb)).2 s hn))
   | some j' =>
    obtain⟨qb,hb,hnb,_⟩:=hy.frs
    rw[hnb] at hn
    have hn:=List.mem_singleton.1 hn
    rcases hr with hr|⟨j,hj,hr,hf⟩
    ·
     exact absurd (by rw[hn];exact nm_dot _ _) (hdot s hr.2)
    ·
     obtain⟨rfl,e⟩:=same qa qb ha hb _ _ (hr.symm.trans hn)
     obtain rfl:j=j':=by omega
     simp only[rnkT]
     rw[if_pos hf,if_pos hd]
     omega
  | true =>
   rw[if_pos rfl] at hr
   have hnf:¬ (FL a)[jx]?=some false:=by rw[hd];simp
   cases o' with
   | none =>
    obtain⟨qb,hb,hnb,_⟩:=hy.own
    rw[hnb] at hn
    have hLb:=mul_lt (M:=M) (hL b qb hb)
    rcases hr with hr|⟨j,_,hr⟩
    ·
     simp only[rnkT]
     rw[if_neg hnf]
     omega
    ·
     exact absurd (by rw[hr];exact nm_dot _ _) (hdot s ((hnm qb (List.mem_of_getElem? hb)).2 s hn))
   | some j' =>
    obtain⟨qb,hb,hnb,_⟩:=hy.frs
    rw[hnb] at hn
    have hn:=List.mem_singleton.1 hn
    rcases hr with hr|⟨j,hj,hr⟩
    ·
     exact absurd (by rw[hn];exact nm_dot _ _) (hdot s hr)
    ·
     obtain⟨rfl,e⟩:=same qa qb ha hb _ _ (hr.symm.trans hn)
     obtain rfl:j=j':=by omega
     simp only[rnkT]
     rw[if_neg hnf]
     split<;>omega
theorem cntO_zero:∀ {pl:List Bool} {j:Nat},cntO pl=0→j<pl.length→pl[j]?=some true
 | [],_,_,h=>by simp at h
 | false::_,_,h,_=>by simp[cntO] at h
 | true::pl,0,_,_=>rfl
 | true::pl,j+1,h,hl=>by
  have:=cntO_zero (pl:=pl) (j:=j) (by simpa[cntO] using h) (by simpa using hl)
  simpa using this
theorem order_all {N H:List (List ByteArray)}:∀(k:Nat) (pl:List Bool) (out:List Nat),pl.length=N.length→k=cntO pl→(∀ j:Nat,pl[j]?=some true→j∈out)→(orderG N H k pl out).2=true→∀ j,j<N.length→j∈(orderG N H k pl out).1
 | 0,pl,out,hl,hk,hpl,_,j,hj=>by
  rw[orderG]
  exact hpl j (cntO_zero hk.symm (by omega))
 | k+1,pl,out,hl,hk,hpl,hT,j,hj=>by
  rw[orderG] at hT ⊢
  cases hq:pickF N H pl 0 N.length with
  | none=>rw[hq] at hT;cases hT
  | some i =>
   rw[hq] at hT
   obtain⟨hi,hr⟩:=pick_lt hq
   have hc:=cntO_set (ready_pl hr)
   exact order_all k (pl.set i true) (out++[i]) (by rw[List.length_set];exact hl) (by omega) (fun j hj=>by
    by_cases e:j=i
    ·
     subst e;simp
    ·
     rw[List.getElem?_set_ne (fun h=>e h.symm)] at hj
     exact List.mem_append_left _ (hpl j hj)) hT j hj
def posN:List Nat→Nat→Nat
 | [],_=>0
 | x::l,a=>if x=a then 0 else posN l a+1
theorem posN_at:∀ {l:List Nat} {a:Nat},a∈l→l[posN l a]?=some a
 | [],_,h=>by cases h
 | x::l,a,h=>by
  unfold posN
  split
  ·
   rename_i e;subst e;rfl
  ·
   rename_i e
   rcases List.mem_cons.1 h with h|h
   ·
    exact absurd h.symm e
   ·
    simpa using posN_at h
theorem posN_take:∀ {l:List Nat} {a t:Nat},a∈l.take t→posN l a<t
 | [],_,_,h=>by simp at h
 | x::l,a,0,h=>by simp at h
 | x::l,a,t+1,h=>by
  rw[List.take_succ_cons] at h
  unfold posN
  split
  ·
   omega
  ·
   rename_i e
   rcases List.mem_cons.1 h with h|h
   ·
    exact absurd h.symm e
   ·
    have:=posN_take h
    omega
theorem cause_pos {p:DProg} (h:(causeF p).Err=0) {k:Nat} {n:DNode} (hk:p.Nodes[k]?=some n):∃(pos:Nat→Nat) (L:Nat),(∀(a:Nat) q,n.Eqs[a]?=some q→pos a<L) ∧
  ∀(a:Nat) q,n.Eqs[a]?=some q→∀ s∈hangsF n q,∀(b:Nat) q',n.Eqs[b]?=some q'→s∈q'.Names→pos b<pos a:=by
 obtain⟨lo,ho,hl,_⟩:=ahead_of h hk
 have hpl:∀ j:Nat,(List.replicate (namesC n).length false)[j]?=some true→j∈([]:List Nat):=fun j hj=>by
  obtain⟨h1,h2⟩:=List.getElem?_eq_some_iff.1 hj
  simp at h2
 have hor:orderG (namesC n) (hangsC n) (namesC n).length (List.replicate (namesC n).length false) []=orderF (namesC n) (hangsC n):=rfl
 have hA:=(order_ahead (N:=namesC n) (H:=hangsC n) (namesC n).length (List.replicate (namesC n).length false) [] (by simp) hpl (fun t i h=>by simp at h)).1
 have hI:=order_all (N:=namesC n) (H:=hangsC n) (namesC n).length (List.replicate (namesC n).length false) [] (by simp) (by rw[cntO_rep]) hpl
 rw[hor,ho] at hA hI
 have hI:=hI rfl
 dsimp only at hA hI
 rw[len_namesC] at hI
 have hin:∀(a:Nat) q,n.Eqs[a]?=some q→a∈lo:=fun a q ha=>hI a (List.getElem?_eq_some_iff.1 ha).1
 refine⟨posN lo,lo.length,fun a q ha=>(List.getElem?_eq_some_iff.1 (posN_at (hin a q ha))).1,fun a q ha s hs b q' hb hm=>?_⟩
 exact posN_take ((hA _ _ (posN_at (hin a q ha))).2 (hangsF n q) (map_some ha) s hs b q'.Names (map_some hb) hm)
theorem flow_hng {p:DProg} (h:(startF p).Err=0) {k:Nat} {n:DNode} (hn:p.Nodes[k]?=some n):∀ q∈n.Eqs,OkE (fun s=>isF n s=true) q.E∧(∀ s∈readsF q.E,hngN n q s)∧∀ c∈rowOn p (k:Int) (hdN q),hngN n q c.Var:=by
 have hfit:=node_fit h hn
 obtain⟨hck,hall⟩:=start_eqs h
 obtain⟨hr,hf,_⟩:=hall k n hn
 have his:=node_is hf
 intro q hq
 obtain⟨hne,_,h3,h4,_⟩:=hfit.eqs q hq
 refine⟨h3,fun s hs=>⟨?_,?_⟩,fun c hc=>⟨?_,h4 c hc⟩⟩
 ·
  unfold hangsF
  exact List.mem_append_left _ hs
 ·
  obtain⟨y,hy,hk3,rfl⟩:=reads_is q.E s hs
  have hl:=List.all_eq_true.1 (his q hq).2 y hy
  unfold leadsF at hl
  rw[if_pos hk3,Bool.and_eq_true] at hl
  exact hl.2
 ·
  unfold hangsF
  refine List.mem_append_right _ ?_
  rw[rowOn_at hn] at hc
  unfold hdN at hc
  match hnm:q.Names,hne with
  | s::r,_ =>
   rw[hnm] at hc
   simp only[List.headD_cons] at hc
   unfold rowN at hc
   split at hc
   ·
    unfold rowL at hc
    split at hc
    ·
     obtain⟨d,hd,rfl⟩:=List.mem_map.1 hc
     exact List.mem_map.2 ⟨d,hd,rfl⟩
    ·
     cases hc
   ·
    cases hc
theorem sched_ok {p:DProg} (h:(startF p).Err=0) {k:Nat} {n:DNode} (hn:p.Nodes[k]?=some n):(orderF (namesP (flowNm p (k:Int) n)) (hangsP (flowNm p (k:Int) n))).2=true:=by
 have hfit:=node_fit h hn
 have hcz:(causeF p).Err=0:=(start_zero h).2.1
 obtain⟨pos,L,hL,hp⟩:=cause_pos hcz hn
 obtain⟨FL,M,T,h1,h2,h3⟩:=invT_all (p:=p) (k:=(k:Int)) (n:=n) (v0:=n.Vars.map (varNm p (k:Int))) (flow_hng h hn) n.Eqs.length (Nat.le_refl _)
 rw[List.take_length] at h2
 refine order_pairs (es:=(flowNm p (k:Int) n).Eqs) (T.map fun x=>(x.1,rnkT pos L M FL x.2)) ?_ ?_
 ·
  rw[List.map_map]
  exact h2
 ·
  intro x hx y hy s hs hm
  obtain⟨x',hx',rfl⟩:=List.mem_map.1 hx
  obtain⟨y',hy',rfl⟩:=List.mem_map.1 hy
  exact tags_pairs h1 hL hp hfit.nodup (fun s hs=>by
   obtain⟨d,hd,rfl⟩:=is_mem hs
   exact hfit.dots d hd) (fun q hq=>⟨(hfit.eqs q hq).1,fun s hs=>((hfit.eqs q hq).2.1 s hs).1⟩) (h3 x' hx').2 (h3 y' hy').2 hs hm
theorem sched_there {p:DProg} (h:(startF p).Err=0) {k:Nat} {n:DNode} (hn:p.Nodes[k]?=some n):∀(t i:Nat) q,(orderF (namesP (flowNm p (k:Int) n)) (hangsP (flowNm p (k:Int) n))).1[t]?=some i→(flowNm p (k:Int) n).Eqs[i]?=some q →
  ∀ s∈readsP q,s∈(flowNm p (k:Int) n).Ins.map DVar.Name∨∃ j∈(orderF (namesP (flowNm p (k:Int) n)) (hangsP (flowNm p (k:Int) n))).1.take t,∃ q',(flowNm p (k:Int) n).Eqs[j]?=some q'∧s∈q'.Names:=by
 have hfit:=node_fit h hn
 intro t i q ht hq s hs
 have hni:=need_in hfit q (List.mem_of_getElem? hq) s (List.mem_append_left _ hs)
 have hco:=cnt_outs hfit
 generalize flowNm p (k:Int) n=f at *
 unfold allN at hni
 rw[List.map_append,List.mem_append] at hni
 rcases hni with hni|hni
 ·
  exact .inl hni
 right
 obtain⟨x,hx,rfl⟩:=List.mem_map.1 hni
 have hc:=congrArg Prod.fst (hco x hx)
 unfold cntN at hc
 dsimp only at hc
 obtain⟨y,hy⟩:∃ y,y∈(prsN f.Eqs).filter fun y=>decide (y.1=x.Name):=by
  exact List.exists_mem_of_length_pos (by omega)
 rw[List.mem_filter] at hy
 obtain⟨hy,he⟩:=hy
 have he:y.1=x.Name:=of_decide_eq_true he
 unfold prsN at hy
 obtain⟨q',hq',hm⟩:=List.mem_flatMap.1 hy
 obtain⟨s',hs',rfl⟩:=List.mem_map.1 hm
 dsimp only at he
 subst he
 obtain⟨j,hj,rfl⟩:=List.getElem_of_mem hq'
 have hj':f.Eqs[j]?=some f.Eqs[j]:=List.getElem?_eq_getElem hj
 have hA:=(order_ahead (N:=namesP f) (H:=hangsP f) (namesP f).length (List.replicate (namesP f).length false) [] (by simp) (fun j hj=>by
  obtain⟨h1,h2⟩:=List.getElem?_eq_some_iff.1 hj
  simp at h2) (fun t i h=>by simp at h)).1
 exact⟨j,(hA t i ht).2 (readsP q) (map_some hq) _ hs j _ (map_some hj') hs',_,hj',hs'⟩
def thereL (f:DFlow) (i:Nat):List ByteArray:=f.Ins.map DVar.Name++(f.Eqs.take i).flatMap DPlain.Names
theorem sched_all {p:DProg} (h:(startF p).Err=0) {k:Nat} {n:DNode} (hn:p.Nodes[k]?=some n):∀(i:Nat) q,(flowF (flowNm p (k:Int) n)).1.Eqs[i]?=some q→∀ s∈readsP q,s∈thereL (flowF (flowNm p (k:Int) n)).1 i:=by
 have ho:=sched_ok h hn
 have ht:=sched_there h hn
 generalize flowNm p (k:Int) n=g at ho ht ⊢
 have hlt:=order_lt g
 unfold flowF thereL
 rw[if_pos ho]
 dsimp only
 generalize (orderF (namesP g) (hangsP g)).1=O at ht hlt ⊢
 intro i q hq s hs
 rw[List.getElem?_map] at hq
 cases hO:O[i]? with
 | none=>rw[hO] at hq;cases hq
 | some j =>
  rw[hO] at hq
  have hj:=hlt j (List.mem_of_getElem? hO)
  have hgj:g.Eqs[j]?=some q:=by
   rw[← hq,List.getElem?_eq_getElem hj]
   simp[List.getD_eq_getElem?_getD,List.getElem?_eq_getElem hj]
  rcases ht i j q hO hgj s hs with h1|⟨j',hj',q',hq',hs'⟩
  ·
   exact List.mem_append_left _ h1
  ·
   refine List.mem_append_right _ (List.mem_flatMap.2 ⟨q',?_,hs'⟩)
   rw[← List.map_take]
   exact List.mem_map.2 ⟨j',hj',by rw[List.getD_eq_getElem?_getD,hq'];rfl⟩
theorem schedB_ok {p:DProg} (h:(startF p).Err=0):schedB (nodesNm p 0 p.Nodes)=true:=by
 refine List.all_eq_true.2 fun f hf=>?_
 obtain⟨k,hk,rfl⟩:=List.getElem_of_mem hf
 have h1:=nodesNm_at p (l:=p.Nodes) (i:=0) (j:=k)
 rw[List.getElem?_eq_getElem hk] at h1
 cases hn:p.Nodes[k]? with
 | none=>rw[hn] at h1;cases h1
 | some n =>
  rw[hn,Nat.zero_add] at h1
  have h2:(nodesNm p 0 p.Nodes)[k]=flowNm p (k:Int) n:=Option.some.inj h1
  rw[h2]
  unfold flowF
  rw[if_pos (sched_ok h hn)]
theorem schedF_ok {p:DProg} (h:(startF p).Err=0):schedF p=(⟨p.Enums,schedN (nodesNm p 0 p.Nodes)⟩,true):=by
 unfold schedF
 rw[norm_ok h]
 dsimp only
 rw[if_pos ⟨rfl,schedB_ok h⟩]
theorem schedF_no {p:DProg} (h:¬ (startF p).Err=0):schedF p=(⟨[],[]⟩,false):=by
 unfold schedF
 rw[norm_no h,if_neg (by simp)]
theorem schedF_there {p:DProg}:∀ f∈(schedF p).1.Flows,∀(i:Nat) q,f.Eqs[i]?=some q→∀ s∈readsP q,s∈thereL f i:=by
 by_cases h:(startF p).Err=0
 ·
  rw[schedF_ok h]
  dsimp only
  intro f hf
  obtain⟨g,hg,rfl⟩:=List.mem_map.1 hf
  obtain⟨k,hk,rfl⟩:=List.getElem_of_mem hg
  have h1:=nodesNm_at p (l:=p.Nodes) (i:=0) (j:=k)
  rw[List.getElem?_eq_getElem hk] at h1
  cases hn:p.Nodes[k]? with
  | none=>rw[hn] at h1;cases h1
  | some n =>
   rw[hn,Nat.zero_add] at h1
   have h2:(nodesNm p 0 p.Nodes)[k]=flowNm p (k:Int) n:=Option.some.inj h1
   rw[h2]
   exact sched_all h hn
 ·
  rw[schedF_no h]
  intro f hf
  cases hf
theorem schedF_sz {p:DProg} (hp:okProg p):∀ f∈(schedF p).1.Flows,f.Ins.length≤20∧f.Eqs.length≤2700∧∀ q∈f.Eqs,szQ q:=by
 by_cases h:(startF p).Err=0
 ·
  rw[schedF_ok h]
  dsimp only
  intro f hf
  obtain⟨g,hg,rfl⟩:=List.mem_map.1 hf
  obtain⟨k,hk,rfl⟩:=List.getElem_of_mem hg
  have h1:=nodesNm_at p (l:=p.Nodes) (i:=0) (j:=k)
  rw[List.getElem?_eq_getElem hk] at h1
  cases hn:p.Nodes[k]? with
  | none=>rw[hn] at h1;cases h1
  | some n =>
   rw[hn,Nat.zero_add] at h1
   have h2:(nodesNm p 0 p.Nodes)[k]=flowNm p (k:Int) n:=Option.some.inj h1
   rw[h2]
   obtain⟨z1,z2,z3,_,_⟩:=flow_sz h hp hn
   have ho:=sched_ok h hn
   have hlt:=order_lt (flowNm p (k:Int) n)
   have hle:=order_le (flowNm p (k:Int) n)
   generalize flowNm p (k:Int) n=g at z1 z2 z3 ho hlt hle ⊢
   unfold flowF
   rw[if_pos ho]
   dsimp only
   refine⟨z3,by rw[List.length_map];omega,fun q hq=>?_⟩
   obtain⟨j,hj,rfl⟩:=List.mem_map.1 hq
   have:=hlt j hj
   rw[List.getD_eq_getElem?_getD,List.getElem?_eq_getElem this,Option.getD_some]
   exact z1 _ (List.getElem_mem this)
 ·
  rw[schedF_no h]
  intro f hf
  cases hf
theorem reads_leA (q:DPlain):(readsP q).length≤q.Args.length+1+q.On.length:=by
 unfold readsP
 refine Nat.le_trans (List.length_filter_le _ _) ?_
 unfold rawP argsP
 rw[List.length_append,List.length_append,List.length_map]
 split<;>split<;>simp<;>omega
theorem names_len:∀ {l:List DPlain},(∀ q∈l,szQ q)→(l.flatMap DPlain.Names).length≤20 * l.length
 | [],_=>by simp
 | q::l,h=>by
  have h1:=(h q List.mem_cons_self).1
  have h2:=names_len fun x hx=>h x (List.mem_cons_of_mem _ hx)
  rw[List.flatMap_cons,List.length_append,List.length_cons]
  omega
theorem there_len {f:DFlow} (h1:f.Ins.length≤20) (h2:f.Eqs.length≤2700) (h3:∀ q∈f.Eqs,szQ q) (i:Nat):(thereL f i).length≤54020:=by
 have:=names_len (l:=f.Eqs.take i) fun q hq=>h3 q (List.mem_of_mem_take hq)
 unfold thereL
 rw[List.length_append,List.length_map]
 rw[List.length_take] at this
 omega
theorem there_next {f:DFlow} {i:Nat} {q:DPlain} (hq:f.Eqs[i]?=some q):thereL f (i+1)=thereL f i++q.Names:=by
 unfold thereL
 rw[List.take_add_one,hq]
 simp
theorem there_zero (f:DFlow):thereL f 0=f.Ins.map DVar.Name:=by
 unfold thereL
 simp
end Go.Proofs.YtpamokpmlplopaaGreatDoor
