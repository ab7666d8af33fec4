/-
  NmW3, NmW4, NmW5, NmZ, NmW6, NmW7: put together.
-/
import Derived.Test.YtpamokpmlplopaaGreatDoorUniAl
import Derived.Test.YtpamokpmlplopaaGreatDoorUniBb
namespace Go.Proofs.YtpamokpmlplopaaGreatDoor
open Go.Abs
set_option maxRecDepth 20000
set_option linter.unusedSimpArgs false
set_option linter.unusedVariables false
set_option maxHeartbeats 1000000
attribute [local irreducible] vc vcOps vcStep vcGuard prK hrK gK gsK brK callK ElemK SeqK BlockK ScopeK OpsK CallK LoopK LoopGo finPost ACall PCall PCallE BCall vqOps vqStep vqGuard qrK heK pcK gqK gqsK QOpsK qcallK DrawK
section
theorem partsL_in {l:List Ex} {x:Ex} (h:x∈l):(parts x).length≤(partsL l).length:=by
 induction l with
 | nil=>cases h
 | cons a l ih =>
  rw[partsL,List.length_append]
  rcases List.mem_cons.1 h with rfl|h
  ·
   omega
  ·
   have:=ih h
   omega
theorem frL_at {l:List Ex} {i:Nat} {x:Ex} (h:l[i]?=some x):frL (l.take i)+gN x≤frL l:=by
 have e:l=l.take i++x::l.drop (i+1):=by
  have hi:=(List.getElem?_eq_some_iff.1 h).1
  have hx:=(List.getElem?_eq_some_iff.1 h).2
  rw[← hx,← List.drop_eq_getElem_cons hi,List.take_append_drop]
 have:frL l=frL (l.take i)+(gN x+frL (l.drop (i+1))):=by
  conv=>lhs;rw[e]
  rw[frL_append,frL_cons]
 omega
section
variable {p:DProg} {k:Nat} {n:DNode}
theorem eaN_next {fst:ByteArray} {l:List Ex} {on:List DCond} {st:NmSt} {i:Nat} {x:Ex} (h:l[i]?=some x) :
  eaN p k fst (l.take (i+1)) on st=((eaN p k fst (l.take i) on st).1++[(atN p k fst x on (eaN p k fst (l.take i) on st).2).1],(atN p k fst x on (eaN p k fst (l.take i) on st).2).2):=by
 rw[List.take_add_one,h]
 unfold eaN atN
 rw[eachN_append]
 show(_++(eachN _ _ _ _ _ [x] _ _).1,(eachN _ _ _ _ _ [x] _ _).2)=_
 rw[eachN_cons,eachN_nil]
theorem each_of {l:List Ex} (hl:l.length≤1000) (hx:∀ x∈l,AtomK p k n x) (hp:∀ x∈l,∀ y∈parts x,partE y=true):EachK p k n l:=by
 intro a0 a1 a2 y z B r c4 c5 c6 fst on st K hs hf hb hK
 obtain⟨b1,b2,b3,b4⟩:=hb
 have hlen:∀ i,(eaN p k fst (l.take i) on st).1.length=(l.take i).length:=fun i=>eachN_len _ _ _ _ _ _ _ _
 refine acallK_of_vc tabOK Tryz.func92 (by kernel_rfl) rfl (n:=25) rfl (rs:=[.tmp 6]) rfl ?_
 simp only[go_sem]
 intro _
 refine loop_ghost (ghost_tok 7 51 2 rfl) ?_
 simp only[go_sem]
 refine loop_fr [7,9,12,13,14,15,16,17,18,19,20,21,22,23] (fun m C hh=>∃(i:Nat) (r':List Blk),i≤l.length∧m=l.length-i ∧
  C=[(12,.raw (.int .i64 (i:Nat))),(7,.lst 2 ((eaN p k fst (l.take i) on st).1.map DAtom.enc) (some (B.length+(r.length+1+1)+1+1+1+1+1+1+1+1)))] ∧
  hh=HN a0 a1 a2 y z B p (k:Int) c4 c5 c6 (eaN p k fst (l.take i) on st).2 fst (r++.tok 51 2 (eaN p k fst (l.take i) on st).1.length::r')) l.length _ ⟨0,[],by omega,by omega,rfl,by rw[List.take_zero];unfold eaN;rw[eachN_nil];rfl⟩ (.cons rfl (.cons (by rw[List.take_zero];unfold eaN;rw[eachN_nil];rfl) .nil)) ?_
 rintro m C j hh ⟨i,r',hi,rfl,rfl,rfl⟩
 simp only[go_sem]
 refine brK_dec (fun hlt=>?_) (fun hge=>?_)
 ·
  obtain⟨x,hq⟩:∃ x,l[i]?=some x:=⟨_,List.getElem?_eq_getElem (by omega)⟩
  have hxm:=List.mem_of_getElem? hq
  have hfx:fitsF (rowN p.Enums n) p.Enums x on=true:=by
   rw[fitsL_all,List.all_eq_true] at hf
   exact hf x hxm
  have g:grewN st (eaN p k fst (l.take i) on st).2 (frL (l.take i)):=each_grew (nmN fst) (tyN p (k:Int)) (cnN p) (vaN p) (fiN p) (fun y hy=>hp y (List.mem_of_mem_take hy)) on st
  have hfr:=frL_at hq
  have hpl:=partsL_in hxm
  have hll:=hlen i
  have hnx:=eaN_next (p:=p) (k:=k) (fst:=fst) (on:=on) (st:=st) hq
  have h1:=fun st1 (h:grewN st st1 (frL (l.take i))) r K=>hx x hxm a0 a1 a2 y z B r c4 c5 c6 fst on st1 K hs hfx ⟨by omega,by have:=h.1;omega,by have:=h.2.1;omega,by have:=h.2.2;omega⟩
  generalize eaN p k fst (l.take i) on st=R at g hll hnx ⊢
  obtain⟨as1,st1⟩:=R
  dsimp only at g hll hnx
  have h1:=h1 st1 g
  simp only[go_sem]
  refine elemHave (x:=x) (by omega) (by simpa using hq) ?_
  simp only[go_sem]
  refine h1 _ _ fun r2=>?_
  generalize atN p k fst x on st1=A at hnx ⊢
  obtain⟨a,st2⟩:=A
  dsimp only at hnx ⊢
  simp only[go_sem]
  rw[List.length_take] at hll
  refine And.intro (by first|omega|(simp<;>omega)) ?_
  refine loopFr _ (by omega) ⟨i+1,_,by omega,rfl,rfl,by rw[hnx];simp;rfl⟩ (.next rfl (by omega) (.cons (by rw[hnx];simp) .nil)) rfl
 ·
  rw[List.take_of_length_le (by omega)]
  simp only[go_sem]
  refine⟨_,rfl,_,.tok _ _ _,?_⟩
  exact hK _
end
end
section
section
variable (p:DProg) (k:Nat) (n:DNode)
def PlF (f:Nat) (e:Ex):Prop:=∀(a0 a1 a2 y z:Blk) (B r:List Blk) (c4 c5 c6:AV) (fst:ByteArray) (on:List DCond) (st:NmSt) (K:AV→List Blk→Prop),fst.size≤1000→fitsF (rowN p.Enums n) p.Enums e on=true→bnd on st (parts e).length (frN e) →
 (∀ r',K (plN p k fst e on st).1.enc (HN a0 a1 a2 y z B p (k:Int) c4 c5 c6 (plN p k fst e on st).2 fst (r++r')))→ACall Tryz.prog f [.ptr 3 0,e.enc,.lst 2 (on.map DCond.enc) none] (HN a0 a1 a2 y z B p (k:Int) c4 c5 c6 st fst r) K
end
section
variable {p:DProg} {k:Nat} {n:DNode}
theorem plN_9 {fst:ByteArray} {e:Ex} {on:List DCond} {st:NmSt} (h:e.kind=9):plN p k fst e on st =
  (plain0 4 0 ((freshN (nmN fst) { plain0 5 0 [noAtom] with Init:=[1] } tyB on st).1::(eaN p k fst e.subs on (freshN (nmN fst) { plain0 5 0 [noAtom] with Init:=[1] } tyB on st).2).1),
   (eaN p k fst e.subs on (freshN (nmN fst) { plain0 5 0 [noAtom] with Init:=[1] } tyB on st).2).2):=by
 unfold plN
 rw[plainN_eq]
 simp[frstN,argsN,onN,headN,h]
theorem arrow98 {e:Ex} (h9:e.kind=9) (hE:EachK p k n e.subs):PlF p k n 98 e:=by
 intro a0 a1 a2 y z B r c4 c5 c6 fst on st K hs hf hb hK
 obtain⟨b1,b2,b3,b4⟩:=hb
 rw[frN_eq,if_pos h9,if_neg (by omega)] at b2 b3 b4
 rw[parts_lenC] at b1
 have hfL:fitsL (rowN p.Enums n) p.Enums e.subs on=true:=by rw[fitsF_eq] at hf;simpa[h9] using hf
 rw[plN_9 h9] at hK
 refine acallK_of_vc tabOK Tryz.func98 (by kernel_rfl) rfl (n:=29) rfl (rs:=[.cell 6 53]) rfl ?_
 simp only[go_sem]
 refine ACall.weakA (args:=[.ptr 3 0,.lst 1 ([(1:Int)].map AV.i) none,.lst 2 ([noAtom].map DAtom.enc) none]) ⟨.refl _,.tok _ _ _,by rw[List.map_cons,List.map_nil,DAtom.enc_eq];exact .tok _ _ _,trivial⟩ ?_
 refine delay95 [1] [noAtom] fun r1=>?_
 generalize hq:({ plain0 5 0 [noAtom] with Init:=[1] }:DPlain)=q at hK ⊢
 simp only[go_sem]
 refine ACall.weakA (args:=[.ptr 3 0,q.enc,tyB.enc,.lst 2 (on.map DCond.enc) none]) ⟨.refl _,.refl _,by rw[DTy.enc_eq];exact .refl _,.refl _,trivial⟩ ?_
 refine fresh133 q tyB on hs (by omega) (by omega) (by omega) fun r2=>?_
 have g:=grewN.fresh (nmN fst) q tyB on st
 generalize freshN (nmN fst) q tyB on st=F at hK g ⊢
 obtain⟨f,st1⟩:=F
 obtain⟨g1,g2,g3⟩:=g
 dsimp only at hK g1 g2 g3 ⊢
 simp only[go_sem]
 refine hE a0 a1 a2 y z B _ c4 c5 c6 fst on st1 _ hs hfL ⟨by omega,by omega,by omega,by omega⟩ fun r3=>?_
 have hlen:(eaN p k fst e.subs on st1).1.length=e.subs.length:=eachN_len _ _ _ _ _ _ _ _
 have hsl:e.subs.length≤(partsL e.subs).length:=by
  generalize e.subs=l
  induction l with
  | nil=>simp
  | cons x l ih=>rw[partsL,List.length_append,parts_lenC,List.length_cons];omega
 generalize eaN p k fst e.subs on st1=G at hK hlen ⊢
 obtain⟨ats,st2⟩:=G
 dsimp only at hK hlen ⊢
 simp only[go_sem]
 refine And.intro (by first|omega|(simp<;>omega)) ?_
 refine finKw (r:=(plain0 4 0 (f::ats)).enc) (by simp only[go_sem];rfl) ?_ (hK _)
 rw[DPlain.enc_eq]
 exact Weak.aggs ⟨.refl _,.nil _,.refl _,.tok _ _ _,.nil _,.refl _,.refl _,.refl _,.refl _,.nil _,trivial⟩
end
end
section
section
variable (p:DProg) (k:Nat) (n:DNode)
noncomputable abbrev meN (fst:ByteArray) (m:ByteArray) (cs:List ByteArray) (l:List Ex) (on:List DCond) (st:NmSt):List DAtom × NmSt:=mergeN (nmN fst) (tyN p (k:Int)) (cnN p) (vaN p) (fiN p) m cs l on st
end
section
variable {p:DProg} {k:Nat} {n:DNode}
theorem plN_12 {fst:ByteArray} {e:Ex} {on:List DCond} {st:NmSt} (h:e.kind=12):plN p k fst e on st =
  (plain0 6 0 (⟨e.name,0⟩::(meN p k fst e.name e.arms e.subs on st).1),(meN p k fst e.name e.arms e.subs on st).2):=by
 unfold plN
 rw[plainN_eq]
 simp[frstN,argsN,headN,h]
theorem meN_nil {fst m:ByteArray} {on:List DCond} {st:NmSt}:meN p k fst m [] [] on st=([],st):=by unfold meN;rw[mergeN]
theorem meN_snoc {fst m c:ByteArray} {x:Ex} {on:List DCond}:∀ {cs:List ByteArray} {l:List Ex} {st:NmSt},cs.length=l.length →
  meN p k fst m (cs++[c]) (l++[x]) on st=((meN p k fst m cs l on st).1++[(atN p k fst x (on++[⟨m,vaN p c⟩]) (meN p k fst m cs l on st).2).1],(atN p k fst x (on++[⟨m,vaN p c⟩]) (meN p k fst m cs l on st).2).2)
 | [],[],st,_=>by
  rw[meN_nil]
  show meN p k fst m [c] [x] on st=_
  unfold meN
  rw[mergeN_cons,mergeN]
  rfl
 | d::cs,y::l,st,h=>by
  have ih:=meN_snoc (fst:=fst) (m:=m) (c:=c) (x:=x) (on:=on) (cs:=cs) (l:=l) (st:=(atN p k fst y (on++[⟨m,vaN p d⟩]) st).2) (by simpa using h)
  unfold meN at ih ⊢
  rw[List.cons_append,List.cons_append,mergeN_cons,mergeN_cons,ih]
  rfl
theorem meN_next {fst m c:ByteArray} {cs:List ByteArray} {l:List Ex} {on:List DCond} {st:NmSt} {i:Nat} {x:Ex} (hl:cs.length=l.length) (hc:cs[i]?=some c) (h:l[i]?=some x) :
  meN p k fst m (cs.take (i+1)) (l.take (i+1)) on st=((meN p k fst m (cs.take i) (l.take i) on st).1++[(atN p k fst x (on++[⟨m,vaN p c⟩]) (meN p k fst m (cs.take i) (l.take i) on st).2).1],(atN p k fst x (on++[⟨m,vaN p c⟩]) (meN p k fst m (cs.take i) (l.take i) on st).2).2):=by
 rw[List.take_add_one,List.take_add_one,h,hc]
 exact meN_snoc (by rw[List.length_take,List.length_take,hl])
theorem meN_len {fst m:ByteArray} {on:List DCond}:∀ {cs:List ByteArray} {l:List Ex} {st:NmSt},cs.length=l.length→(meN p k fst m cs l on st).1.length=l.length
 | [],[],st,_=>by rw[meN_nil];rfl
 | d::cs,y::l,st,h=>by
  have ih:=meN_len (fst:=fst) (m:=m) (on:=on) (cs:=cs) (l:=l) (st:=(atN p k fst y (on++[⟨m,vaN p d⟩]) st).2) (by simpa using h)
  unfold meN at ih ⊢
  rw[mergeN_cons]
  simpa using ih
theorem merge99 {e:Ex} (h12:e.kind=12) (hal:e.arms.length=e.subs.length) (hp:∀ x∈e.subs,∀ y∈parts x,partE y=true) (hx:∀ x∈e.subs,AtomK p k n x):PlF p k n 99 e:=by
 intro a0 a1 a2 y z B r c4 c5 c6 fst on st K hs hf hb hK
 obtain⟨b1,b2,b3,b4⟩:=hb
 rw[frN_eq,if_neg (by omega),if_neg (by omega),Nat.zero_add] at b2 b3 b4
 rw[parts_lenC] at b1
 have hfM:fitsM (rowN p.Enums n) p.Enums e.name e.arms e.subs on=true:=by rw[fitsF_eq] at hf;simp[h12] at hf;exact hf.2
 rw[plN_12 h12] at hK
 refine acallK_of_vc tabOK Tryz.func99 (by kernel_rfl) rfl (n:=47) rfl (rs:=[.cell 6 53]) rfl ?_
 simp only[go_sem]
 intro _
 have hlen:∀ i,(meN p k fst e.name (e.arms.take i) (e.subs.take i) on st).1.length=(e.subs.take i).length:=fun i=>meN_len (by rw[List.length_take,List.length_take,hal])
 have hsl:e.subs.length≤(partsL e.subs).length:=by
  generalize e.subs=l
  induction l with
  | nil=>simp
  | cons x l ih=>rw[partsL,List.length_append,parts_lenC,List.length_cons];omega
 refine loop_fr [7,8,9,10,18,19,20,21,22,23,24,25,26,27,28,29,30,31,32,33,34,35,36,37,38,39,40,41,42,43,44] (fun mm C hh=>∃(i:Nat) (r':List Blk),i≤e.arms.length∧mm=e.arms.length-i ∧
  C=[(18,.raw (.int .i64 (i:Nat))),(7,.lst 2 (((⟨e.name,0⟩:DAtom)::(meN p k fst e.name (e.arms.take i) (e.subs.take i) on st).1).map DAtom.enc) (some (B.length+(r.length+2+1+1)+1+1+1+1+1+1+1+1)))] ∧
  hh=HN a0 a1 a2 y z B p (k:Int) c4 c5 c6 (meN p k fst e.name (e.arms.take i) (e.subs.take i) on st).2 fst (r++.cells 72 [.i e.kind,.i e.n,.s e.name,.i e.op,.lst 1 (e.arms.map AV.s) none,.lst 6 (e.subs.map Ex.enc) none]::.cells 53 [.i 0,.raw (.slice none 0 0),.i 0,.raw (.slice none 0 0),.raw (.slice none 0 0),.i 0,.b false,.s ⟨#[]⟩,.i 0,.raw (.slice none 0 0)]::.tok 51 2 ((meN p k fst e.name (e.arms.take i) (e.subs.take i) on st).1.length+1)::r')) e.arms.length _
  ⟨0,[],by omega,by omega,rfl,by rw[List.take_zero,List.take_zero,meN_nil];rfl⟩ (.cons rfl (.cons (by rw[List.take_zero,List.take_zero,meN_nil,List.map_cons,DAtom.enc_eq];rfl) .nil)) ?_
 rintro mm C j hh ⟨i,r',hi,rfl,rfl,rfl⟩
 simp only[go_sem]
 refine brK_dec (fun hlt=>?_) (fun hge=>?_)
 ·
  obtain⟨c,hcq⟩:∃ c,e.arms[i]?=some c:=⟨_,List.getElem?_eq_getElem (by omega)⟩
  obtain⟨x,hq⟩:∃ x,e.subs[i]?=some x:=⟨_,List.getElem?_eq_getElem (by omega)⟩
  have hxm:=List.mem_of_getElem? hq
  have hfx:fitsF (rowN p.Enums n) p.Enums x (on++[⟨e.name,vaN p c⟩])=true:=(fitsM_at hfM hcq hq).2
  have g:grewN st (meN p k fst e.name (e.arms.take i) (e.subs.take i) on st).2 (frL (e.subs.take i)) :=
   merge_grew_of (nmN fst) (tyN p (k:Int)) (cnN p) (vaN p) (fiN p) (fun y hy=>plain_grew (nmN fst) (tyN p (k:Int)) (cnN p) (vaN p) (fiN p) y (hp y (List.mem_of_mem_take hy))) e.name _ (by rw[List.length_take,List.length_take,hal]) on st
  have hfr:=frL_at hq
  have hpl:=partsL_in hxm
  have hll:=hlen i
  have hnx:=meN_next (p:=p) (k:=k) (fst:=fst) (m:=e.name) (on:=on) (st:=st) hal hcq hq
  have h1:=fun st1 (h:grewN st st1 (frL (e.subs.take i))) r K=>hx x hxm a0 a1 a2 y z B r c4 c5 c6 fst (on++[⟨e.name,vaN p c⟩]) st1 K hs hfx ⟨by rw[List.length_append,List.length_singleton];omega,by have:=h.1;omega,by have:=h.2.1;omega,by have:=h.2.2;omega⟩
  generalize meN p k fst e.name (e.arms.take i) (e.subs.take i) on st=R at g hll hnx ⊢
  obtain⟨as1,st1⟩:=R
  dsimp only at g hll hnx
  have h1:=h1 st1 g
  rw[List.length_take] at hll
  generalize atN p k fst x (on++[⟨e.name,vaN p c⟩]) st1=A at hnx h1
  obtain⟨a,st2⟩:=A
  dsimp only at hnx h1
  simp only[go_sem]
  refine elemHave (x:=c) (by omega) (by simpa using hcq) ?_
  simp only[go_sem]
  refine drawM [] (.pur 0 (.pur 1 (.pur 2 (.pur 3 (.two 4 (.pur 5 (.eff 6 (.eff 7 .nil))) 6 (.eff 4 (.pur 5 (.eff 7 .nil)))))))) mo (by kernel_rfl) ?_
  simp only[go_sem]
  refine And.intro ?_ ?_
  all_goals
   refine value132 c ?_
   simp only[go_sem]
   refine drawM [3,B.length+9] (.pur 0 (.pur 1 (.pur 2 (.pur 3 (.pur 4 (.pur 5 (.pur 6 (.pur 7 (.pur 9 (.two 8 (.eff 10 (.eff 11 (.eff 12 (.eff 13 (.eff 14 (.pur 15 .nil)))))) 10 (.eff 8 (.eff 11 (.eff 12 (.eff 13 (.eff 14 (.pur 15 .nil)))))))))))))))) mo (by kernel_rfl) ?_
   simp only[go_sem]
   refine elemHave (x:=x) (by omega) (by simpa using hq) ?_
   repeat' first
    | simp only[go_sem]
    | refine cloneC on (by omega) ?_
    | (refine ACall.weakA (args:=[.ptr 3 0,x.enc,.lst 2 ((on++[(⟨e.name,vaN p c⟩:DCond)]).map DCond.enc) none]) ⟨.refl _,.refl _,by rw[List.map_append,List.map_cons,List.map_nil,DCond.enc_eq];exact .tok _ _ _,trivial⟩ ?_;refine h1 _ _ fun r2=>?_)
    | refine And.intro (by first|omega|(simp;done)|(simp;omega)) ?_
    | refine And.intro ?_ ?_
    | exact loopFr _ (by omega) ⟨i+1,_,by omega,rfl,rfl,by rw[hnx];simp;rfl⟩ (.next rfl (by omega) (.cons (by rw[hnx];simp) .nil)) rfl
 ·
  rw[List.take_of_length_le (by omega),List.take_of_length_le (by omega)]
  simp only[go_sem]
  refine finKw (r:=(plain0 6 0 (⟨e.name,0⟩::(meN p k fst e.name e.arms e.subs on st).1)).enc) (by simp only[go_sem];rfl) ?_ (hK _)
  rw[DPlain.enc_eq]
  exact Weak.aggs ⟨.refl _,.nil _,.refl _,.tok _ _ _,.nil _,.refl _,.refl _,.refl _,.refl _,.nil _,trivial⟩
end
end
theorem cellsZ_le (t:DTy):1≤cellsZ t∧cellsZ t≤8:=by
 unfold cellsZ
 split
 ·
  omega
 ·
  split<;>omega
theorem cells137 (t:DTy):PCall Tryz.prog 137 [t.enc] (.i ((cellsZ t:Nat):Int)):=by
 refine pcall_of_vc tabOK Tryz.func137 (by kernel_rfl) rfl pureL pureI (n:=7) rfl (rs:=[.tmp 2]) rfl ?_
 simp only[go_sem]
 refine finIq rfl ?_
 unfold cellsZ
 split<;>split<;>omega
theorem cells180 (t:DTy):PCall Tryz.prog 180 [t.enc] (.i ((cellsZ t:Nat):Int)):=by
 refine pcall_of_vc tabOK Tryz.func180 (by kernel_rfl) rfl pureL pureI (n:=11) rfl (rs:=[.tmp 2]) rfl ?_
 have h:((cellsZ t:Nat):Int)=if t.Len<1 then 1 else if t.Len>8 then 8 else t.Len:=by
  unfold cellsZ
  split
  ·
   rfl
  ·
   split<;>omega
 rw[h]
 repeat' first
  | simp only[go_sem]
  | refine brK_dec (fun _=>?_) (fun _=>?_)
  | (refine finIq rfl ?_;simp[*];done)
  | (refine finIq rfl ?_;simp[*];omega)
  | (refine finIq rfl ?_;omega)
theorem zero96 (t:DTy):PCall Tryz.prog 96 [t.enc] (.lst 1 ((List.replicate (cellsZ t) (0:Int)).map AV.i) none):=by
 have h:=cellsZ_le t
 have hc:=cells137 t
 generalize cellsZ t=n at h hc
 refine pcall_of_vc tabOK Tryz.func96 (by kernel_rfl) rfl pureL pureI (n:=6) rfl (rs:=[.tmp 2]) rfl ?_
 simp only[go_sem]
 refine PCall.call hc ?_
 simp only[go_sem]
 refine And.intro (by omega) ?_
 refine⟨_,rfl,true,?_⟩
 show Weak (frz [.cells 42 [.i t.Kind,.i t.Enum,.i t.Len],.cells 2 (List.replicate n (.raw (.int .i64 0)))] (.sl 1 1 0 n)) _
 have e:frz [.cells 42 [.i t.Kind,.i t.Enum,.i t.Len],.cells 2 (List.replicate n (.raw (.int .i64 0)))] (.sl 1 1 0 n)=.lst 1 ((List.replicate n (0:Int)).map AV.i) none:=by
  simp[frz,AV.one,AV.cells,Value.oneCell']
 rw[e]
 exact .refl _
theorem zero143 (t:DTy):PCall Tryz.prog 143 [t.enc] (.lst 1 ((List.replicate (cellsZ t) (0:Int)).map AV.i) none):=by
 have h:=cellsZ_le t
 have hc:=cells180 t
 generalize cellsZ t=n at h hc
 refine pcall_of_vc tabOK Tryz.func143 (by kernel_rfl) rfl pureL pureI (n:=16) rfl (rs:=[.tmp 2]) rfl ?_
 simp only[go_sem]
 refine loop_fr [3,4,6,7,8,9,10,11,12,13,14] (fun mm C hh=>∃(i:Nat) (r':List Blk),i≤n∧mm=n-i∧C=[(4,.raw (.int .i64 (i:Nat))),(3,.lst 1 ((List.replicate i (0:Int)).map AV.i) (some 1))] ∧
  hh=.cells 42 [.i t.Kind,.i t.Enum,.i t.Len]::.tok 2 1 i::r') n _ ⟨0,[],by omega,by omega,rfl,rfl⟩ (.cons rfl (.cons rfl .nil)) ?_
 rintro mm C j hh ⟨i,r',hi,rfl,rfl,rfl⟩
 simp only[go_sem]
 refine PCall.call hc ?_
 simp only[go_sem]
 refine brK_dec (fun hlt=>?_) (fun hge=>?_)
 ·
  simp only[go_sem]
  refine And.intro (by first|omega|(simp;done)|(simp;omega)) ?_
  exact loopFr _ (by omega) ⟨i+1,_,by omega,rfl,rfl,by simp;rfl⟩ (.next rfl (by omega) (.cons (by rw[List.replicate_succ',List.map_append];rfl) .nil)) rfl
 ·
  obtain rfl:i=n:=by omega
  simp only[go_sem]
  exact⟨_,rfl,false,.tok _ _ _⟩
section
section
variable {p:DProg} {k:Nat} {n:DNode}
theorem plN_13 {fst:ByteArray} {e:Ex} {on:List DCond} {st:NmSt} (h:e.kind=13):plN p k fst e on st =
  (if e.n=1 then { plain0 7 0 ((eaN p k fst e.subs on st).1.take ((eaN p k fst e.subs on st).1.length-1)) with Node:=findF p e.name,Reset:=true,Every:=(eaN p k fst e.subs on st).1.getLastD noAtom } else { plain0 7 0 (eaN p k fst e.subs on st).1 with Node:=findF p e.name },(eaN p k fst e.subs on st).2):=by
 unfold plN
 rw[plainN_eq]
 simp[frstN,argsN,onN,headN,h,fiN]
theorem subs_le2 (l:List Ex):l.length≤(partsL l).length:=by
 induction l with
 | nil=>simp
 | cons x l ih=>rw[partsL,List.length_append,parts_lenC,List.length_cons];omega
theorem call100 {e:Ex} (h13:e.kind=13) (hn:e.n=0∨e.n=1) (hsn:e.n≤e.subs.length) (hp:∀ x∈e.subs,∀ y∈parts x,partE y=true) (hx:∀ x∈e.subs,AtomK p k n x):PlF p k n 100 e:=by
 intro a0 a1 a2 y z B r c4 c5 c6 fst on st K hs hf hb hK
 obtain⟨b1,b2,b3,b4⟩:=hb
 rw[frN_eq,if_neg (by omega),if_neg (by omega),Nat.zero_add] at b2 b3 b4
 rw[parts_lenC] at b1
 have hsl:=subs_le2 e.subs
 have hfL:fitsL (rowN p.Enums n) p.Enums e.subs on=true:=by rw[fitsF_eq] at hf;simpa[h13] using hf
 rw[plN_13 h13] at hK
 obtain⟨m,hm⟩:∃ m:Nat,(m:Int)=(e.subs.length:Int)-e.n:=⟨((e.subs.length:Int)-e.n).toNat,by omega⟩
 have hw:IntKind.i64.wrap ((e.subs.length:Int)-e.n)=(m:Int):=by rw[hm,wrap_in _ (by omega) (by omega)]
 have hE:EachK p k n (e.subs.take m):=each_of (by rw[List.length_take];omega) (fun x h=>hx x (List.mem_of_mem_take h)) (fun x h=>hp x (List.mem_of_mem_take h))
 have hfT:fitsL (rowN p.Enums n) p.Enums (e.subs.take m) on=true:=by
  rw[fitsL_all,List.all_eq_true] at hfL ⊢
  exact fun x h=>hfL x (List.mem_of_mem_take h)
 have hfr:frL (e.subs.take m)≤frL e.subs:=by
  have:frL e.subs=frL (e.subs.take m)+frL (e.subs.drop m):=by rw[← frL_append,List.take_append_drop]
  omega
 have hpr:(partsL (e.subs.take m)).length≤(partsL e.subs).length:=by
  have:partsL e.subs=partsL (e.subs.take m)++partsL (e.subs.drop m):=by
   conv=>lhs;rw[← List.take_append_drop m e.subs]
   generalize e.subs.take m=l
   generalize e.subs.drop m=l2
   induction l with
   | nil=>rfl
   | cons x l ih=>rw[List.cons_append,partsL,partsL,ih,List.append_assoc]
  rw[this,List.length_append]
  omega
 have hE1:=fun r K=>hE a0 a1 a2 y z B r c4 c5 c6 fst on st K hs hfT ⟨by omega,by omega,by omega,by omega⟩
 have g:grewN st (eaN p k fst (e.subs.take m) on st).2 (frL (e.subs.take m)):=each_grew (nmN fst) (tyN p (k:Int)) (cnN p) (vaN p) (fiN p) (fun y hy=>hp y (List.mem_of_mem_take hy)) on st
 have hll:(eaN p k fst (e.subs.take m) on st).1.length=m:=by
  unfold eaN
  rw[eachN_len,List.length_take]
  omega
 rcases hn with hn|hn
 ·
  have hme:m=e.subs.length:=by omega
  rw[if_neg (by omega)] at hK
  have hst:e.subs.take m=e.subs:=List.take_of_length_le (by omega)
  rw[hst] at hE1 hll
  generalize eaN p k fst e.subs on st=G at hE1 hK hll
  obtain⟨ats,st1⟩:=G
  dsimp only at hE1 hK hll
  refine acallK_of_vc tabOK Tryz.func100 (by kernel_rfl) rfl (n:=45) rfl (rs:=[.cell 6 53]) rfl ?_
  simp only[go_sem,hw]
  intro _
  refine drawM [3,B.length+9] (.pur 0 (.pur 1 (.pur 2 (.pur 4 (.pur 5 (.pur 7 (.pur 8 (.pur 9 (.pur 10 (.pur 11 (.pur 12 (.pur 13 (.two 3 (.pur 6 (.two 14 (.pur 15 (.eff 16 (.eff 17 .nil))) 16 (.eff 14 (.pur 15 (.eff 17 .nil))))) 16 (.eff 3 (.pur 6 (.eff 14 (.pur 15 (.eff 17 .nil)))))))))))))))))) mo (by kernel_rfl) ?_
  repeat' first
   | simp only[go_sem,Int.toNat_natCast]
   | refine pcK_of (find23 p e.name) ?_
   | (rw[hst];refine hE1 _ _ fun r1=>?_)
   | refine brK_dec (fun _=>?_) (fun _=>?_)
   | (exfalso;omega)
   | refine And.intro (by first|omega|(simp;done)|(simp;omega)) ?_
   | refine And.intro ?_ ?_
   | exact finKw (r:=({ plain0 7 0 ats with Node:=findF p e.name }:DPlain).enc) (by simp only[go_sem];rfl) (by rw[DPlain.enc_eq];exact Weak.aggs ⟨.refl _,.nil _,.refl _,.refl _,.nil _,.refl _,.refl _,.refl _,.refl _,.nil _,trivial⟩) (hK _)
 ·
  obtain⟨x,hq⟩:∃ x,e.subs[m]?=some x:=⟨_,List.getElem?_eq_getElem (by omega)⟩
  have hxm:=List.mem_of_getElem? hq
  have hfx:fitsF (rowN p.Enums n) p.Enums x on=true:=by
   rw[fitsL_all,List.all_eq_true] at hfL
   exact hfL x hxm
  have hfr2:=frL_at hq
  have hpl:=partsL_in hxm
  have hnx:=eaN_next (p:=p) (k:=k) (fst:=fst) (on:=on) (st:=st) hq
  rw[List.take_of_length_le (i:=m+1) (by omega)] at hnx
  rw[if_pos hn,hnx] at hK
  have h1:=fun st1 (h:grewN st st1 (frL (e.subs.take m))) r K=>hx x hxm a0 a1 a2 y z B r c4 c5 c6 fst on st1 K hs hfx ⟨by omega,by have:=h.1;omega,by have:=h.2.1;omega,by have:=h.2.2;omega⟩
  generalize eaN p k fst (e.subs.take m) on st=G at hE1 hK hll g
  obtain⟨ats,st1⟩:=G
  dsimp only at hE1 hK hll g
  have h1:=h1 st1 g
  generalize atN p k fst x on st1=A at h1 hK
  obtain⟨a,st2⟩:=A
  dsimp only at h1 hK
  have e1:(ats++[a]).take ((ats++[a]).length-1)=ats:=by simp
  have e2:(ats++[a]).getLastD noAtom=a:=by simp
  rw[e1,e2] at hK
  refine acallK_of_vc tabOK Tryz.func100 (by kernel_rfl) rfl (n:=45) rfl (rs:=[.cell 6 53]) rfl ?_
  simp only[go_sem,hw]
  intro _
  refine drawM [3,B.length+9] (.pur 0 (.pur 1 (.pur 2 (.pur 4 (.pur 5 (.pur 7 (.pur 8 (.pur 9 (.pur 10 (.pur 11 (.pur 12 (.pur 13 (.two 3 (.pur 6 (.two 14 (.pur 15 (.eff 16 (.eff 17 .nil))) 16 (.eff 14 (.pur 15 (.eff 17 .nil))))) 16 (.eff 3 (.pur 6 (.eff 14 (.pur 15 (.eff 17 .nil)))))))))))))))))) mo (by kernel_rfl) ?_
  repeat' first
   | simp only[go_sem,Int.toNat_natCast]
   | refine pcK_of (find23 p e.name) ?_
   | (refine hE1 _ _ fun r1=>?_)
   | refine brK_dec (fun _=>?_) (fun _=>?_)
   | (exfalso;omega)
   | refine elemHave (x:=x) (by omega) (by simpa using hq) ?_
   | (refine h1 _ _ fun r2=>?_)
   | refine And.intro (by first|omega|(simp;done)|(simp;omega)) ?_
   | refine And.intro ?_ ?_
   | exact finKw (r:=({ plain0 7 0 ats with Node:=findF p e.name,Reset:=true,Every:=a }:DPlain).enc) (by simp only[go_sem];rfl) (by rw[DPlain.enc_eq];exact Weak.aggs ⟨.refl _,.nil _,.refl _,.refl _,.nil _,.refl _,.refl _,.refl _,.refl _,.nil _,trivial⟩) (hK _)
end
end
section
section
variable {p:DProg} {k:Nat} {n:DNode}
theorem plN_k {fst:ByteArray} {e:Ex} {on:List DCond} {st:NmSt} (h:e.kind=5∨e.kind=6∨e.kind=7∨e.kind=14∨e.kind=15∨e.kind=16):plN p k fst e on st=(plain0 (kindN e.kind) e.op (eaN p k fst e.subs on st).1,(eaN p k fst e.subs on st).2):=by
 unfold plN
 rw[plainN_eq]
 rcases h with h|h|h|h|h|h<;>simp[frstN,argsN,onN,headN,kindN,h]
theorem plN_8 {fst:ByteArray} {e x:Ex} {on:List DCond} {st:NmSt} (h:e.kind=8) (hx:e.subs[0]?=some x):plN p k fst e on st=({ plain0 5 0 (eaN p k fst (e.subs.drop 1) on st).1 with Init:=(constT p.Enums x).1 },(eaN p k fst (e.subs.drop 1) on st).2):=by
 have hd:e.subs.headD e=x:=by
  match e.subs,hx with
  | y::l,hx=>simpa using hx
 unfold plN
 rw[plainN_eq]
 simp only[frstN,argsN,headN,h,hd,cnN]
 simp
theorem plN_10 {fst:ByteArray} {e:Ex} {on:List DCond} {st:NmSt} (h:e.kind=10):plN p k fst e on st=({ plain0 5 0 (eaN p k fst e.subs on st).1 with Init:=List.replicate (cellsZ (tyN p (k:Int) e)) 0 },(eaN p k fst e.subs on st).2):=by
 unfold plN
 rw[plainN_eq]
 simp[frstN,argsN,onN,headN,h]
theorem plN_11 {fst:ByteArray} {e:Ex} {on:List DCond} {st:NmSt} (h:e.kind=11):plN p k fst e on st=(plain0 1 0 (eaN p k fst e.subs on.dropLast st).1,(eaN p k fst e.subs on.dropLast st).2):=by
 unfold plN
 rw[plainN_eq]
 simp[frstN,argsN,onN,headN,h]
theorem plN_leaf {fst:ByteArray} {e:Ex} {on:List DCond} {st:NmSt} (h:leafK e.kind=true) (hs:e.subs=[]):plN p k fst e on st=(plain0 1 0 [(atN p k fst e on st).1],(atN p k fst e on st).2):=by
 have h2:e.kind=1∨e.kind=2∨e.kind=3∨e.kind=4:=by unfold leafK at h;exact of_decide_eq_true h
 have hat:atN p k fst e on st=(leafA (vaN p) e,st):=by unfold atN atomN;rw[if_pos h]
 rw[hat]
 unfold plN
 rw[plainN_eq]
 rcases h2 with h2|h2|h2|h2<;>simp[frstN,argsN,onN,headN,h2,hs,eachN_nil]
theorem plain_all (hty:∀ n∈p.Nodes,tyOK p n) (e:Ex):(∀ y∈parts e,partE y=true)→okE e→PlF p k n 62 e:=by
 induction e using Ex.ind with
 | _ e ih =>
 intro hp hok
 have hps:∀ x∈e.subs,∀ y∈parts x,partE y=true:=fun x hx=>sub_ok hp hx
 have hx:∀ x∈e.subs,AtomK p k n x:=fun x hx=>atom_of hty (hps x hx) (sub_okE hok hx) (ih x hx (hps x hx) (sub_okE hok hx))
 have hsl:=subs_le hok
 obtain⟨hk,hlo,hhi,ha11,ha12,hn13⟩:=part_facts (hp e (self_parts e))
 have hE:EachK p k n e.subs:=each_of (by omega) hx hps
 have hE8:EachK p k n (e.subs.drop 1):=each_of (by rw[List.length_drop];omega) (fun x h=>hx x (List.mem_of_mem_drop h)) (fun x h=>hps x (List.mem_of_mem_drop h))
 intro a0 a1 a2 y z B r c4 c5 c6 fst on st K hs hf hb hK
 have hb0:=hb
 obtain⟨b1,b2,b3,b4⟩:=hb
 have b1':=b1
 rw[parts_lenC] at b1'
 have hk91:=kind91 e
 by_cases hA:e.kind=5∨e.kind=6∨e.kind=7∨e.kind=14∨e.kind=15∨e.kind=16
 ·
  have hfL:fitsL (rowN p.Enums n) p.Enums e.subs on=true:=by rw[fitsF_eq] at hf;rcases hA with h|h|h|h|h|h<;>simpa[h] using hf
  rw[frN_eq,if_neg (by omega),if_neg (by omega),Nat.zero_add] at b2 b3 b4
  have hk0:¬ kindN e.kind=0:=by unfold kindN;rcases hA with h|h|h|h|h|h<;>simp[h]
  rw[plN_k hA] at hK
  generalize kindN e.kind=kd at hk91 hk0 hK
  refine acallK_of_vc tabOK Tryz.func62 (by kernel_rfl) rfl (n:=104) rfl (rs:=[.cell 6 53]) rfl ?_
  simp only[go_sem]
  refine PCall.call hk91 ?_
  simp only[go_sem]
  refine brK_dec (fun _=>?_) (fun h=>absurd h (by simpa using hk0))
  simp only[go_sem]
  refine drawM [3,B.length+9,B.length+(r.length+3)+8] (.pur 0 (.pur 1 (.pur 2 (.pur 3 (.pur 4 (.pur 5 (.pur 6 (.pur 7 (.eff 8 (.pur 9 (.eff 10 .nil))))))))))) mo (by kernel_rfl) ?_
  simp only[go_sem]
  refine hE a0 a1 a2 y z B _ c4 c5 c6 fst on st _ hs hfL ⟨by omega,by omega,by omega,by omega⟩ fun r1=>?_
  generalize eaN p k fst e.subs on st=G at hK ⊢
  obtain⟨ats,st1⟩:=G
  dsimp only at hK ⊢
  simp only[go_sem]
  refine finKw (r:=(plain0 kd e.op ats).enc) (by simp only[go_sem];rfl) ?_ (hK _)
  rw[DPlain.enc_eq]
  exact Weak.aggs ⟨.refl _,.nil _,.refl _,.refl _,.nil _,.refl _,.refl _,.refl _,.refl _,.nil _,trivial⟩
 have hk0:kindN e.kind=0:=by
  unfold kindN
  rw[if_neg (by omega),if_neg (by omega),if_neg (by omega),if_neg (by omega),if_neg (by omega),if_neg (by omega)]
 rw[hk0] at hk91
 by_cases h8:e.kind=8
 ·
  have h2:(subsE e).1=2∧(subsE e).2=2:=by simp[subsE,h8]
  have hfL:fitsL (rowN p.Enums n) p.Enums (e.subs.drop 1) on=true:=by rw[fitsF_eq] at hf;simp[h8] at hf;rw[List.drop_one];exact hf.2
  rw[frN_eq,if_neg (by omega),if_pos h8,Nat.zero_add] at b2 b3 b4
  obtain⟨x0,hx0⟩:∃ x,e.subs[0]?=some x:=⟨_,List.getElem?_eq_getElem (by omega)⟩
  have hpr:(partsL (e.subs.drop 1)).length≤(partsL e.subs).length:=by
   generalize e.subs=l
   cases l with
   | nil=>simp
   | cons x l=>rw[partsL,List.length_append];simp
  have hc:=constP p.Enums x0 (sub_okE hok (List.mem_of_getElem? hx0))
  rw[plN_8 h8 hx0] at hK
  generalize constT p.Enums x0=cc at hc hK
  obtain⟨cv,ct,cok⟩:=cc
  dsimp only at hK
  refine acallK_of_vc tabOK Tryz.func62 (by kernel_rfl) rfl (n:=104) rfl (rs:=[.cell 6 53]) rfl ?_
  simp only[go_sem]
  refine PCall.call hk91 ?_
  simp only[go_sem]
  refine brK_dec (fun _=>?_) (fun q=>absurd h8 q)
  simp only[go_sem]
  refine drawK mo (by kernel_rfl) ?_
  simp only[go_sem]
  refine elemHave (x:=x0) (by omega) (by simpa using hx0) ?_
  simp only[go_sem]
  refine pcK_of hc ?_
  simp only[go_sem]
  refine And.intro (by omega) ?_
  refine hE8 a0 a1 a2 y z B _ c4 c5 c6 fst on st _ hs hfL ⟨by omega,by omega,by omega,by omega⟩ fun r1=>?_
  generalize eaN p k fst (e.subs.drop 1) on st=G at hK ⊢
  obtain⟨ats,st1⟩:=G
  dsimp only at hK ⊢
  simp only[go_sem]
  refine delay95 cv ats fun r2=>?_
  simp only[go_sem]
  exact finKw (r:=({ plain0 5 0 ats with Init:=cv }:DPlain).enc) (by simp only[go_sem];rfl) (by rw[DPlain.enc_eq];exact .refl _) (hK _)
 by_cases h10:e.kind=10
 ·
  have hfL:fitsL (rowN p.Enums n) p.Enums e.subs on=true:=by rw[fitsF_eq] at hf;simpa[h10] using hf
  rw[frN_eq,if_neg (by omega),if_neg (by omega),Nat.zero_add] at b2 b3 b4
  rw[plN_10 h10] at hK
  have hz:=zero96 (tyN p (k:Int) e)
  generalize hcv:List.replicate (cellsZ (tyN p (k:Int) e)) (0:Int)=cv at hz hK
  refine acallK_of_vc tabOK Tryz.func62 (by kernel_rfl) rfl (n:=104) rfl (rs:=[.cell 6 53]) rfl ?_
  simp only[go_sem]
  refine PCall.call hk91 ?_
  repeat' first
   | simp only[go_sem]
   | refine brK_dec (fun _=>?_) (fun _=>?_)
   | (exfalso;omega)
  refine drawM [3,B.length+9,B.length+(r.length+3)+8] (.pur 0 (.pur 1 (.pur 2 (.pur 5 (.pur 6 (.pur 7 (.pur 8 (.pur 9 (.eff 3 (.pur 4 (.eff 10 (.eff 11 (.eff 12 .nil))))))))))))) mo (by kernel_rfl) ?_
  simp only[go_sem]
  refine ty97 e hty hp hok ?_
  simp only[go_sem]
  refine pcK_of hz ?_
  simp only[go_sem]
  refine hE a0 a1 a2 y z B _ c4 c5 c6 fst on st _ hs hfL ⟨by omega,by omega,by omega,by omega⟩ fun r1=>?_
  generalize eaN p k fst e.subs on st=G at hK ⊢
  obtain⟨ats,st1⟩:=G
  dsimp only at hK ⊢
  simp only[go_sem]
  refine delay95 cv ats fun r2=>?_
  simp only[go_sem]
  exact finKw (r:=({ plain0 5 0 ats with Init:=cv }:DPlain).enc) (by simp only[go_sem];rfl) (by rw[DPlain.enc_eq];exact .refl _) (hK _)
 by_cases h9:e.kind=9
 ·
  have hC:=arrow98 (p:=p) (k:=k) (n:=n) h9 hE a0 a1 a2 y z B
  refine acallK_of_vc tabOK Tryz.func62 (by kernel_rfl) rfl (n:=104) rfl (rs:=[.cell 6 53]) rfl ?_
  simp only[go_sem]
  refine PCall.call hk91 ?_
  repeat' first
   | simp only[go_sem]
   | refine brK_dec (fun _=>?_) (fun _=>?_)
   | (exfalso;omega)
  refine hC _ c4 c5 c6 fst on st _ hs hf hb0 fun r1=>?_
  simp only[go_sem]
  exact finKw (r:=(plN p k fst e on st).1.enc) (by simp only[go_sem];rfl) (by rw[DPlain.enc_eq];exact .refl _) (hK _)
 by_cases h11:e.kind=11
 ·
  rw[fitsF_eq] at hf
  simp[h11] at hf
  obtain⟨⟨⟨⟨⟨_,_⟩,hrow⟩,_⟩,hon⟩,hfL⟩:=hf
  have hon:=eqB_t hon
  have hdl:on.dropLast=(rowN p.Enums n e.name).1:=by
   conv=>lhs;rw[hon]
   simp
  rw[← hdl] at hfL
  obtain⟨m,hm⟩:∃ m,on.length=m+1:=⟨on.length-1,by
   have:=congrArg List.length hon
   simp at this
   omega⟩
  have hw:IntKind.i64.wrap ((on.length:Int)-1)=(m:Int):=by rw[hm,wrap_in _ (by omega) (by omega)];omega
  have hdt:on.take m=on.dropLast:=by rw[List.dropLast_eq_take,hm];rfl
  rw[frN_eq,if_neg (by omega),if_neg (by omega),Nat.zero_add] at b2 b3 b4
  rw[plN_11 h11] at hK
  have hdll:on.dropLast.length≤on.length:=by rw[List.length_dropLast];omega
  have hE1:=fun r K=>hE a0 a1 a2 y z B r c4 c5 c6 fst on.dropLast st K hs hfL ⟨by omega,by omega,by omega,by omega⟩
  rw[← hdt] at hE1 hK
  refine acallK_of_vc tabOK Tryz.func62 (by kernel_rfl) rfl (n:=104) rfl (rs:=[.cell 6 53]) rfl ?_
  simp only[go_sem]
  refine PCall.call hk91 ?_
  repeat' first
   | simp only[go_sem]
   | refine brK_dec (fun _=>?_) (fun _=>?_)
   | (exfalso;omega)
  refine drawM [3,B.length+9,B.length+(r.length+3)+8] (.pur 0 (.pur 1 (.pur 2 (.pur 3 (.pur 4 (.pur 5 (.pur 6 (.pur 7 (.pur 8 (.eff 9 (.pur 10 (.eff 11 .nil)))))))))))) mo (by kernel_rfl) ?_
  simp only[go_sem,hw,Int.toNat_natCast]
  refine And.intro (by omega) ?_
  refine hE1 _ _ fun r1=>?_
  generalize eaN p k fst e.subs (on.take m) st=G at hK ⊢
  obtain⟨ats,st1⟩:=G
  dsimp only at hK ⊢
  simp only[go_sem]
  refine finKw (r:=(plain0 1 0 ats).enc) (by simp only[go_sem];rfl) ?_ (hK _)
  rw[DPlain.enc_eq]
  exact Weak.aggs ⟨.refl _,.nil _,.refl _,.refl _,.nil _,.refl _,.refl _,.refl _,.refl _,.nil _,trivial⟩
 by_cases h12:e.kind=12
 ·
  have hal:e.arms.length=e.subs.length:=by
   have:(subsE e).1=e.arms.length∧(subsE e).2=e.arms.length:=by simp[subsE,h12]
   omega
  have hC:=merge99 (p:=p) (k:=k) (n:=n) h12 hal hps hx a0 a1 a2 y z B
  refine acallK_of_vc tabOK Tryz.func62 (by kernel_rfl) rfl (n:=104) rfl (rs:=[.cell 6 53]) rfl ?_
  simp only[go_sem]
  refine PCall.call hk91 ?_
  repeat' first
   | simp only[go_sem]
   | refine brK_dec (fun _=>?_) (fun _=>?_)
   | (exfalso;omega)
  refine hC _ c4 c5 c6 fst on st _ hs hf hb0 fun r1=>?_
  simp only[go_sem]
  exact finKw (r:=(plN p k fst e on st).1.enc) (by simp only[go_sem];rfl) (by rw[DPlain.enc_eq];exact .refl _) (hK _)
 by_cases h13:e.kind=13
 ·
  have hsn:e.n≤e.subs.length:=by
   have:(subsE e).1=e.n:=by simp[subsE,h13]
   omega
  have hC:=call100 (p:=p) (k:=k) (n:=n) h13 (hn13 h13) hsn hps hx a0 a1 a2 y z B
  refine acallK_of_vc tabOK Tryz.func62 (by kernel_rfl) rfl (n:=104) rfl (rs:=[.cell 6 53]) rfl ?_
  simp only[go_sem]
  refine PCall.call hk91 ?_
  repeat' first
   | simp only[go_sem]
   | refine brK_dec (fun _=>?_) (fun _=>?_)
   | (exfalso;omega)
  refine hC _ c4 c5 c6 fst on st _ hs hf hb0 fun r1=>?_
  simp only[go_sem]
  exact finKw (r:=(plN p k fst e on st).1.enc) (by simp only[go_sem];rfl) (by rw[DPlain.enc_eq];exact .refl _) (hK _)
 by_cases h17:e.kind=17
 ·
  rw[fitsF_eq] at hf
  simp[h17] at hf
 have hlf:leafK e.kind=true:=by unfold leafK;exact decide_eq_true (by omega)
 have hsz:e.subs=[]:=by
  have:(subsE e).2=0:=by
   unfold subsE
   rw[if_neg (by omega),if_neg (by omega),if_neg (by omega),if_neg (by omega),if_neg (by omega),if_neg (by omega)]
  exact List.length_eq_zero_iff.1 (by omega)
 have hA1:=atom_leaf (p:=p) (k:=k) (n:=n) hlf a0 a1 a2 y z B
 have hg:gN e=0:=by unfold gN;rw[if_pos hlf]
 rw[plN_leaf hlf hsz] at hK
 refine acallK_of_vc tabOK Tryz.func62 (by kernel_rfl) rfl (n:=104) rfl (rs:=[.cell 6 53]) rfl ?_
 simp only[go_sem]
 refine PCall.call hk91 ?_
 repeat' first
  | simp only[go_sem]
  | refine brK_dec (fun _=>?_) (fun _=>?_)
  | (exfalso;omega)
 refine hA1 _ c4 c5 c6 fst on st _ hs hf ⟨by omega,by omega,by omega,by omega⟩ fun r1=>?_
 generalize atN p k fst e on st=A at hK ⊢
 obtain⟨a,st1⟩:=A
 dsimp only at hK ⊢
 simp only[go_sem]
 refine finKw (r:=(plain0 1 0 [a]).enc) (by simp only[go_sem];rfl) ?_ (hK _)
 rw[DPlain.enc_eq]
 exact Weak.aggs ⟨.refl _,.nil _,.refl _,.tok _ _ _,.nil _,.refl _,.refl _,.refl _,.refl _,.nil _,trivial⟩
end
end
end Go.Proofs.YtpamokpmlplopaaGreatDoor
