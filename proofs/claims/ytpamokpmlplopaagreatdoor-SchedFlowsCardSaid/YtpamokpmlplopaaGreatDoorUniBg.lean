/-
  NmX3, NmX4, NmX5, NmX6: put together.
-/
import Derived.Test.YtpamokpmlplopaaGreatDoorUniBb
import Derived.Test.YtpamokpmlplopaaGreatDoorUniBc
import Derived.Test.YtpamokpmlplopaaGreatDoorUniBd
import Derived.Test.YtpamokpmlplopaaGreatDoorUniBf
namespace Go.Proofs.YtpamokpmlplopaaGreatDoor
open Go.Abs
set_option maxRecDepth 20000
set_option linter.unusedSimpArgs false
set_option linter.unusedVariables false
set_option maxHeartbeats 1000000
attribute [local irreducible] vc vcOps vcStep vcGuard prK hrK gK gsK brK callK ElemK SeqK BlockK ScopeK OpsK CallK LoopK LoopGo finPost ACall PCall PCallE BCall vqOps vqStep vqGuard qrK heK pcK gqK gqsK QOpsK qcallK DrawK
section
section
variable {p:DProg} {k:Nat} {n:DNode}
set_option maxHeartbeats 8000000 in
theorem flowX105 (hty:∀ n∈p.Nodes,tyOK p n) {e:Ex} (hk:e.kind=8∨e.kind=9∨e.kind=10∨e.kind=11∨e.kind=12) (hp0:∀ y∈parts e,partE y=true) (hok:okE e) (hp:∀ x∈e.subs,∀ y∈parts x,partE y=true) (hx:∀ x∈e.subs,AtX p k n x):PlX p k n 105 e:=by
 have hsl:=subs_le hok
 have hsl2:=subs_le2 e.subs
 obtain⟨_,hlo,hhi,ha11,ha12,hn13⟩:=part_facts (hp0 e (self_parts e))
 have hE:EachX p k n e.subs:=eachX_of (by omega) hx hp
 have hE8:EachX p k n (e.subs.drop 1):=eachX_of (by rw[List.length_drop];omega) (fun x h=>hx x (List.mem_of_mem_drop h)) (fun x h=>hp x (List.mem_of_mem_drop h))
 intro A y z r c5 c6 c7 fst on st K hs hf hb hK
 obtain⟨b1,b2,b3,b4⟩:=hb
 have b1':=b1
 rw[parts_lenC] at b1'
 by_cases h8:e.kind=8
 ·
  have h2:(subsE e).1=2∧(subsE e).2=2:=by simp[subsE,h8]
  have hfL:fitsL (rowN p.Enums n) p.Enums (e.subs.drop 1) on=true:=by rw[fitsF_eq] at hf;simp[h8] at hf;rw[List.drop_one];exact hf.2
  rw[frN_eq,if_neg (by omega),if_pos h8,Nat.zero_add] at b2 b3 b4
  obtain⟨x0,hx0⟩:∃ x,e.subs[0]?=some x:=⟨_,List.getElem?_eq_getElem (by omega)⟩
  have hpr:(partsL (e.subs.drop 1)).length≤(partsL e.subs).length:=by
   generalize e.subs=l
   cases l with
   | nil=>simp
   | cons x l=>rw[partsL,List.length_append];simp
  have hc:=constX p.Enums x0 (sub_okE hok (List.mem_of_getElem? hx0))
  rw[plN_8 h8 hx0] at hK
  generalize constT p.Enums x0=cc at hc hK
  obtain⟨cv,ct,cok⟩:=cc
  dsimp only at hK
  refine acallK_of_vc tabOK Tryz.func105 (by kernel_rfl) rfl (n:=142) rfl (rs:=[.cell 6 53]) rfl ?_
  repeat' first
   | simp only[go_sem]
   | refine brK_dec (fun _=>?_) (fun _=>?_)
   | (exfalso;omega)
  refine drawK mo (by kernel_rfl) ?_
  simp only[go_sem]
  refine elemHave (x:=x0) (by omega) (by simpa using hx0) ?_
  simp only[go_sem]
  refine pcK_of hc ?_
  simp only[go_sem]
  refine And.intro (by omega) ?_
  refine hE8 A y z _ c5 c6 c7 fst on st _ hs hfL ⟨by omega,by omega,by omega,by omega⟩ fun r1=>?_
  generalize eaN p k fst (e.subs.drop 1) on st=G at hK ⊢
  obtain⟨ats,st1⟩:=G
  dsimp only at hK ⊢
  simp only[go_sem]
  exact finKw (r:=({ plain0 5 0 ats with Init:=cv }:DPlain).enc) (by simp only[go_sem];rfl) (by rw[DPlain.enc_eq];exact Weak.aggs ⟨.refl _,.nil _,.refl _,.refl _,.refl _,.refl _,.refl _,.refl _,.refl _,.nil _,trivial⟩) (hK _)
 by_cases h10:e.kind=10
 ·
  have hfL:fitsL (rowN p.Enums n) p.Enums e.subs on=true:=by rw[fitsF_eq] at hf;simpa[h10] using hf
  rw[frN_eq,if_neg (by omega),if_neg (by omega),Nat.zero_add] at b2 b3 b4
  rw[plN_10 h10] at hK
  have hof:=OfXk p (k:Int) e hty hp0 hok
  have htn:tyN p (k:Int) e=(ofN p (k:Int) e).1:=rfl
  rw[htn] at hK
  generalize ofN p (k:Int) e=O at hof hK
  obtain⟨t,ok⟩:=O
  dsimp only at hK
  have hz:=zero143 t
  generalize List.replicate (cellsZ t) (0:Int)=cv at hz hK
  refine acallK_of_vc tabOK Tryz.func105 (by kernel_rfl) rfl (n:=142) rfl (rs:=[.cell 6 53]) rfl ?_
  repeat' first
   | simp only[go_sem]
   | refine brK_dec (fun _=>?_) (fun _=>?_)
   | (exfalso;omega)
  refine drawK mo (by kernel_rfl) ?_
  simp only[go_sem]
  refine pcK_of hof ?_
  simp only[go_sem]
  refine drawM [A.length,A.length+(r.length+1+1+1+1+1+1)] (.pur 0 (.pur 1 (.pur 2 (.pur 3 (.pur 4 (.pur 5 (.eff 6 (.pur 7 (.eff 8 .nil))))))))) mo (by kernel_rfl) ?_
  simp only[go_sem]
  refine pcK_of hz ?_
  simp only[go_sem]
  refine hE A y z _ c5 c6 c7 fst on st _ hs hfL ⟨by omega,by omega,by omega,by omega⟩ fun r1=>?_
  generalize eaN p k fst e.subs on st=G at hK ⊢
  obtain⟨ats,st1⟩:=G
  dsimp only at hK ⊢
  simp only[go_sem]
  exact finKw (r:=({ plain0 5 0 ats with Init:=cv }:DPlain).enc) (by simp only[go_sem];rfl) (by rw[DPlain.enc_eq];exact Weak.aggs ⟨.refl _,.nil _,.refl _,.refl _,.refl _,.refl _,.refl _,.refl _,.refl _,.nil _,trivial⟩) (hK _)
 by_cases h9:e.kind=9
 ·
  rw[frN_eq,if_pos h9,if_neg (by omega)] at b2 b3 b4
  have hfL:fitsL (rowN p.Enums n) p.Enums e.subs on=true:=by rw[fitsF_eq] at hf;simpa[h9] using hf
  rw[plN_9 h9] at hK
  have g:=grewN.fresh (nmN fst) { plain0 5 0 [noAtom] with Init:=[1] } tyB on st
  have hNm:(freshN (nmN fst) { plain0 5 0 [noAtom] with Init:=[1] } tyB on st).1=⟨nmN fst (st.k+1),0⟩:=rfl
  have hem:=fun r K=>emitF67 (A:=A) (r:=r) (y:=y) (z:=z) (p:=p) (k:=(k:Int)) (c5:=c5) (c6:=c6) (c7:=c7) (fst:=fst) (K:=K) (st:=st) { plain0 5 0 [noAtom] with Init:=[1] } tyB on hs (by omega) (by omega) (by omega)
  rw[hNm] at hK
  generalize (freshN (nmN fst) { plain0 5 0 [noAtom] with Init:=[1] } tyB on st).2=st1 at hem hK g
  obtain⟨g1,g2,g3⟩:=g
  refine acallK_of_vc tabOK Tryz.func105 (by kernel_rfl) rfl (n:=142) rfl (rs:=[.cell 6 53]) rfl ?_
  repeat' first
   | simp only[go_sem]
   | refine brK_dec (fun _=>?_) (fun _=>?_)
   | (exfalso;omega)
  refine ACall.weakA (args:=[.ptr A.length 0,({ plain0 5 0 [noAtom] with Init:=[1] }:DPlain).enc,.lst 1 [] none,tyB.enc,.lst 2 (on.map DCond.enc) none]) ⟨.refl _,by
   rw[DPlain.enc_eq]
   exact Weak.aggs ⟨.refl _,.nil _,.refl _,by
    show Weak _ (.lst 2 [noAtom.enc] none)
    rw[DAtom.enc_eq]
    exact .tok _ _ _,.tok _ _ _,.refl _,.refl _,.refl _,.refl _,.nil _,trivial⟩,.nil _,by rw[DTy.enc_eq];exact .refl _,.refl _,trivial⟩ ?_
  refine hem _ _ fun r2=>?_
  simp only[go_sem]
  refine hE A y z _ c5 c6 c7 fst on st1 _ hs hfL ⟨by omega,by omega,by omega,by omega⟩ fun r3=>?_
  have hlen:(eaN p k fst e.subs on st1).1.length=e.subs.length:=eachN_len _ _ _ _ _ _ _ _
  generalize eaN p k fst e.subs on st1=G at hK hlen ⊢
  obtain⟨ats,st2⟩:=G
  dsimp only at hK hlen ⊢
  simp only[go_sem]
  refine And.intro (by first|omega|(simp;done)|(simp;omega)) ?_
  refine finKw (r:=(plain0 4 0 (⟨nmN fst (st.k+1),0⟩::ats)).enc) (by simp only[go_sem];rfl) ?_ (hK _)
  rw[DPlain.enc_eq]
  show Weak _ (.agg [.i 4,_,_,.lst 2 ((⟨nmN fst (st.k+1),0⟩:DAtom).enc::ats.map DAtom.enc) none,_,_,_,_,_,_])
  rw[DAtom.enc_eq]
  exact Weak.aggs ⟨.refl _,.nil _,.refl _,.tok _ _ _,.nil _,.refl _,.refl _,.refl _,.refl _,.nil _,trivial⟩
 by_cases h11:e.kind=11
 ·
  rw[fitsF_eq] at hf
  simp[h11] at hf
  obtain⟨⟨⟨⟨⟨_,_⟩,hrow⟩,_⟩,hon⟩,hfL⟩:=hf
  have hon:=eqB_t hon
  have hdl:on.dropLast=(rowN p.Enums n e.name).1:=by
   conv=>lhs;rw[hon]
   simp
  rw[← hdl] at hfL
  obtain⟨m,hm⟩:∃ m,on.length=m+1:=⟨on.length-1,by
   have:=congrArg List.length hon
   simp at this
   omega⟩
  have hw:IntKind.i64.wrap ((on.length:Int)-1)=(m:Int):=by rw[hm,wrap_in _ (by omega) (by omega)];omega
  have hdt:on.take m=on.dropLast:=by rw[List.dropLast_eq_take,hm];rfl
  rw[frN_eq,if_neg (by omega),if_neg (by omega),Nat.zero_add] at b2 b3 b4
  rw[plN_11 h11] at hK
  have hdll:on.dropLast.length≤on.length:=by rw[List.length_dropLast];omega
  have hE1:=fun r K=>hE A y z r c5 c6 c7 fst on.dropLast st K hs hfL ⟨by omega,by omega,by omega,by omega⟩
  rw[← hdt] at hE1 hK
  refine acallK_of_vc tabOK Tryz.func105 (by kernel_rfl) rfl (n:=142) rfl (rs:=[.cell 6 53]) rfl ?_
  repeat' first
   | simp only[go_sem]
   | refine brK_dec (fun _=>?_) (fun _=>?_)
   | (exfalso;omega)
  refine drawM [A.length,A.length+(r.length+1+1+1+1+1+1)] (.pur 0 (.pur 1 (.pur 2 (.pur 3 (.pur 4 (.pur 5 (.pur 6 (.pur 7 (.eff 8 (.pur 9 (.eff 10 .nil))))))))))) mo (by kernel_rfl) ?_
  simp only[go_sem,hw,Int.toNat_natCast]
  refine And.intro (by omega) ?_
  refine hE1 _ _ fun r1=>?_
  generalize eaN p k fst e.subs (on.take m) st=G at hK ⊢
  obtain⟨ats,st1⟩:=G
  dsimp only at hK ⊢
  simp only[go_sem]
  refine finKw (r:=(plain0 1 0 ats).enc) (by simp only[go_sem];rfl) ?_ (hK _)
  rw[DPlain.enc_eq]
  exact Weak.aggs ⟨.refl _,.nil _,.refl _,.refl _,.nil _,.refl _,.refl _,.refl _,.refl _,.nil _,trivial⟩
 have h12:e.kind=12:=by omega
 have hal:e.arms.length=e.subs.length:=by
  have:(subsE e).1=e.arms.length∧(subsE e).2=e.arms.length:=by simp[subsE,h12]
  omega
 rw[frN_eq,if_neg (by omega),if_neg (by omega),Nat.zero_add] at b2 b3 b4
 have hfM:fitsM (rowN p.Enums n) p.Enums e.name e.arms e.subs on=true:=by rw[fitsF_eq] at hf;simp[h12] at hf;exact hf.2
 rw[plN_12 h12] at hK
 have hlen:∀ i,(meN p k fst e.name (e.arms.take i) (e.subs.take i) on st).1.length=(e.subs.take i).length:=fun i=>meN_len (by rw[List.length_take,List.length_take,hal])
 refine acallK_of_vc tabOK Tryz.func105 (by kernel_rfl) rfl (n:=142) rfl (rs:=[.cell 6 53]) rfl ?_
 repeat' first
  | simp only[go_sem]
  | refine brK_dec (fun _=>?_) (fun _=>?_)
  | (exfalso;omega)
 refine loop_fr [13,14,15,16,17,103,104,105,106,107,108,109,110,111,112,113,114,115,116,117,118,119,120,121,122,123,124,125,126,127,128,129,130,131,132,133,134,135,136,137,138,139] (fun mm C hh=>∃(i:Nat) (r':List Blk),i≤e.subs.length∧mm=e.subs.length-i ∧
  C=[(14,.raw (.int .i64 (i:Nat))),(13,.lst 2 (((⟨e.name,0⟩:DAtom)::(meN p k fst e.name (e.arms.take i) (e.subs.take i) on st).1).map DAtom.enc) (some (A.length+(r.length+2+1+1+1+1+1))))] ∧
  hh=HX A y z p (k:Int) c5 c6 c7 (meN p k fst e.name (e.arms.take i) (e.subs.take i) on st).2 fst (r++.cells 72 [.i e.kind,.i e.n,.s e.name,.i e.op,.lst 1 (e.arms.map AV.s) none,.lst 6 (e.subs.map Ex.enc) none]::.cells 53 [.i 0,.raw (.slice none 0 0),.i 0,.raw (.slice none 0 0),.raw (.slice none 0 0),.i 0,.b false,.s ⟨#[]⟩,.i 0,.raw (.slice none 0 0)]::.tok 51 2 ((meN p k fst e.name (e.arms.take i) (e.subs.take i) on st).1.length+1)::r')) e.subs.length _
  ⟨0,[],by omega,by omega,rfl,by rw[List.take_zero,List.take_zero,meN_nil];rfl⟩ (.cons rfl (.cons (by rw[List.take_zero,List.take_zero,meN_nil,List.map_cons,DAtom.enc_eq];rfl) .nil)) ?_
 rintro mm C j hh ⟨i,r',hi,rfl,rfl,rfl⟩
 simp only[go_sem]
 intro _
 refine brK_dec (fun hlt=>?_) (fun hge=>?_)
 ·
  obtain⟨c,hcq⟩:∃ c,e.arms[i]?=some c:=⟨_,List.getElem?_eq_getElem (by omega)⟩
  obtain⟨x,hq⟩:∃ x,e.subs[i]?=some x:=⟨_,List.getElem?_eq_getElem (by omega)⟩
  have hxm:=List.mem_of_getElem? hq
  have hfx:fitsF (rowN p.Enums n) p.Enums x (on++[⟨e.name,vaN p c⟩])=true:=(fitsM_at hfM hcq hq).2
  have g:grewN st (meN p k fst e.name (e.arms.take i) (e.subs.take i) on st).2 (frL (e.subs.take i)) :=
   merge_grew_of (nmN fst) (tyN p (k:Int)) (cnN p) (vaN p) (fiN p) (fun y hy=>plain_grew (nmN fst) (tyN p (k:Int)) (cnN p) (vaN p) (fiN p) y (hp y (List.mem_of_mem_take hy))) e.name _ (by rw[List.length_take,List.length_take,hal]) on st
  have hfr:=frL_at hq
  have hpl:=partsL_in hxm
  have hll:=hlen i
  have hnx:=meN_next (p:=p) (k:=k) (fst:=fst) (m:=e.name) (on:=on) (st:=st) hal hcq hq
  have hva:vaN p c=(armF p.Enums c).2.1:=rfl
  have hc:=arm91 p.Enums c
  have h1:=fun st1 (h:grewN st st1 (frL (e.subs.take i))) r K=>hx x hxm A y z r c5 c6 c7 fst (on++[⟨e.name,vaN p c⟩]) st1 K hs hfx ⟨by rw[List.length_append,List.length_singleton];omega,by have:=h.1;omega,by have:=h.2.1;omega,by have:=h.2.2;omega⟩
  rw[hva] at h1 hnx
  generalize armF p.Enums c=q at hc h1 hnx
  obtain⟨qt,v,qok⟩:=q
  dsimp only at h1 hnx
  have hwh:=when134 on e.name v (by omega)
  generalize meN p k fst e.name (e.arms.take i) (e.subs.take i) on st=R at g hll hnx ⊢
  obtain⟨as1,st1⟩:=R
  dsimp only at g hll hnx
  have h1:=h1 st1 g
  rw[List.length_take] at hll
  generalize atN p k fst x (on++[⟨e.name,v⟩]) st1=AA at hnx h1
  obtain⟨a,st2⟩:=AA
  dsimp only at hnx h1
  simp only[go_sem]
  refine drawK mo (by kernel_rfl) ?_
  simp only[go_sem]
  refine elemHave (x:=c) (by omega) (by simpa using hcq) ?_
  simp only[go_sem]
  refine pcK_of hc ?_
  simp only[go_sem]
  refine drawM [A.length] (.pur 0 (.pur 1 (.pur 2 (.pur 3 (.pur 4 (.pur 5 (.pur 6 (.pur 7 (.pur 8 (.pur 9 (.pur 10 (.pur 11 (.eff 12 (.eff 13 (.eff 14 (.pur 15 .nil)))))))))))))))) mo (by kernel_rfl) ?_
  simp only[go_sem]
  refine elemHave (x:=x) (by omega) (by simpa using hq) ?_
  simp only[go_sem]
  refine pcK_of hwh ?_
  repeat' first
   | simp only[go_sem]
   | (refine h1 _ _ fun r2=>?_)
   | refine And.intro (by first|omega|(simp;done)|(simp;omega)) ?_
   | exact loopFr _ (by omega) ⟨i+1,_,by omega,rfl,rfl,by rw[hnx];simp;rfl⟩ (.next rfl (by omega) (.cons (by rw[hnx];simp) .nil)) rfl
 ·
  rw[List.take_of_length_le (by omega),List.take_of_length_le (by omega)]
  simp only[go_sem]
  refine finKw (r:=(plain0 6 0 (⟨e.name,0⟩::(meN p k fst e.name e.arms e.subs on st).1)).enc) (by simp only[go_sem];rfl) ?_ (hK _)
  rw[DPlain.enc_eq]
  exact Weak.aggs ⟨.refl _,.nil _,.refl _,.tok _ _ _,.nil _,.refl _,.refl _,.refl _,.refl _,.nil _,trivial⟩
end
end
section
section
variable {p:DProg} {k:Nat} {n:DNode}
set_option maxHeartbeats 8000000 in
theorem plainX65 (hty:∀ n∈p.Nodes,tyOK p n) (e:Ex):(∀ y∈parts e,partE y=true)→okE e→PlX p k n 65 e:=by
 induction e using Ex.ind with
 | _ e ih =>
 intro hp hok
 have hps:∀ x∈e.subs,∀ y∈parts x,partE y=true:=fun x hx=>sub_ok hp hx
 have hx:∀ x∈e.subs,AtX p k n x:=fun x hx=>atX_of hty (hps x hx) (sub_okE hok hx) (ih x hx (hps x hx) (sub_okE hok hx))
 have hsl:=subs_le hok
 obtain⟨hk,hlo,hhi,ha11,ha12,hn13⟩:=part_facts (hp e (self_parts e))
 have hE:EachX p k n e.subs:=eachX_of (by omega) hx hps
 intro A y z r c5 c6 c7 fst on st K hs hf hb hK
 have hb0:=hb
 obtain⟨b1,b2,b3,b4⟩:=hb
 have b1':=b1
 rw[parts_lenC] at b1'
 by_cases hA:e.kind=5∨e.kind=6∨e.kind=7∨e.kind=14∨e.kind=15∨e.kind=16
 ·
  have hfL:fitsL (rowN p.Enums n) p.Enums e.subs on=true:=by rw[fitsF_eq] at hf;rcases hA with h|h|h|h|h|h<;>simpa[h] using hf
  rw[frN_eq,if_neg (by omega),if_neg (by omega),Nat.zero_add] at b2 b3 b4
  have hop:¬ e.kind=5→¬ e.kind=6→e.op=0:=fun h5 h6=>by
   have hpe:=hp e (self_parts e)
   unfold partE numbersE at hpe
   rw[if_neg h5,if_neg h6] at hpe
   simp only[Bool.and_eq_true,decide_eq_true_eq] at hpe
   exact hpe.1.1.1.1.1.2.1
  rw[plN_k hA] at hK
  have hE1:=fun r K=>hE A y z r c5 c6 c7 fst on st K hs hfL ⟨by omega,by omega,by omega,by omega⟩
  generalize eaN p k fst e.subs on st=G at hK hE1
  obtain⟨ats,st1⟩:=G
  dsimp only at hK hE1
  have hkn:kindN e.kind=if e.kind=5 then 2 else if e.kind=6 then 3 else if e.kind=7 then 4 else if e.kind=14 then 8 else if e.kind=15 then 9 else 10:=by
   unfold kindN
   rcases hA with h|h|h|h|h|h<;>simp[h]
  refine acallK_of_vc tabOK Tryz.func65 (by kernel_rfl) rfl (n:=83) rfl (rs:=[.cell 6 53]) rfl ?_
  by_cases h5:e.kind=5
  ·
   rw[hkn,if_pos h5] at hK
   repeat' first
    | simp only[go_sem]
    | refine brK_dec (fun _=>?_) (fun _=>?_)
    | (exfalso;omega)
   refine drawM [A.length,A.length+(r.length+1+1+1+1+1+1)] (.pur 0 (.pur 1 (.pur 2 (.pur 3 (.pur 4 (.pur 5 (.eff 6 (.pur 7 (.eff 8 .nil))))))))) mo (by kernel_rfl) ?_
   simp only[go_sem]
   refine hE1 _ _ fun r1=>?_
   simp only[go_sem]
   refine finKw (r:=(plain0 2 e.op ats).enc) (by simp only[go_sem];rfl) ?_ (hK _)
   rw[DPlain.enc_eq]
   exact Weak.aggs ⟨.refl _,.nil _,.refl _,.refl _,.nil _,.refl _,.refl _,.refl _,.refl _,.nil _,trivial⟩
  by_cases h6:e.kind=6
  ·
   rw[hkn,if_neg h5,if_pos h6] at hK
   repeat' first
    | simp only[go_sem]
    | refine brK_dec (fun _=>?_) (fun _=>?_)
    | (exfalso;omega)
   refine drawM [A.length,A.length+(r.length+1+1+1+1+1+1)] (.pur 0 (.pur 1 (.pur 2 (.pur 3 (.pur 4 (.pur 5 (.eff 6 (.pur 7 (.eff 8 .nil))))))))) mo (by kernel_rfl) ?_
   simp only[go_sem]
   refine hE1 _ _ fun r1=>?_
   simp only[go_sem]
   refine finKw (r:=(plain0 3 e.op ats).enc) (by simp only[go_sem];rfl) ?_ (hK _)
   rw[DPlain.enc_eq]
   exact Weak.aggs ⟨.refl _,.nil _,.refl _,.refl _,.nil _,.refl _,.refl _,.refl _,.refl _,.nil _,trivial⟩
  rw[hop h5 h6,hkn,if_neg h5,if_neg h6] at hK
  clear hkn
  repeat' first
   | simp only[go_sem]
   | refine brK_dec (fun _=>?_) (fun _=>?_)
   | (exfalso;omega)
   | refine hE1 _ _ fun r1=>?_
   | (refine finKw (r:=(plain0 4 0 ats).enc) (by simp only[go_sem];rfl) ?_ (by rw[if_pos (by omega)] at hK;exact hK _);rw[DPlain.enc_eq];exact Weak.aggs ⟨.refl _,.nil _,.refl _,.refl _,.nil _,.refl _,.refl _,.refl _,.refl _,.nil _,trivial⟩)
   | (refine finKw (r:=(plain0 8 0 ats).enc) (by simp only[go_sem];rfl) ?_ (by rw[if_neg (by omega),if_pos (by omega)] at hK;exact hK _);rw[DPlain.enc_eq];exact Weak.aggs ⟨.refl _,.nil _,.refl _,.refl _,.nil _,.refl _,.refl _,.refl _,.refl _,.nil _,trivial⟩)
   | (refine finKw (r:=(plain0 9 0 ats).enc) (by simp only[go_sem];rfl) ?_ (by rw[if_neg (by omega),if_neg (by omega),if_pos (by omega)] at hK;exact hK _);rw[DPlain.enc_eq];exact Weak.aggs ⟨.refl _,.nil _,.refl _,.refl _,.nil _,.refl _,.refl _,.refl _,.refl _,.nil _,trivial⟩)
   | (refine finKw (r:=(plain0 10 0 ats).enc) (by simp only[go_sem];rfl) ?_ (by rw[if_neg (by omega),if_neg (by omega),if_neg (by omega)] at hK;exact hK _);rw[DPlain.enc_eq];exact Weak.aggs ⟨.refl _,.nil _,.refl _,.refl _,.nil _,.refl _,.refl _,.refl _,.refl _,.nil _,trivial⟩)
 by_cases hB:e.kind=8∨e.kind=9∨e.kind=10∨e.kind=11∨e.kind=12
 ·
  have hC:=flowX105 (p:=p) (k:=k) (n:=n) hty hB hp hok hps hx A y z
  refine acallK_of_vc tabOK Tryz.func65 (by kernel_rfl) rfl (n:=83) rfl (rs:=[.cell 6 53]) rfl ?_
  repeat' first
   | simp only[go_sem]
   | refine brK_dec (fun _=>?_) (fun _=>?_)
   | (exfalso;omega)
   | (refine hC _ c5 c6 c7 fst on st _ hs hf hb0 fun r1=>?_)
   | exact finKw (r:=(plN p k fst e on st).1.enc) (by simp only[go_sem];rfl) (by rw[DPlain.enc_eq];exact .refl _) (hK _)
 by_cases h13:e.kind=13
 ·
  have hsn:e.n≤e.subs.length:=by
   have:(subsE e).1=e.n:=by simp[subsE,h13]
   omega
  have hC:=callX104 (p:=p) (k:=k) (n:=n) h13 (hn13 h13) hsn hps hx A y z
  refine acallK_of_vc tabOK Tryz.func65 (by kernel_rfl) rfl (n:=83) rfl (rs:=[.cell 6 53]) rfl ?_
  repeat' first
   | simp only[go_sem]
   | refine brK_dec (fun _=>?_) (fun _=>?_)
   | (exfalso;omega)
   | (refine hC _ c5 c6 c7 fst on st _ hs hf hb0 fun r1=>?_)
   | exact finKw (r:=(plN p k fst e on st).1.enc) (by simp only[go_sem];rfl) (by rw[DPlain.enc_eq];exact .refl _) (hK _)
 by_cases h17:e.kind=17
 ·
  rw[fitsF_eq] at hf
  simp[h17] at hf
 have hlf:leafK e.kind=true:=by unfold leafK;exact decide_eq_true (by omega)
 have hsz:e.subs=[]:=by
  have:(subsE e).2=0:=by
   unfold subsE
   rw[if_neg (by omega),if_neg (by omega),if_neg (by omega),if_neg (by omega),if_neg (by omega),if_neg (by omega)]
  exact List.length_eq_zero_iff.1 (by omega)
 have hA1:=atX_leaf (p:=p) (k:=k) (n:=n) hlf A y z
 have hg:gN e=0:=by unfold gN;rw[if_pos hlf]
 rw[plN_leaf hlf hsz] at hK
 refine acallK_of_vc tabOK Tryz.func65 (by kernel_rfl) rfl (n:=83) rfl (rs:=[.cell 6 53]) rfl ?_
 repeat' first
  | simp only[go_sem]
  | refine brK_dec (fun _=>?_) (fun _=>?_)
  | (exfalso;omega)
 refine hA1 _ c5 c6 c7 fst on st _ hs hf ⟨by omega,by omega,by omega,by omega⟩ fun r1=>?_
 generalize atN p k fst e on st=AA at hK ⊢
 obtain⟨a,st1⟩:=AA
 dsimp only at hK ⊢
 simp only[go_sem]
 refine finKw (r:=(plain0 1 0 [a]).enc) (by simp only[go_sem];rfl) ?_ (hK _)
 rw[DPlain.enc_eq]
 exact Weak.aggs ⟨.refl _,.nil _,.refl _,.tok _ _ _,.nil _,.refl _,.refl _,.refl _,.refl _,.nil _,trivial⟩
end
end
section
section
variable {A r:List Blk} {p:DProg} {k:Int} {fst:ByteArray} {m:Nat} {c5 c6 c7 c8 c9:AV} {K:AV→List Blk→Prop}
theorem varsX34 (l:List DDecl) (hl:l.length≤100000) (hn:∀ n∈p.Nodes,(allV n).length≤4294967296)
  (hK:K (.lst 5 ((l.map (varNm p k)).map DVar.enc) (some (A.length+(r.length+1)))) (A++nB p k fst m c5 c6 c7 c8 c9::(r++[.tok 45 5 l.length]))) :
  ACall Tryz.prog 34 [.ptr A.length 0,.lst 6 (l.map DDecl.enc) none] (A++nB p k fst m c5 c6 c7 c8 c9::r) K:=by
 refine acallT_of_vc tabOK Tryz.func34 (by kernel_rfl) rfl (n:=49) rfl (rs:=[.tmp 4]) rfl (e:=45) (sz:=5) (l:=(l.map (varNm p k)).map DVar.enc) ?_
 simp only[go_sem]
 refine loop_fr [5,6,7,8,10,11,12,13,14,15,16,17,18,19,20,21,22,23,24,25,26,27,28,29,30,31,32,33,34,35,36,37,38,39,40,41,42,43,44,45,46,47] (fun mm C hh=>∃(i:Nat) (r':List Blk),i≤l.length∧mm=l.length-i∧C=[(6,.raw (.int .i64 (i:Nat))),(5,.lst 5 (((l.take i).map (varNm p k)).map DVar.enc) (some (A.length+(r.length+1))))] ∧
  hh=A++nB p k fst m c5 c6 c7 c8 c9::(r++.tok 45 5 i::r')) l.length _ ⟨0,[],by omega,by omega,rfl,rfl⟩ (.cons rfl (.cons rfl .nil)) ?_
 rintro mm C j hh ⟨i,r',hi,rfl,rfl,rfl⟩
 simp only[go_sem]
 intro _
 refine brK_dec (fun hlt=>?_) (fun hge=>?_)
 ·
  obtain⟨d,hd⟩:∃ d,l[i]?=some d:=⟨_,List.getElem?_eq_getElem (by omega)⟩
  have hnx:((l.take (i+1)).map (varNm p k)).map DVar.enc=((l.take i).map (varNm p k)).map DVar.enc++[(varNm p k d).enc]:=by
   rw[List.take_add_one,hd]
   simp
  have hrow:=row46 p k d.Name hn
  have hvn:varNm p k d=⟨d.Name,d.Ty,(rowF p k d.Name).1⟩:=rfl
  rw[hvn] at hnx
  generalize rowF p k d.Name=q at hrow hnx
  obtain⟨ql,qok⟩:=q
  dsimp only at hnx
  simp only[go_sem]
  refine drawK mo (by kernel_rfl) ?_
  simp only[go_sem]
  refine elemHave (x:=d) (by omega) (by simpa using hd) ?_
  simp only[go_sem]
  refine pcK_of hrow ?_
  simp only[go_sem]
  refine drawK mo (by kernel_rfl) ?_
  simp only[go_sem]
  refine elemHave (x:=d) (by omega) (by simpa using hd) ?_
  simp only[go_sem]
  refine elemHave (x:=d) (by omega) (by simpa using hd) ?_
  simp only[go_sem]
  refine And.intro (by first|omega|(simp;done)|(simp;omega)) ?_
  exact loopFr _ (by omega) ⟨i+1,_,by omega,rfl,rfl,by simp;exact⟨by omega,rfl⟩⟩ (.next rfl (by omega) (.cons (by rw[hnx,DVar.enc_eq];rfl) .nil)) rfl
 ·
  rw[List.take_of_length_le (by omega)]
  obtain rfl:i=l.length:=by omega
  simp only[go_sem]
  have hh:(A++nB p k fst m c5 c6 c7 c8 c9::r).length=A.length+(r.length+1):=by simp
  have hap:A++nB p k fst m c5 c6 c7 c8 c9::(r++.tok 45 5 l.length::r')=(A++nB p k fst m c5 c6 c7 c8 c9::r)++(.tok 45 5 l.length::r'):=by simp
  rw[hap]
  refine finTh (k:=A.length+(r.length+1)) (n:=l.length) rfl rfl (by omega) (by rw[← hh,at_app0];rfl) (by simp) (lst_flat (DVar.pures _)) ?_
  rw[hh]
  simpa using hK
end
section
variable {p:DProg} {k:Nat} {n:DNode}
theorem apartN {e:Ex} (h:PlX p k n 65 e) {A r:List Blk} {y z:Blk} {c5 c6 c7:AV} {fst:ByteArray} {on:List DCond} {st:NmSt} {K:AV→List Blk→Prop} (hp:∀ y∈parts e,partE y=true) {s:ByteArray} {rest:List ByteArray} (hr:rest.length≤1000)
  (hs:fst.size≤1000) (hf:fitsF (rowN p.Enums n) p.Enums e on=true) (hb:bnd on st (parts e).length (frN e))
  (hK:∀ r',K (.s s) (HX A y z p (k:Int) c5 c6 c7 ⟨(plN p k fst e on st).2.vars,(plN p k fst e on st).2.eqs++[{ (plN p k fst e on st).1 with Names:=s::rest,On:=on }],(plN p k fst e on st).2.k⟩ fst (r++r'))) :
  ACall Tryz.prog 36 [.ptr A.length 0,e.enc,.lst 1 ((s::rest).map AV.s) none,.lst 2 (on.map DCond.enc) none] (HX A y z p (k:Int) c5 c6 c7 st fst r) K:=by
 have g:grewN st (plN p k fst e on st).2 (frN e):=plain_grew (nmN fst) (tyN p (k:Int)) (cnN p) (vaN p) (fiN p) e hp on st
 have h1:=fun r K=>h A y z r c5 c6 c7 fst on st K hs hf hb
 obtain⟨b1,b2,b3,b4⟩:=hb
 generalize plN p k fst e on st=R at h1 hK g
 obtain⟨q,st1⟩:=R
 obtain⟨g1,g2,g3⟩:=g
 dsimp only at h1 hK g1 g2 g3
 refine acallK_of_vc tabOK Tryz.func36 (by kernel_rfl) rfl (n:=38) rfl (rs:=[.tmp 8]) rfl ?_
 simp only[go_sem]
 refine h1 _ _ fun r1=>?_
 repeat' first
  | simp only[go_sem]
  | (intro _)
  | refine brK_dec (fun _=>?_) (fun _=>?_)
  | (exfalso;omega)
 refine ACall.weakA (args:=[.ptr A.length 0,q.enc,.lst 1 ((s::rest).map AV.s) none,(⟨0,0,0⟩:DTy).enc,.lst 2 (on.map DCond.enc) none]) ⟨.refl _,.refl _,.refl _,by rw[DTy.enc_eq];exact .refl _,.refl _,trivial⟩ ?_
 refine emitN67 q s rest ⟨0,0,0⟩ on hr (by omega) fun r2=>?_
 simp only[go_sem]
 exact finKw (r:=.s s) rfl (.refl _) (hK _)
end
end
theorem weakL_both:∀ {a b c d:List AV},WeakL a b→WeakL c d→WeakL (a++c) (b++d)
 | [],[],_,_,_,h=>h
 | _::_,_::_,_,_,h,h2=>⟨h.1,weakL_both h.2 h2⟩
 | [],_::_,_,_,h,_=>h.elim
 | _::_,[],_,_,h,_=>h.elim
set_option maxHeartbeats 8000000 in
theorem flowsX11 (p:DProg) (hp:okProg p):PCall Tryz.prog 11 [p.enc] (flowsA (normF p)):=by
 have hc:=startX p hp
 have hpl:=hp.2.1
 refine pcall_of_vc tabOK Tryz.func11 (by kernel_rfl) rfl (by first|exact pureL|exact pureI) (pure_flowsA _) (n:=109) rfl (rs:=[.cell 2 30,.tmp 3]) rfl ?_
 by_cases h0:(startF p).Err=0
 ·
  have hF:=(start_zero h0).1
  have hck:=(start_eqs h0).1
  have hty:=tyOK_of hp hck
  have hal:∀ n∈p.Nodes,(allV n).length≤4294967296:=fun n hn=>by have:=(hty n hn).1;omega
  have hew:=fun k n hn=>eqs_w h0 hp (k:=k) (n:=n) hn
  have hnl:=nodesNm_len p p.Nodes 0
  have hnn:=fun i n h=>nodesNm_next p (l:=p.Nodes) (i:=i) (n:=n) h
  rw[norm_ok h0]
  generalize startF p=F at hc hF
  generalize nodesNm p 0 p.Nodes=N at hnl hnn
  simp only[go_sem]
  refine PCall.call hc ?_
  simp only[go_sem]
  rw[fault_z]
  simp only[go_sem]
  refine brK_dec (fun h=>absurd hF h) (fun _=>?_)
  simp only[go_sem]
  refine loop_ghost (ghost_cell (t:=30) (cs:=[.lst 2 (p.Enums.map DEnum.enc) none,.raw (.slice none 0 0)]) 2 1 37 5 (by rfl) (by rfl)) ?_
  simp only[go_sem]
  refine loop_fr [5,6,7,8,9,10,19,20,21,22,23,24,25,26,27,28,29,30,31,32,33,34,35,36,37,38,39,40,41,42,43,44,45,46,47,48,49,50,51,52,53,54,55,56,57,58,59,60,61,62,63,64,65,66,67,68,69,70,71,72,73,74,75,76,77,78,79,80,81,82,83,84,85,86,87,88,89,90,91,92,93,94,95,96,97,98,99,100,101,102,103,104,105,106,107] (fun mm C hh=>∃(i:Nat) (fl:List AV) (r':List Blk),i≤p.Nodes.length∧mm=p.Nodes.length-i∧fl.length=i∧(∀ e∈fl,e.cells.length=5)∧WeakL (flat fl) (flat ((N.take i).map DFlow.enc))∧C=[(5,.raw (.int .i64 (i:Nat)))] ∧
   hh=.cells 25 [.lst 2 (p.Enums.map DEnum.enc) none,.lst 5 (p.Nodes.map DNode.enc) none]::.cells 30 [.raw (.slice none 0 0),.raw (.slice none 0 0)] ::
    .cells 30 [.lst 2 (p.Enums.map DEnum.enc) none,.lst 5 fl (some 3)]::.tok 37 5 fl.length::r') p.Nodes.length _ ⟨0,[],[],by omega,by omega,rfl,by simp,trivial,rfl,rfl⟩ (.cons rfl .nil) ?_
  rintro mm C j hh ⟨i,fl,r',hi,rfl,hfl,hfc,hfw,rfl,rfl⟩
  simp only[go_sem]
  intro _
  refine brK_dec (fun hlt=>?_) (fun hge=>?_)
  ·
   obtain⟨n,hn⟩:∃ n,p.Nodes[i]?=some n:=⟨_,List.getElem?_eq_getElem (by omega)⟩
   have hnm:=List.mem_of_getElem? hn
   have hno:=hp.2.2 n hnm
   have hi20:=hno.1.1
   have ho20:=hno.2.1.1
   have hv20:=hno.2.2.1.1
   have he30:=hno.2.2.2.1
   have hnx:=hnn i n hn
   have hewn:=hew i n hn
   have hel:=eqs_len hewn (n.Vars.map (varNm p (i:Int)))
   simp only[go_sem]
   refine elemHave (x:=n) (by omega) (by simpa using hn) ?_
   simp only[go_sem]
   have hPl:=fun e=>plainX65 (p:=p) (k:=i) (n:=n) hty e
   obtain⟨A,hA⟩:∃ A:List Blk,A=.cells 25 [.lst 2 (p.Enums.map DEnum.enc) none,.lst 5 (p.Nodes.map DNode.enc) none]::.cells 30 [.raw (.slice none 0 0),.raw (.slice none 0 0)] ::
    .cells 30 [.lst 2 (p.Enums.map DEnum.enc) none,.lst 5 fl (some 3)]::.tok 37 5 fl.length::(r'++[.cells 68 [.s n.Name,.lst 6 (n.Ins.map DDecl.enc) none,.lst 6 (n.Outs.map DDecl.enc) none,.lst 6 (n.Vars.map DDecl.enc) none,.lst 7 (n.Eqs.map DEq.enc) none]]):=⟨_,rfl⟩
   have hAl:r'.length+1+1+1+1+1=A.length:=by rw[hA];simp
   have hA0:∀ x:List Blk,(A++x)[0]?=some (.cells 25 [.lst 2 (p.Enums.map DEnum.enc) none,.lst 5 (p.Nodes.map DNode.enc) none]):=fun x=>by rw[hA];rfl
   have hAn:∀ x:List Blk,(A++x)[r'.length+1+1+1+1]?=some (.cells 68 [.s n.Name,.lst 6 (n.Ins.map DDecl.enc) none,.lst 6 (n.Outs.map DDecl.enc) none,.lst 6 (n.Vars.map DDecl.enc) none,.lst 7 (n.Eqs.map DEq.enc) none]):=fun x=>by rw[hA];simp
   have hheap:(.cells 25 [.lst 2 (p.Enums.map DEnum.enc) none,.lst 5 (p.Nodes.map DNode.enc) none]::.cells 30 [.raw (.slice none 0 0),.raw (.slice none 0 0)] ::
    .cells 30 [.lst 2 (p.Enums.map DEnum.enc) none,.lst 5 fl (some 3)]::.tok 37 5 fl.length::(r'++[.cells 68 [.s n.Name,.lst 6 (n.Ins.map DDecl.enc) none,.lst 6 (n.Outs.map DDecl.enc) none,.lst 6 (n.Vars.map DDecl.enc) none,.lst 7 (n.Eqs.map DEq.enc) none],.cells 85 [.lst 2 (p.Enums.map DEnum.enc) none,.lst 5 (p.Nodes.map DNode.enc) none,.i (i:Int),.s ⟨#[]⟩,.i 0,.s ⟨#[]⟩,.raw (.slice none 0 0),.raw (.slice none 0 0),.raw (.slice none 0 0),.raw (.slice none 0 0)]]):List Blk)=A++[nB p (i:Int) ⟨#[]⟩ 0 (.s ⟨#[]⟩) (.raw (.slice none 0 0)) (.raw (.slice none 0 0)) (.raw (.slice none 0 0)) (.raw (.slice none 0 0))]:=by rw[hA];simp
   rw[hAl]
   rw[hheap]
   clear hheap
   refine drawM [A.length] (.pur 0 (.pur 1 (.pur 2 (.pur 3 (.pur 4 (.pur 5 (.pur 7 (.pur 8 (.pur 9 (.pur 11 (.pur 12 (.pur 13 (.eff 6 (.eff 10 (.eff 14 (.pur 15 (.pur 16 (.pur 17 (.eff 18 .nil))))))))))))))))))) mo (by kernel_rfl) ?_
   simp only[go_sem,hA0,hAn]
   refine varsX34 (m:=0) n.Ins (by omega) hal ?_
   simp only[go_sem,hA0,hAn]
   refine varsX34 (m:=0) n.Outs (by omega) hal ?_
   simp only[go_sem,hA0,hAn]
   refine varsX34 (m:=0) n.Vars (by omega) hal ?_
   simp only[go_sem,hA0,hAn]
   refine loop_ghost (ghost_cell (t:=85) (cs:=[.lst 2 (p.Enums.map DEnum.enc) none,.lst 5 (p.Nodes.map DNode.enc) none,.i (i:Int),.s ⟨#[]⟩,.i ((0:Nat):Int),.s n.Name,.lst 5 ((n.Ins.map (varNm p (i:Int))).map DVar.enc) (some (A.length+1)),.lst 5 ((n.Outs.map (varNm p (i:Int))).map DVar.enc) (some (A.length+2)),.lst 5 ((n.Vars.map (varNm p (i:Int))).map DVar.enc) (some (A.length+3)),.raw (.slice none 0 0)]) A.length 9 53 10 (by rw[at_app0];rfl) (by rfl)) ?_
   simp only[go_sem,hA0,hAn]
   refine loop_fr [8,9,10,53,54,55,56,57,58,59,60,61,62,63,64,65,66,67,68,69,70,71,72,73,74,75,76,77,78,79,80,81,82,83,84,85,86,87,88,89,90,91,92,93,94,95,96,97,98] (fun mm C hh=>∃(k:Nat) (fs:ByteArray) (m:Nat) (B:List Blk),k≤n.Eqs.length∧mm=n.Eqs.length-k∧C=[(8,.raw (.int .i64 (k:Nat)))] ∧
    hh=A++nB p (i:Int) fs m (.s n.Name) (.lst 5 ((n.Ins.map (varNm p (i:Int))).map DVar.enc) (some (A.length+1))) (.lst 5 ((n.Outs.map (varNm p (i:Int))).map DVar.enc) (some (A.length+2))) (.lst 5 ((eqsNm p (i:Int) (n.Vars.map (varNm p (i:Int)),[]) (n.Eqs.take k)).1.map DVar.enc) (some (A.length+3))) (.lst 10 ((eqsNm p (i:Int) (n.Vars.map (varNm p (i:Int)),[]) (n.Eqs.take k)).2.map DPlain.enc) (some (A.length+4))) ::
     .tok 45 5 n.Ins.length::.tok 45 5 n.Outs.length::.tok 45 5 (eqsNm p (i:Int) (n.Vars.map (varNm p (i:Int)),[]) (n.Eqs.take k)).1.length::.tok 53 10 (eqsNm p (i:Int) (n.Vars.map (varNm p (i:Int)),[]) (n.Eqs.take k)).2.length::B) n.Eqs.length _ ⟨0,_,_,_,by omega,by omega,rfl,by simp[eqsNm];exact⟨⟨rfl,rfl⟩,rfl⟩⟩ (.cons rfl .nil) ?_
   rintro mm C j2 hh ⟨k,fs,m,B,hk,rfl,rfl,rfl⟩
   simp only[go_sem,hA0,hAn]
   intro _
   refine brK_dec (fun hlt2=>?_) (fun hge2=>?_)
   ·
    obtain⟨q,hq⟩:∃ q,n.Eqs[k]?=some q:=⟨_,List.getElem?_eq_getElem (by omega)⟩
    have hqm:=List.mem_of_getElem? hq
    have hw:=hewn q hqm
    obtain⟨s,rest,hqn⟩:=hw.fit.names
    have hsz:s.size≤100:=hw.ok.2.2 s (by rw[hqn];simp)
    have hnl:=hw.ok.1
    rw[hqn,List.length_cons] at hnl
    have hfit:=hw.fit.fits
    have hnx2:=eqsNm_next p (i:Int) (st:=(n.Vars.map (varNm p (i:Int)),[])) hq
    have hel1:=hel k hk
    have hfr:=fr_le hw.right
    have hpl60:(parts q.E).length≤60:=by
     have:=hw.right
     unfold rightE at this
     simp only[Bool.and_eq_true,decide_eq_true_eq] at this
     exact this.1.1
    have hon:=rowN_len p.Enums n s
    rw[← rowOn_w hn] at hon
    generalize eqsNm p (i:Int) (n.Vars.map (varNm p (i:Int)),[]) (n.Eqs.take k)=st at hnx2 hel1 ⊢
    rw[List.length_map] at hel1
    have hrow:=row46 p (i:Int) s hal
    have hP:=fun(A:List Blk) (r:List Blk) (y z:Blk) (c5 c6 c7:AV) K=>apartN (p:=p) (k:=i) (n:=n) (hPl q.E hw.fit.right hw.ok.2.1) (A:=A) (r:=r) (y:=y) (z:=z) (c5:=c5) (c6:=c6) (c7:=c7) (fst:=s) (on:=rowOn p (i:Int) s) (st:=⟨st.1,st.2,0⟩) (K:=K) hw.fit.right (s:=s) (rest:=rest) (by omega) (by omega) (by rw[rowOn_w hn];rw[hqn] at hfit;exact hfit) ⟨by omega,by dsimp only;omega,by dsimp only;omega,by dsimp only;omega⟩
    have hst:eqNm p (i:Int) st q=((plN p i s q.E (rowOn p (i:Int) s) ⟨st.1,st.2,0⟩).2.vars,(plN p i s q.E (rowOn p (i:Int) s) ⟨st.1,st.2,0⟩).2.eqs++[{ (plN p i s q.E (rowOn p (i:Int) s) ⟨st.1,st.2,0⟩).1 with Names:=s::rest,On:=rowOn p (i:Int) s }]):=by
     unfold eqNm eqPl
     rw[hqn]
     rfl
    rw[hst] at hnx2
    clear hst
    generalize plN p i s q.E (rowOn p (i:Int) s) ⟨st.1,st.2,0⟩=R at hP hnx2
    obtain⟨pq,st1⟩:=R
    dsimp only at hP hnx2
    have hro:rowOn p (i:Int) s=(rowF p (i:Int) s).1:=rfl
    rw[hro] at hP hnx2
    clear hro hon
    generalize rowF p (i:Int) s=rr at hrow hP hnx2
    obtain⟨rl,rok⟩:=rr
    dsimp only at hP hnx2
    simp only[go_sem,hA0,hAn]
    refine elemHave (x:=q) (by omega) (by simpa using hq) ?_
    simp only[go_sem,hA0,hAn]
    refine elemHave (x:=s) (by omega) (by rw[hqn];rfl) ?_
    simp only[go_sem,hA0,hAn]
    refine drawK mo (by kernel_rfl) ?_
    simp only[go_sem,hA0,hAn]
    refine pcK_of hrow ?_
    simp only[go_sem,hA0,hAn]
    refine drawM [A.length] (.pur 0 (.pur 1 (.pur 2 (.pur 3 (.pur 4 (.pur 5 (.pur 6 (.pur 7 (.pur 8 (.pur 9 (.pur 10 (.pur 11 (.pur 12 (.pur 13 (.eff 14 .nil))))))))))))))) mo (by kernel_rfl) ?_
    simp only[go_sem,hA0,hAn]
    refine elemHave (x:=q) (by omega) (by simpa using hq) ?_
    simp only[go_sem,hA0,hAn]
    refine elemHave (x:=q) (by omega) (by simpa using hq) ?_
    simp only[go_sem,hA0,hAn]
    refine ACall.weakA (args:=[.ptr A.length 0,q.E.enc,.lst 1 ((s::rest).map AV.s) none,.lst 2 (rl.map DCond.enc) none]) ⟨.refl _,.refl _,by rw[hqn];exact .refl _,.refl _,trivial⟩ ?_
    refine hP A _ _ _ _ _ _ _ fun r2=>?_
    simp only[go_sem,hA0,hAn]
    exact loopFr _ (by omega) ⟨k+1,_,_,_,by omega,rfl,rfl,by rw[hnx2]⟩ (.next rfl (by omega) .nil) rfl
   ·
    rw[List.take_of_length_le (by omega)]
    have hfN:flowNm p (i:Int) n=⟨n.Name,n.Ins.map (varNm p (i:Int)),n.Outs.map (varNm p (i:Int)),(eqsNm p (i:Int) (n.Vars.map (varNm p (i:Int)),[]) n.Eqs).1,(eqsNm p (i:Int) (n.Vars.map (varNm p (i:Int)),[]) n.Eqs).2⟩:=rfl
    rw[hfN] at hnx
    clear hA0 hAn hAl
    generalize eqsNm p (i:Int) (n.Vars.map (varNm p (i:Int)),[]) n.Eqs=S at hnx ⊢
    subst hA
    simp only[go_sem]
    refine drawZ mo (by kernel_rfl) rfl ?_
    simp only[List.dropLast_cons_cons,List.dropLast_singleton,List.getLast_cons_cons,List.getLast_singleton]
    simp only[go_sem]
    refine And.intro (by first|omega|(simp;done)|(simp;omega)) ?_
    exact loopFr _ (by omega) ⟨i+1,fl++[AV.agg [.s n.Name,.lst 5 ((n.Ins.map (varNm p (i:Int))).map DVar.enc) (some _),.lst 5 ((n.Outs.map (varNm p (i:Int))).map DVar.enc) (some _),.lst 5 (S.1.map DVar.enc) (some _),.lst 10 (S.2.map DPlain.enc) (some _)]],_,by omega,rfl,(by rw[List.length_append,hfl];rfl),
     (fun e he=>by
      rcases List.mem_append.1 he with he|he
      ·
       exact hfc e he
      ·
       rw[List.mem_singleton.1 he];rfl),(by
      rw[hnx,List.map_append,flat_append,flat_append]
      refine weakL_both hfw ?_
      simp only[List.map_cons,List.map_nil,flat,List.flatMap_cons,List.flatMap_nil,DFlow.enc_cells,cells_agg,List.append_nil]
      exact⟨.refl _,.tok _ _ _,.tok _ _ _,.tok _ _ _,.tok _ _ _,trivial⟩),rfl,(by rw[List.length_append];rfl)⟩ (.next rfl (by omega) .nil) rfl
  ·
   simp only[go_sem]
   refine⟨_,rfl,false,?_⟩
   show Weak _ (.tup [DFlows.enc _,.b true])
   rw[DFlows.enc_eq]
   refine Weak.tups2 ⟨Weak.aggs ⟨.refl _,?_,trivial⟩,.refl _,trivial⟩
   rw[List.take_of_length_le (by omega)] at hfw
   exact Weak.lsts (by rw[List.length_map];show fl.length=N.length;omega) (fun e he=>by obtain⟨x,_,rfl⟩:=List.mem_map.1 he;rw[DFlow.enc_cells];rfl) hfw
 ·
  rw[norm_no h0]
  generalize startF p=F at hc h0
  simp only[go_sem]
  refine PCall.call hc ?_
  simp only[go_sem]
  rw[fault_z]
  simp only[go_sem]
  refine brK_dec (fun _=>?_) (fun h=>absurd (by rw[Classical.not_not.1 h]) h0)
  ·
   simp only[go_sem]
   refine⟨_,rfl,false,?_⟩
   show Weak _ (.tup [DFlows.enc _,.b false])
   rw[DFlows.enc_eq]
   exact Weak.tups2 ⟨Weak.aggs ⟨.nil _,.nil _,trivial⟩,.refl _,trivial⟩
end Go.Proofs.YtpamokpmlplopaaGreatDoor
