/-
  NmW8, NmW9, NmP: put together.
-/
import Derived.Test.YtpamokpmlplopaaGreatDoorUniBc
namespace Go.Proofs.YtpamokpmlplopaaGreatDoor
open Go.Abs
set_option maxRecDepth 20000
set_option linter.unusedSimpArgs false
set_option linter.unusedVariables false
set_option maxHeartbeats 1000000
attribute [local irreducible] vc vcOps vcStep vcGuard prK hrK gK gsK brK callK ElemK SeqK BlockK ScopeK OpsK CallK LoopK LoopGo finPost ACall PCall PCallE BCall vqOps vqStep vqGuard qrK heK pcK gqK gqsK QOpsK qcallK DrawK
section
theorem finTh {T:TypeId→TI} {s:List AV} {rs:List ResultVar} {e:TypeId} {sz:Nat} {l l0:List AV} {k n:Nat} {h junk:List Blk} {KK:AV→List Blk→Prop} (hl:resAV T s (h++junk) rs=some [.lst sz l0 (some k)]) (hll:l0=l) (hkl:h.length≤k) (hk:(h++junk)[k]?=some (.tok e sz n)) (hn:n=l.length)
  (hb:∀ c∈flat l,Go.Abs.Pure c) (hK:KK (.lst sz l (some h.length)) (h++[.tok e sz l.length])):FinT T rs h e sz l KK s (h++junk):=by
 subst hll hn
 unfold FinT
 exact⟨h,junk,k,hl,rfl,Chg.refl _ _,hkl,hk,fun c hc=>Blw.pure (hb c hc),hK⟩
theorem lst_flat {sz:Nat} {l:List AV} (h:Go.Abs.Pure (.lst sz l none)):∀ c∈flat l,Go.Abs.Pure c:=by cases h with|lst _ _ h=>exact h
section
variable {a0 a1 a2:Blk} {r:List Blk} {p:DProg} {k:Int} {nx c4 c5 c6 c7 c8:AV} {K:AV→List Blk→Prop}
theorem vars58 (l:List DDecl) (hl:l.length≤100000) (hn:∀ n∈p.Nodes,(allV n).length≤4294967296)
  (hK:K (.lst 5 ((l.map (varNm p k)).map DVar.enc) (some (r.length+1+1+1+1))) (a0::a1::a2::apB p k nx c4 c5 c6 c7 c8::(r++[.tok 45 5 l.length]))) :
  ACall Tryz.prog 58 [.ptr 3 0,.lst 6 (l.map DDecl.enc) none] (a0::a1::a2::apB p k nx c4 c5 c6 c7 c8::r) K:=by
 refine acallT_of_vc tabOK Tryz.func58 (by kernel_rfl) rfl (n:=28) rfl (rs:=[.tmp 4]) rfl (e:=45) (sz:=5) (l:=(l.map (varNm p k)).map DVar.enc) ?_
 simp only[go_sem]
 intro _
 refine loop_ghost (ghost_tok 5 45 5 rfl) ?_
 simp only[go_sem]
 refine loop_fr [5,7,10,11,12,13,14,15,16,17,18,19,20,21,22,23,24,25,26] (fun mm C hh=>∃(i:Nat) (r':List Blk),i≤l.length∧mm=l.length-i∧C=[(10,.raw (.int .i64 (i:Nat))),(5,.lst 5 (((l.take i).map (varNm p k)).map DVar.enc) (some (r.length+1+1+1+1)))] ∧
  hh=a0::a1::a2::apB p k nx c4 c5 c6 c7 c8::(r++.tok 45 5 i::r')) l.length _ ⟨0,[],by omega,by omega,rfl,rfl⟩ (.cons rfl (.cons rfl .nil)) ?_
 rintro mm C j hh ⟨i,r',hi,rfl,rfl,rfl⟩
 simp only[go_sem]
 refine brK_dec (fun hlt=>?_) (fun hge=>?_)
 ·
  obtain⟨d,hd⟩:∃ d,l[i]?=some d:=⟨_,List.getElem?_eq_getElem (by omega)⟩
  have hnx:((l.take (i+1)).map (varNm p k)).map DVar.enc=((l.take i).map (varNm p k)).map DVar.enc++[(varNm p k d).enc]:=by
   rw[List.take_add_one,hd]
   simp
  simp only[go_sem]
  refine elemHave (x:=d) (by omega) (by simpa using hd) ?_
  simp only[go_sem]
  refine drawM [] (.pur 0 (.pur 1 (.pur 2 (.pur 3 (.pur 4 (.pur 5 (.pur 6 (.pur 7 (.eff 8 (.pur 9 (.eff 10 (.eff 11 (.pur 12 .nil))))))))))))) mo (by kernel_rfl) ?_
  simp only[go_sem]
  refine row60 d.Name hn ?_
  simp only[go_sem]
  refine And.intro (by first|omega|(simp;done)|(simp;omega)) ?_
  exact loopFr _ (by omega) ⟨i+1,_,by omega,rfl,rfl,by simp;exact⟨by omega,rfl⟩⟩ (.next rfl (by omega) (.cons (by rw[hnx,DVar.enc_eq];rfl) .nil)) rfl
 ·
  rw[List.take_of_length_le (by omega)]
  obtain rfl:i=l.length:=by omega
  simp only[go_sem]
  refine finTh (h:=a0::a1::a2::apB p k nx c4 c5 c6 c7 c8::r) (junk:=.tok 45 5 l.length::r') (k:=r.length+1+1+1+1) (n:=l.length) rfl rfl (by simp) (by simp) (by simp) (lst_flat (DVar.pures _)) ?_
  simpa using hK
end
end
theorem fr_le {e:Ex} (h:rightE e=true):frN e≤88:=by
 have hp:=right_parts h
 unfold rightE at h
 simp only[Bool.and_eq_true,decide_eq_true_eq] at h
 obtain⟨_,h2⟩:=gN_le e hp
 cases hl:leafK e.kind with
 | false=>have:=h2 hl;omega
 | true =>
  have hk:e.kind=1∨e.kind=2∨e.kind=3∨e.kind=4:=by unfold leafK at hl;exact of_decide_eq_true hl
  obtain⟨_,_,hhi,_⟩:=part_facts (hp e (self_parts e))
  have:(subsE e).2=0:=by
   unfold subsE
   rw[if_neg (by omega),if_neg (by omega),if_neg (by omega),if_neg (by omega),if_neg (by omega),if_neg (by omega)]
  have hs:e.subs=[]:=List.length_eq_zero_iff.1 (by omega)
  rw[frN_eq,hs,if_neg (by omega),if_neg (by omega),frL]
  omega
structure EqW (p:DProg) (k:Nat) (n:DNode) (q:DEq):Prop where
 fit:EqFit p k n q
 right:rightE q.E=true
 ok:okEq q
theorem eqs_w {p:DProg} (h:(startF p).Err=0) (hp:okProg p) {k:Nat} {n:DNode} (hn:p.Nodes[k]?=some n):∀ q∈n.Eqs,EqW p k n q:=by
 obtain⟨hck,hall⟩:=start_eqs h
 have hnm:=List.mem_of_getElem? hn
 exact fun q hq=>⟨(hall k n hn).2.2 q hq,(eqs_right hck hnm hq).2,(hp.2.2 n hnm).2.2.2.2.2 q hq⟩
theorem eqs_len {p:DProg} {k:Nat} {n:DNode} (h:∀ q∈n.Eqs,EqW p k n q) (v0:List DVar):∀ i,i≤n.Eqs.length→(eqsNm p (k:Int) (v0,[]) (n.Eqs.take i)).1.length≤v0.length+90 * i∧(eqsNm p (k:Int) (v0,[]) (n.Eqs.take i)).2.length≤90 * i
 | 0,_=>by simp[eqsNm]
 | i+1,hi=>by
  obtain⟨h1,h2⟩:=eqs_len h v0 i (by omega)
  obtain⟨x,hx⟩:∃ x,n.Eqs[i]?=some x:=⟨_,List.getElem?_eq_getElem (by omega)⟩
  rw[eqsNm_next p (k:Int) hx]
  generalize eqsNm p (k:Int) (v0,[]) (n.Eqs.take i)=st at h1 h2
  have hw:=h x (List.mem_of_getElem? hx)
  obtain⟨g1,g2,g3⟩:=plain_grew (nmN (x.Names.headD ⟨#[]⟩)) (tyN p (k:Int)) (cnN p) (vaN p) (fiN p) x.E hw.fit.right (rowOn p (k:Int) (x.Names.headD ⟨#[]⟩)) ⟨st.1,st.2,0⟩
  have hf:=fr_le hw.right
  unfold eqNm eqPl
  dsimp only at g2 g3 ⊢
  rw[List.length_append,List.length_singleton]
  omega
theorem rowOn_w {p:DProg} {k:Nat} {n:DNode} (hn:p.Nodes[k]?=some n) (s:ByteArray):rowOn p (k:Int) s=(rowN p.Enums n s).1:=by unfold rowOn rowF;rw[nodeAt_nat,hn]
theorem of33 (p:DProg) (k:Nat) (n:DNode) (hn:p.Nodes[k]?=some n) (hs:(startF p).Err=0) (hp:okProg p):PCall Tryz.prog 33 [p.enc,.i (k:Int)] (flowNm p (k:Int) n).enc:=by
 have hnm:=List.mem_of_getElem? hn
 have hkl:=(List.getElem?_eq_some_iff.1 hn).1
 have hpl:=hp.2.1
 have hck:=(start_eqs hs).1
 have hty:=tyOK_of hp hck
 have hal:∀ n∈p.Nodes,(allV n).length≤4294967296:=fun n hn=>by have:=(hty n hn).1;omega
 have hno:=hp.2.2 n hnm
 have hi20:=hno.1.1
 have ho20:=hno.2.1.1
 have hv20:=hno.2.2.1.1
 have he30:=hno.2.2.2.1
 have hew:=eqs_w hs hp hn
 have hel:=eqs_len hew (n.Vars.map (varNm p (k:Int)))
 have hplain:=fun e=>plain_all (p:=p) (k:=k) (n:=n) hty e
 refine pcall_of_vc tabOK Tryz.func33 (by kernel_rfl) rfl (pure_cons (DProg.pure _) (pure_cons (.raw _) pure_nil)) (DFlow.pure _) (n:=74) rfl (rs:=[.cell 4 37]) rfl ?_
 simp only[go_sem]
 refine elemHave (x:=n) (by omega) (by simpa using hn) ?_
 simp only[go_sem]
 refine drawM [3] (.pur 0 (.pur 1 (.pur 2 (.pur 3 (.pur 4 (.pur 5 (.pur 7 (.pur 8 (.pur 9 (.pur 11 (.pur 12 (.pur 13 (.eff 6 (.eff 10 (.eff 14 (.pur 15 (.pur 16 (.pur 17 (.eff 18 .nil))))))))))))))))))) mo (by kernel_rfl) ?_
 simp only[go_sem]
 refine vars58 n.Ins (by omega) hal ?_
 simp only[go_sem]
 refine vars58 n.Outs (by omega) hal ?_
 simp only[go_sem]
 refine vars58 n.Vars (by omega) hal ?_
 simp only[go_sem]
 intro _
 refine loop_ghost (ghost_cell (t:=114) (cs:=[.lst 2 (p.Enums.map DEnum.enc) none,.lst 5 (p.Nodes.map DNode.enc) none,.i (k:Int),.raw .nilFunc,.s n.Name,.lst 5 ((n.Ins.map (varNm p (k:Int))).map DVar.enc) (some 4),.lst 5 ((n.Outs.map (varNm p (k:Int))).map DVar.enc) (some 5),.lst 5 ((n.Vars.map (varNm p (k:Int))).map DVar.enc) (some 6),.raw (.slice none 0 0)]) 3 8 53 10 (by rfl) (by rfl)) ?_
 simp only[go_sem]
 refine loop_fr [8,9,40,41,42,43,44,45,46,47,48,49,50,51,52,53,54,55,56,57,58,59,60,61,62,63,64,65,66,67,68,69] (fun mm C hh=>∃(i:Nat) (B:List Blk) (nx:AV),i≤n.Eqs.length∧mm=n.Eqs.length-i∧C=[(40,.raw (.int .i64 (i:Nat)))] ∧
  hh=.cells 25 [.lst 2 (p.Enums.map DEnum.enc) none,.lst 5 (p.Nodes.map DNode.enc) none]::.cells 37 [.s ⟨#[]⟩,.raw (.slice none 0 0),.raw (.slice none 0 0),.raw (.slice none 0 0),.raw (.slice none 0 0)]::.cells 68 [.s n.Name,.lst 6 (n.Ins.map DDecl.enc) none,.lst 6 (n.Outs.map DDecl.enc) none,.lst 6 (n.Vars.map DDecl.enc) none,.lst 7 (n.Eqs.map DEq.enc) none] ::
   apB p (k:Int) nx (.s n.Name) (.lst 5 ((n.Ins.map (varNm p (k:Int))).map DVar.enc) (some 4)) (.lst 5 ((n.Outs.map (varNm p (k:Int))).map DVar.enc) (some 5)) (.lst 5 ((eqsNm p (k:Int) (n.Vars.map (varNm p (k:Int)),[]) (n.Eqs.take i)).1.map DVar.enc) (some 6)) (.lst 10 ((eqsNm p (k:Int) (n.Vars.map (varNm p (k:Int)),[]) (n.Eqs.take i)).2.map DPlain.enc) (some 7)) ::
   .tok 45 5 n.Ins.length::.tok 45 5 n.Outs.length::.tok 45 5 (eqsNm p (k:Int) (n.Vars.map (varNm p (k:Int)),[]) (n.Eqs.take i)).1.length::.tok 53 10 (eqsNm p (k:Int) (n.Vars.map (varNm p (k:Int)),[]) (n.Eqs.take i)).2.length::B) n.Eqs.length _ ⟨0,[],_,by omega,by omega,rfl,by simp[eqsNm];rfl⟩ (.cons rfl .nil) ?_
 rintro mm C j hh ⟨i,B,nx,hi,rfl,rfl,rfl⟩
 simp only[go_sem]
 refine brK_dec (fun hlt=>?_) (fun hge=>?_)
 ·
  obtain⟨q,hq⟩:∃ q,n.Eqs[i]?=some q:=⟨_,List.getElem?_eq_getElem (by omega)⟩
  have hqm:=List.mem_of_getElem? hq
  have hw:=hew q hqm
  obtain⟨s,rest,hqn⟩:=hw.fit.names
  have hsz:s.size≤100:=hw.ok.2.2 s (by rw[hqn];simp)
  have hnl:=hw.ok.1
  have hfit:=hw.fit.fits
  have hnx:=eqsNm_next p (k:Int) (st:=(n.Vars.map (varNm p (k:Int)),[])) hq
  have hel1:=hel i hi
  have hfr:=fr_le hw.right
  have hpl60:(parts q.E).length≤60:=by
   have:=hw.right
   unfold rightE at this
   simp only[Bool.and_eq_true,decide_eq_true_eq] at this
   exact this.1.1
  have hon:=rowN_len p.Enums n s
  rw[← rowOn_w hn] at hon
  generalize eqsNm p (k:Int) (n.Vars.map (varNm p (k:Int)),[]) (n.Eqs.take i)=st at hnx hel1 ⊢
  rw[List.length_map] at hel1
  have hP:=fun a0 a1 a2 y z B r c4 c5 c6 K=>hplain q.E hw.fit.right hw.ok.2.1 a0 a1 a2 y z B r c4 c5 c6 s (rowOn p (k:Int) s) ⟨st.1,st.2,0⟩ K (by omega) (by rw[rowOn_w hn];rw[hqn] at hfit;exact hfit) ⟨by omega,by dsimp only;omega,by dsimp only;omega,by dsimp only;omega⟩
  have g:grewN ⟨st.1,st.2,0⟩ (plN p k s q.E (rowOn p (k:Int) s) ⟨st.1,st.2,0⟩).2 (frN q.E):=plain_grew (nmN s) (tyN p (k:Int)) (cnN p) (vaN p) (fiN p) q.E hw.fit.right (rowOn p (k:Int) s) ⟨st.1,st.2,0⟩
  have hst:eqNm p (k:Int) st q=((plN p k s q.E (rowOn p (k:Int) s) ⟨st.1,st.2,0⟩).2.vars,(plN p k s q.E (rowOn p (k:Int) s) ⟨st.1,st.2,0⟩).2.eqs++[{ (plN p k s q.E (rowOn p (k:Int) s) ⟨st.1,st.2,0⟩).1 with Names:=q.Names,On:=rowOn p (k:Int) s }]):=by
   unfold eqNm eqPl
   rw[hqn]
   rfl
  rw[hst] at hnx
  clear hst
  generalize plN p k s q.E (rowOn p (k:Int) s) ⟨st.1,st.2,0⟩=R at hP g hnx
  obtain⟨pq,st1⟩:=R
  obtain⟨g1,g2,g3⟩:=g
  dsimp only at hP g1 g2 g3 hnx
  simp only[go_sem]
  refine elemHave (x:=q) (by omega) (by simpa using hq) ?_
  simp only[go_sem]
  obtain⟨B',hB'⟩:∃ B',B'=B++[Blk.cells 74 [.lst 1 (q.Names.map AV.s) none,.i q.E.kind,.i q.E.n,.s q.E.name,.i q.E.op,.lst 1 (q.E.arms.map AV.s) none,.lst 6 (q.E.subs.map Ex.enc) none]]:=⟨_,rfl⟩
  have hat0:B'[B.length]?=some (Blk.cells 74 [.lst 1 (q.Names.map AV.s) none,.i q.E.kind,.i q.E.n,.s q.E.name,.i q.E.op,.lst 1 (q.E.arms.map AV.s) none,.lst 6 (q.E.subs.map Ex.enc) none]):=by rw[hB'];simp
  have hat:∀ r:List Blk,(B'++r)[B.length]?=some (Blk.cells 74 [.lst 1 (q.Names.map AV.s) none,.i q.E.kind,.i q.E.n,.s q.E.name,.i q.E.op,.lst 1 (q.E.arms.map AV.s) none,.lst 6 (q.E.subs.map Ex.enc) none]):=fun r=>by rw[hB'];simp
  rw[← hB']
  clear hB'
  refine elemHave (x:=s) (by omega) (by rw[hqn];rfl) ?_
  simp only[go_sem,hat0,hat]
  refine names59 s ?_
  simp only[go_sem,hat0,hat]
  refine elemHave (x:=s) (by omega) (by rw[hqn];rfl) ?_
  simp only[go_sem,hat0,hat]
  refine row60 s hal ?_
  simp only[go_sem,hat0,hat]
  refine drawM [3,B'.length+9] (.pur 0 (.pur 1 (.pur 2 (.pur 3 (.pur 4 (.pur 6 (.pur 7 (.pur 9 (.eff 5 (.pur 8 (.eff 10 .nil))))))))))) mo (by kernel_rfl) ?_
  simp only[go_sem,hat0,hat]
  refine hP _ _ _ _ _ B' [] _ _ _ _ fun r1=>?_
  simp only[go_sem,hat0,hat]
  refine pcK_of (cloneS q.Names (by omega)) ?_
  simp only[go_sem,hat0,hat]
  refine emit61 pq q.Names (rowOn p (k:Int) s) st1.eqs (by omega) fun r2=>?_
  simp only[go_sem,hat0,hat]
  exact loopFr _ (by omega) ⟨i+1,_,_,by omega,rfl,rfl,by rw[hnx];dsimp only;rw[List.length_append];rfl⟩ (.next rfl (by omega) .nil) rfl
 ·
  rw[List.take_of_length_le (by omega)]
  simp only[go_sem]
  refine⟨_,rfl,false,?_⟩
  rw[DFlow.enc_eq]
  exact Weak.aggs ⟨.refl _,.tok _ _ _,.tok _ _ _,.tok _ _ _,.tok _ _ _,trivial⟩
abbrev flowsA (x:DFlows × Bool):AV:=.tup [x.1.enc,.b x.2]
theorem pure_flowsA (x:DFlows × Bool):Go.Abs.Pure (flowsA x):=.tup _ (pure_cons (DFlows.pure _) (pure_cons (.raw _) pure_nil))
theorem flows10 (p:DProg) (hp:okProg p):PCall Tryz.prog 10 [p.enc] (flowsA (normF p)):=by
 have hc:=startCheck p hp
 have hen:=hp.1
 have hpl:=hp.2.1
 refine pcall_of_vc tabOK Tryz.func10 (by kernel_rfl) rfl (by first|exact pureL|exact pureI) (pure_flowsA _) (n:=50) rfl (rs:=[.cell 2 30,.tmp 3]) rfl ?_
 by_cases h0:(startF p).Err=0
 ·
  have hof:=fun k n hn=>of33 p k n hn h0 hp
  have hnl:=nodesNm_len p p.Nodes 0
  have hnn:=fun i n h=>nodesNm_next p (l:=p.Nodes) (i:=i) (n:=n) h
  rw[norm_ok h0]
  generalize nodesNm p 0 p.Nodes=N at hnl hnn
  generalize startF p=F at hc h0
  rw[DFault.enc_eq] at hc
  simp only[go_sem]
  refine PCall.call hc ?_
  simp only[go_sem]
  refine brK_dec (fun h=>absurd h0 h) (fun _=>?_)
  simp only[go_sem]
  intro _
  refine loop_ghost ((ghost_cell (t:=30) (cs:=[.raw (.slice none 0 0),.raw (.slice none 0 0)]) 3 0 80 2 (by rfl) (by rfl)).trans (ghost_cell (t:=30) (cs:=[.lst 2 [] (some 4),.raw (.slice none 0 0)]) 3 1 37 5 (by rfl) (by rfl))) ?_
  simp only[go_sem]
  refine loop_fr [7,18,19,20,21,22,23,24,25,26,27,28,29,30,31,32,33] (fun mm C hh=>∃(i:Nat) (r':List Blk),i≤p.Enums.length∧mm=p.Enums.length-i∧C=[(18,.raw (.int .i64 (i:Nat)))] ∧
   hh=.cells 25 [.lst 2 (p.Enums.map DEnum.enc) none,.lst 5 (p.Nodes.map DNode.enc) none]::.cells 30 [.raw (.slice none 0 0),.raw (.slice none 0 0)]::.cells 61 [.i F.Node,.i F.Eq,.i F.Err] ::
    .cells 30 [.lst 2 ((p.Enums.take i).map DEnum.enc) (some 4),.lst 5 [] (some 5)]::.tok 80 2 i::.tok 37 5 0::r') p.Enums.length _ ⟨0,[],by omega,by omega,rfl,rfl⟩ (.cons rfl .nil) ?_
  rintro mm C j hh ⟨i,r',hi,rfl,rfl,rfl⟩
  simp only[go_sem]
  refine brK_dec (fun hlt=>?_) (fun hge=>?_)
  ·
   obtain⟨e,he⟩:∃ e,p.Enums[i]?=some e:=⟨_,List.getElem?_eq_getElem (by omega)⟩
   have hel:=(hen.2 e (List.mem_of_getElem? he)).1
   have hen8:=hen.1
   have hnx:(p.Enums.take (i+1)).map DEnum.enc=(p.Enums.take i).map DEnum.enc++[e.enc]:=by
    rw[List.take_add_one,he]
    simp
   have htl:(p.Enums.take i).length=i:=by rw[List.length_take];omega
   simp only[go_sem]
   refine elemHave (x:=e) (by omega) (by simpa using he) ?_
   simp only[go_sem]
   refine drawZ mo (by kernel_rfl) rfl ?_
   simp only[List.dropLast_cons_cons,List.dropLast_singleton,List.getLast_cons_cons,List.getLast_singleton]
   simp only[go_sem]
   refine pcK_of (cloneS e.Ctors (by omega)) ?_
   simp only[go_sem]
   refine And.intro (by first|omega|(simp;done)|(simp;omega)) ?_
   exact loopFr _ (by omega) ⟨i+1,_,by omega,rfl,rfl,by rw[hnx,DEnum.enc_eq];simp;exact⟨by omega,rfl⟩⟩ (.next rfl (by omega) .nil) rfl
  ·
   obtain rfl:i=p.Enums.length:=by omega
   rw[List.take_length]
   simp only[go_sem]
   intro _
   refine loop_fr [8,37,38,39,40,41,42,43,44,45,46,47,48] (fun mm C hh=>∃(i:Nat) (r':List Blk),i≤p.Nodes.length∧mm=p.Nodes.length-i∧C=[(37,.raw (.int .i64 (i:Nat)))] ∧
    hh=.cells 25 [.lst 2 (p.Enums.map DEnum.enc) none,.lst 5 (p.Nodes.map DNode.enc) none]::.cells 30 [.raw (.slice none 0 0),.raw (.slice none 0 0)]::.cells 61 [.i F.Node,.i F.Eq,.i F.Err] ::
     .cells 30 [.lst 2 (p.Enums.map DEnum.enc) (some 4),.lst 5 ((N.take i).map DFlow.enc) (some 5)]::.tok 80 2 p.Enums.length::.tok 37 5 i::r') p.Nodes.length _ ⟨0,r',by omega,by omega,rfl,rfl⟩ (.cons rfl .nil) ?_
   rintro mm C j2 hh ⟨i,r2,hi,rfl,rfl,rfl⟩
   simp only[go_sem]
   refine brK_dec (fun hlt=>?_) (fun hge=>?_)
   ·
    obtain⟨n,hn⟩:∃ n,p.Nodes[i]?=some n:=⟨_,List.getElem?_eq_getElem (by omega)⟩
    have htl:(N.take i).length=i:=by rw[List.length_take];omega
    have hnx:=hnn i n hn
    have ho:=hof i n hn
    generalize flowNm p (i:Int) n=f at hnx ho
    simp only[go_sem]
    refine drawZ mo (by kernel_rfl) rfl ?_
    simp only[List.dropLast_cons_cons,List.dropLast_singleton,List.getLast_cons_cons,List.getLast_singleton]
    simp only[go_sem]
    refine pcK_of ho ?_
    simp only[go_sem]
    refine And.intro (by first|omega|(simp;done)|(simp;omega)) ?_
    exact loopFr _ (by omega) ⟨i+1,_,by omega,rfl,rfl,by rw[hnx];simp;exact⟨by omega,rfl⟩⟩ (.next rfl (by omega) .nil) rfl
   ·
    rw[List.take_of_length_le (by omega)]
    simp only[go_sem]
    refine⟨_,rfl,false,?_⟩
    show Weak _ (.tup [DFlows.enc _,.b true])
    rw[DFlows.enc_eq]
    exact Weak.tups2 ⟨Weak.aggs ⟨.tok _ _ _,.tok _ _ _,trivial⟩,.refl _,trivial⟩
 ·
  rw[norm_no h0]
  generalize startF p=F at hc h0
  rw[DFault.enc_eq] at hc
  simp only[go_sem]
  refine PCall.call hc ?_
  simp only[go_sem]
  refine brK_dec (fun _=>?_) (fun h=>absurd h0 h)
  simp only[go_sem]
  refine⟨_,rfl,false,?_⟩
  show Weak _ (.tup [DFlows.enc _,.b false])
  rw[DFlows.enc_eq]
  exact Weak.tups2 ⟨Weak.aggs ⟨.nil _,.nil _,trivial⟩,.refl _,trivial⟩
end Go.Proofs.YtpamokpmlplopaaGreatDoor
