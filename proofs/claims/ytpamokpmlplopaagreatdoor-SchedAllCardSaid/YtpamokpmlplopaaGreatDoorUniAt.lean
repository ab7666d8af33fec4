/-
  TyC, ScopeP1, ScopeP2, ScopeP3, ChkP2, ScopeX2: put together.
-/
import Derived.Test.YtpamokpmlplopaaGreatDoorUniAi
import Derived.Test.YtpamokpmlplopaaGreatDoorUniAn
import Derived.Test.YtpamokpmlplopaaGreatDoorUniAp
import Derived.Test.YtpamokpmlplopaaGreatDoorUniAq
namespace Go.Proofs.YtpamokpmlplopaaGreatDoor
open Go.Abs
set_option maxRecDepth 20000
set_option linter.unusedSimpArgs false
set_option linter.unusedVariables false
set_option maxHeartbeats 1000000
attribute [local irreducible] vc vcOps vcStep vcGuard prK hrK gK gsK brK callK ElemK SeqK BlockK ScopeK OpsK CallK LoopK LoopGo finPost ACall PCall PCallE BCall vqOps vqStep vqGuard qrK heK pcK gqK gqsK QOpsK qcallK DrawK
section
set_option maxHeartbeats 8000000
section
variable {op:Int} {t u:DTy}
theorem binT_1 (h:3≤op∧op≤7):binT op t u=if t=tyI∧u=tyI then(tyI,true) else(ty0,false):=by
 unfold binT
 by_cases q:t=tyI∧u=tyI
 ·
  rw[if_pos ⟨h.1,h.2,q.1,q.2⟩,if_pos q]
 ·
  rw[if_neg (fun k=>q ⟨k.2.2.1,k.2.2.2⟩),if_neg q,if_neg (fun k=>by rcases k with k|k|k<;>omega)]
theorem binT_2 (h:8≤op∧op≤10):binT op t u=if t=tyB∧u=tyB then(tyB,true) else(ty0,false):=by
 unfold binT
 rw[if_neg (fun k=>by omega)]
 by_cases q:t=tyB∧u=tyB
 ·
  rw[if_pos (.inl ⟨h.1,h.2,q.1,q.2⟩),if_pos q]
 ·
  rw[if_neg (fun k=>by rcases k with k|k|k;exact q ⟨k.2.2.1,k.2.2.2⟩;omega;omega),if_neg q]
theorem binT_3 (h:op=11∨op=12):binT op t u=if t=u∧t.Len=0 then(tyB,true) else(ty0,false):=by
 unfold binT
 rw[if_neg (fun k=>by omega)]
 by_cases q:t=u∧t.Len=0
 ·
  rw[if_pos (.inr (.inr ⟨h,q.1,q.2⟩)),if_pos q]
 ·
  rw[if_neg (fun k=>by rcases k with k|k|k;omega;omega;exact q ⟨k.2.1,k.2.2⟩),if_neg q]
theorem binT_4 (h:13≤op∧op≤16):binT op t u=if t=tyI∧u=tyI then(tyB,true) else(ty0,false):=by
 unfold binT
 rw[if_neg (fun k=>by omega)]
 by_cases q:t=tyI∧u=tyI
 ·
  rw[if_pos (.inr (.inl ⟨h.1,h.2,q.1,q.2⟩)),if_pos q]
 ·
  rw[if_neg (fun k=>by rcases k with k|k|k;omega;exact q ⟨k.2.2.1,k.2.2.2⟩;omega),if_neg q]
theorem binT_0 (h:op<3∨16<op):binT op t u=(ty0,false):=by
 unfold binT
 rw[if_neg (fun k=>by omega),if_neg (fun k=>by rcases k with k|k|k<;>omega)]
end
theorem binX (op:Int) (t u:DTy):PCall Tryz.prog 185 [.i op,t.enc,u.enc] (tyA (binT op t u)):=by
 refine pcall_of_vc tabOK Tryz.func185 (by kernel_rfl) rfl (by first|exact pureL|exact pureI) (pure_tyA _) (n:=76) rfl (rs:=[.cell 6 42,.tmp 7]) rfl ?_
 have hg:(3≤op∧op≤7)∨(8≤op∧op≤10)∨(op=11∨op=12)∨(13≤op∧op≤16)∨(op<3∨16<op):=by omega
 rcases hg with hg|hg|hg|hg|hg
 ·
  rw[binT_1 hg]
  (repeat' first
   | (exfalso;omega)
   | (have h1:t=tyI:=(by assumption);have h2:t=tyB:=(by assumption);exact absurd (h1.symm.trans h2) (by decide))
   | simp only[go_sem]
   | refine brK_dec (fun _=>?_) (fun _=>?_)
   | refine gK_dec (fun _=>?_) (fun _=>?_)
   | refine gqK_dec (fun _=>?_) (fun _=>?_)
   | refine drawK mo (by kernel_rfl) ?_
   | (refine PCall.call (plainK _) ?_)|(refine pcK_of (plainK _) ?_)|(simp only[ty000,ty100,ty200])
   | (refine finTy rfl ?_;simp[*];done))
 ·
  rw[binT_2 hg]
  (repeat' first
   | (exfalso;omega)
   | (have h1:t=tyI:=(by assumption);have h2:t=tyB:=(by assumption);exact absurd (h1.symm.trans h2) (by decide))
   | simp only[go_sem]
   | refine brK_dec (fun _=>?_) (fun _=>?_)
   | refine gK_dec (fun _=>?_) (fun _=>?_)
   | refine gqK_dec (fun _=>?_) (fun _=>?_)
   | refine drawK mo (by kernel_rfl) ?_
   | (refine PCall.call (plainK _) ?_)|(refine pcK_of (plainK _) ?_)|(simp only[ty000,ty100,ty200])
   | (refine finTy rfl ?_;simp[*];done))
 ·
  rw[binT_3 hg]
  (repeat' first
   | (exfalso;omega)
   | (have h1:t=tyI:=(by assumption);have h2:t=tyB:=(by assumption);exact absurd (h1.symm.trans h2) (by decide))
   | simp only[go_sem]
   | refine brK_dec (fun _=>?_) (fun _=>?_)
   | refine gK_dec (fun _=>?_) (fun _=>?_)
   | refine gqK_dec (fun _=>?_) (fun _=>?_)
   | refine drawK mo (by kernel_rfl) ?_
   | (refine PCall.call (plainK _) ?_)|(refine pcK_of (plainK _) ?_)|(simp only[ty000,ty100,ty200])
   | (have hz:t=u∧t.Len=0:=⟨by assumption,by assumption⟩;rw[if_pos hz];exact finTy rfl rfl)
   | (have hz:¬ (t=u∧t.Len=0):=(by rintro⟨h1,h2⟩;contradiction);rw[if_neg hz];exact finTy rfl rfl))
 ·
  rw[binT_4 hg]
  (repeat' first
   | (exfalso;omega)
   | (have h1:t=tyI:=(by assumption);have h2:t=tyB:=(by assumption);exact absurd (h1.symm.trans h2) (by decide))
   | simp only[go_sem]
   | refine brK_dec (fun _=>?_) (fun _=>?_)
   | refine gK_dec (fun _=>?_) (fun _=>?_)
   | refine gqK_dec (fun _=>?_) (fun _=>?_)
   | refine drawK mo (by kernel_rfl) ?_
   | (refine PCall.call (plainK _) ?_)|(refine pcK_of (plainK _) ?_)|(simp only[ty000,ty100,ty200])
   | (refine finTy rfl ?_;simp[*];done))
 ·
  rw[binT_0 hg]
  (repeat' first
   | (exfalso;omega)
   | (have h1:t=tyI:=(by assumption);have h2:t=tyB:=(by assumption);exact absurd (h1.symm.trans h2) (by decide))
   | simp only[go_sem]
   | refine brK_dec (fun _=>?_) (fun _=>?_)
   | refine gK_dec (fun _=>?_) (fun _=>?_)
   | refine gqK_dec (fun _=>?_) (fun _=>?_)
   | refine drawK mo (by kernel_rfl) ?_
   | (refine PCall.call (plainK _) ?_)|(refine pcK_of (plainK _) ?_)|(simp only[ty000,ty100,ty200])
   | exact finTy rfl rfl)
end
section
abbrev HS (A:List Blk) (p:DProg) (at_:Int) (c:Nat) (f:Value→Option AV) (r:List Blk):List Blk:=A++.mp .str c f::.cells 268 [.lst 2 (p.Enums.map DEnum.enc) none,.lst 5 (p.Nodes.map DNode.enc) none,.i at_,.map A.length]::r
theorem finKb {T:TypeId→TI} {s:List AV} {h:List Blk} {rs:List ResultVar} {K:AV→List Blk→Prop} {b c:Bool} (hl:resAV T s h rs=some [.b b]) (e:c=b) (hK:K (.b c) h):FinK T rs K s h:=by
 subst e
 exact finK hl hK
theorem HS_app {A r r':List Blk} {p:DProg} {at_:Int} {c:Nat} {f:Value→Option AV}:HS A p at_ c f (r++r')=HS A p at_ c f r++r':=by simp
section
variable {A r:List Blk} {p:DProg} {at_:Int} {c:Nat} {f:Value→Option AV} {n:DNode} {D:List ByteArray} {K:AV→List Blk→Prop}
theorem is138 (hM:MapN f (knF n D)) (s:ByteArray) (hK:∀ r',K (.b (isF n s)) (HS A p at_ c f (r++r'))):ACall Tryz.prog 290 [.ptr (A.length+1) 0,.s s] (HS A p at_ c f r) K:=by
 have hMx:=hM s
 have his:=kn_is n D s
 have hk:=hK []
 rw[List.append_nil] at hk
 rw[← his] at hk
 refine acallK_of_vc tabOK Tryz.func290 (by kernel_rfl) rfl (n:=12) rfl (rs:=[.tmp 4]) rfl ?_
 simp only[go_sem,hMx]
 refine finK (r:=.b (decide (0<knF n D s))) ?_ hk
 have e:decide (((knF n D s:Nat):Int)>0)=decide (0<knF n D s):=decide_eq_decide.2 (by omega)
 rw[e]
 rfl
theorem arm139 (s:ByteArray) (hK:∀ r',K (.b (armOk p.Enums s)) (HS A p at_ c f (r++r'))):ACall Tryz.prog 291 [.ptr (A.length+1) 0,.s s] (HS A p at_ c f r) K:=by
 refine acallK_of_vc tabOK Tryz.func291 (by kernel_rfl) rfl (n:=20) rfl (rs:=[.tmp 4]) rfl ?_
 simp only[go_sem]
 refine PCall.call (arm146 p.Enums s) ?_
 unfold armOk at hK
 generalize armF p.Enums s=q at hK
 obtain⟨t,v,ok⟩:=q
 simp only[go_sem]
 refine finK (r:=.b ok) rfl ?_
 have hk:=hK [.cells 42 [.i t.Kind,.i t.Enum,.i t.Len]]
 simpa using hk
theorem define140 (hM:MapN f (knF n D)) (s:ByteArray) (h5:isF n s=false→∀ r',K (.i 5) (HS A p at_ c f (r++r'))) (h6:isF n s=true→(inF n s=true∨s∈D)→∀ r',K (.i 6) (HS A p at_ c f (r++r')))
  (h0:isF n s=true→inF n s=false→s ∉ D→∀ c' f' r',MapN f' (knF n (D++[s]))→K (.i 0) (HS A p at_ c' f' (r++r'))):ACall Tryz.prog 292 [.ptr (A.length+1) 0,.s s] (HS A p at_ c f r) K:=by
 have hMx:=hM s
 refine acallK_of_vc tabOK Tryz.func292 (by kernel_rfl) rfl (n:=21) rfl (rs:=[.tmp 4]) rfl ?_
 simp only[go_sem]
 refine is138 hM s (fun r1=>?_)
 cases hi:isF n s with
 | false =>
  simp only[go_sem]
  exact finK (r:=.i 5) rfl (h5 hi r1)
 | true =>
  simp only[go_sem,hMx]
  have hfr:=kn_free (D:=D) hi
  refine brK_dec (fun hq=>?_) (fun hq=>?_)
  ·
   simp only[go_sem]
   refine finK (r:=.i 6) rfl (h6 hi ?_ r1)
   by_cases hz:inF n s=true∨s∈D
   ·
    exact hz
   ·
    exact absurd (by have:=hfr.2 hz;omega) hq
  ·
   have hz:knF n D s=2:=by omega
   have hnz:=hfr.1 hz
   obtain⟨k1,k2⟩:=kn_put hz
   simp only[go_sem]
   refine finK (r:=.i 0) rfl (h0 hi (by cases hh:inF n s;rfl;exact absurd (.inl hh) hnz) (fun hm=>hnz (.inr hm)) _ _ r1 ?_)
   exact hM.put s 3 (knF n (D++[s])) k1 k2
theorem clocked88 (hM:MapN f (knF n D)) (d:DDecl) (hK:∀ r',K (.b (clockedF p.Enums n d)) (HS A p at_ c f (r++r'))):ACall Tryz.prog 245 [.ptr (A.length+1) 0,d.enc] (HS A p at_ c f r) K:=by
 unfold clockedF at hK
 refine acallK_of_vc tabOK Tryz.func245 (by kernel_rfl) rfl (n:=20) rfl (rs:=[.tmp 4]) rfl ?_
 repeat' first
  | simp only[go_sem]
  | refine gK_dec (fun _=>?_) (fun _=>?_)
  | refine gK_split (fun _=>?_) (fun _=>?_)
  | ((fail_if_success (clear hi));refine is138 hM d.On (fun r1=>?_);generalize hi:isF n d.On=i at hK ⊢;cases i)
  | (refine arm139 d.Ctor (fun r2=>?_);generalize armOk p.Enums d.Ctor=i at hK ⊢;cases i)
  | exact finKb rfl (by simp[*]) (hK _)
theorem node87 {j:Nat} (hj:p.Nodes[j]?=some n) (hK:∀ r',K n.enc (HS A p (j:Int) c f (r++r'))):ACall Tryz.prog 244 [.ptr (A.length+1) 0] (HS A p (j:Int) c f r) K:=by
 refine acallK_of_vc tabOK Tryz.func244 (by kernel_rfl) rfl (n:=14) rfl (rs:=[.cell 2 68]) rfl ?_
 simp only[go_sem]
 refine drawZ mo (by kernel_rfl) rfl ?_
 simp only[List.dropLast_cons_cons,List.dropLast_singleton,List.getLast_cons_cons,List.getLast_singleton]
 repeat' first
  | simp only[go_sem]
  | refine elemHave (by omega) hj ?_
 refine⟨[n.enc],?_,n.enc,.refl _,hK _⟩
 rw[DNode.enc_eq]
 simp only[go_sem]
theorem leads178 (s:ByteArray) {h:List Blk} {k:Nat} (hk:h[k]?=some (.cells 234 [.ptr (A.length+1) 0])) (hh:∃ r,h=HS A p at_ c f r) (hK:K (.b (!(armOk p.Enums s))) h):ACall Tryz.prog 318 [.s s,.ptr k 0] h K:=by
 obtain⟨r,rfl⟩:=hh
 refine acall_of_vc tabOK Tryz.func318 (by kernel_rfl) rfl (n:=8) rfl (rs:=[.tmp 3]) rfl ?_
 simp only[go_sem,hk]
 refine arm139 s (fun r'=>?_)
 simp only[go_sem]
 rw[HS_app]
 exact finH0 r' rfl (.raw _) hK
theorem leads141 (hM:MapN f (knF n D)) (e:Ex) (hK:∀ r',K (.b (leadsF p at_ n e)) (HS A p at_ c f (r++r'))):ACall Tryz.prog 293 [.ptr (A.length+1) 0,e.enc] (HS A p at_ c f r) K:=by
 have hall:e.arms.all (armOk p.Enums)=!(e.arms.any fun s=>!(armOk p.Enums s)):=List.all_eq_not_any_not
 unfold leadsF at hK
 rw[hall] at hK
 refine acallK_of_vc tabOK Tryz.func293 (by kernel_rfl) rfl (n:=47) rfl (rs:=[.tmp 4]) rfl ?_
 simp only[go_sem]
 refine containsStrR (p:=fun s=>!(armOk p.Enums s)) (fun s hs K hK=>leads178 s (by simp only[go_sem]) ⟨_,rfl⟩ hK) ?_
 generalize (e.arms.any fun s=>!(armOk p.Enums s))=b at hK ⊢
 cases b
 all_goals
  repeat' first
   | (exfalso;omega)
   | simp only[go_sem]
   | refine brK_dec (fun _=>?_) (fun _=>?_)
   | refine gK_dec (fun _=>?_) (fun _=>?_)
   | (refine is138 hM e.name (fun r1=>?_))
   | (refine arm139 e.name (fun r1=>?_))
   | (refine drawZ mo (by kernel_rfl) rfl ?_;simp only[List.dropLast_cons_cons,List.dropLast_singleton,List.getLast_cons_cons,List.getLast_singleton])
   | (refine pcK_of (find23 p e.name) ?_)
   | exact finKb rfl (by simp[*]) (hK _)
end
end
section
theorem eqErr_names {p:DProg} {a:Int} {n:DNode} {D:List ByteArray} {q:DEq} {E:Int} (h:namesErr n D q.Names=E) (hE:¬ E=0):eqErr p a n D q=E:=by
 subst h
 unfold eqErr
 rw[if_neg hE]
theorem eqErr_parts {p:DProg} {a:Int} {n:DNode} {D:List ByteArray} {q:DEq} (h:namesErr n D q.Names=0):eqErr p a n D q=if(parts q.E).all (leadsF p a n)=true then 0 else 5:=by
 unfold eqErr
 rw[if_pos h]
theorem snoc6 {α:Type} (A r r':List α) (a b c d e w z:α):A++a::b::(r++c::d::e::(r'++[w,z]))=(A++a::b::(r++c::d::e::(r'++[w])))++[z]:=by simp
section
variable {A r:List Blk} {p:DProg} {at_:Int} {c:Nat} {f:Value→Option AV} {n:DNode} {D:List ByteArray} {K:AV→List Blk→Prop}
theorem eq89 (hM:MapN f (knF n D)) (q:DEq) (hq:okEq q) (hK:∀ c' f' r',(eqErr p at_ n D q=0→MapN f' (knF n (D++q.Names)))→K (.i (eqErr p at_ n D q)) (HS A p at_ c' f' (r++r'))) :
  ACall Tryz.prog 246 [.ptr (A.length+1) 0,q.enc] (HS A p at_ c f r) K:=by
 refine acallK_of_vc tabOK Tryz.func246 (by kernel_rfl) rfl (n:=31) rfl (rs:=[.cell 4 59]) rfl ?_
 simp only[go_sem]
 intro _
 generalize hE:namesErr n D q.Names=E
 refine loop_fr [6,7,12,13,14,15,16,17,18,19,20,21,22] (fun m C hh=>∃(i c':Nat) (f':Value→Option AV) (r':List Blk),i≤q.Names.length∧m=q.Names.length-i∧MapN f' (knF n (D++q.Names.take i))∧namesErr n (D++q.Names.take i) (q.Names.drop i)=E∧C=[(12,.raw (.int .i64 (i:Nat)))] ∧
  hh=HS A p at_ c' f' (r++.cells 234 [.ptr (A.length+1) 0]::.cells 74 [.lst 1 (q.Names.map AV.s) none,.i q.E.kind,.i q.E.n,.s q.E.name,.i q.E.op,.lst 1 (q.E.arms.map AV.s) none,.lst 6 (q.E.subs.map Ex.enc) none]::.cells 59 [.i 0]::r')) q.Names.length _ ⟨0,c,f,[],by omega,by omega,by simpa using hM,by simpa using hE,rfl,rfl⟩ (.cons rfl .nil) ?_
 rintro m C j hh ⟨i,c',f',r',hi,rfl,hM',hE',rfl,rfl⟩
 simp only[go_sem]
 refine brK_dec (fun hlt=>?_) (fun hge=>?_)
 ·
  simp only[go_sem]
  refine elemMap (by omega) (by omega) (fun x hx=>?_)
  simp only[go_sem]
  refine define140 hM' x (fun h5 r1=>?_) (fun h6 h7 r1=>?_) (fun h1 h2 h3 c1 f1 r1 hM1=>?_)
  ·
   have e5:=names_5 hE' hx h5
   have ee:eqErr p at_ n D q=5:=by rw[eqErr_names hE (by omega),e5]
   rw[ee] at hK
   simp only[go_sem]
   refine⟨[.i 5],by simp only[go_sem],.i 5,.refl _,hK _ _ _ (fun h=>by omega)⟩
  ·
   have e6:=names_6 hE' hx h6 h7
   have ee:eqErr p at_ n D q=6:=by rw[eqErr_names hE (by omega),e6]
   rw[ee] at hK
   simp only[go_sem]
   refine⟨[.i 6],by simp only[go_sem],.i 6,.refl _,hK _ _ _ (fun h=>by omega)⟩
  ·
   have hE1:=names_next hE' hx h1 h2 h3
   have hst:D++q.Names.take (i+1)=D++q.Names.take i++[x]:=by
    rw[Int.toNat_natCast] at hx
    obtain⟨hi,rfl⟩:=List.getElem?_eq_some_iff.1 hx
    rw[List.take_succ_eq_append_getElem hi,List.append_assoc]
   simp only[go_sem]
   exact loopFr _ (by omega) ⟨i+1,c1,f1,_,by omega,rfl,by rw[hst];exact hM1,hE1,rfl,rfl⟩ (.next rfl (by omega) .nil) rfl
 ·
  simp only[go_sem]
  have e0:=names_0 hE' (by omega)
  rw[List.take_of_length_le (by omega)] at hM'
  rw[e0] at hE
  rw[eqErr_parts hE] at hK
  refine each28 q.E ?_
  simp only[go_sem]
  intro l
  rw[snoc6]
  refine each_range q.E (A.length+(r.length+(r'.length+1+1+1+1)+1+1)) (A.length+(r.length+(r'.length+1+1+1)+1+1)) 0 (fun k=>∀ y∈(parts q.E).take k,leadsF p at_ n y=true) (fun _=>A++.mp .str c' f'::.cells 268 [.lst 2 (p.Enums.map DEnum.enc) none,.lst 5 (p.Nodes.map DNode.enc) none,.i at_,.map A.length]::(r++.cells 234 [.ptr (A.length+1) 0]::.cells 74 [.lst 1 (q.Names.map AV.s) none,.i q.E.kind,.i q.E.n,.s q.E.name,.i q.E.op,.lst 1 (q.E.arms.map AV.s) none,.lst 6 (q.E.subs.map Ex.enc) none]::.cells 59 [.i 0]::(r'++[exBx q.E]))) (fun _=>[])
   (fun h=>(parts q.E).all (leadsF p at_ n)=false∧h=A++.mp .str c' f'::.cells 268 [.lst 2 (p.Enums.map DEnum.enc) none,.lst 5 (p.Nodes.map DNode.enc) none,.i at_,.map A.length]::(r++.cells 234 [.ptr (A.length+1) 0]::.cells 74 [.lst 1 (q.Names.map AV.s) none,.i q.E.kind,.i q.E.n,.s q.E.name,.i q.E.op,.lst 1 (q.E.arms.map AV.s) none,.lst 6 (q.E.subs.map Ex.enc) none]::.cells 59 [.i 5]::(r'++[exBx q.E]))) ?_ (fun _=>rfl) ?_ ?_ rfl rfl rfl (by simp) (fun k z r1 K hz hi hK1 hK2=>?_) (fun r1 hi=>?_) (fun k h' r1 hs=>?_)
  ·
   intro _;simp
  ·
   rintro h ⟨_,rfl⟩;simp
  ·
   simp only[go_sem]
  ·
   simp only[go_sem,setPs,roundA]
   refine leads141 hM' z (fun r2=>?_)
   cases hl:leadsF p at_ n z with
   | true =>
    have hk:=hK1 (take_all hi hz hl) (exBx z::r2)
    simp only[go_sem,roundB]
    simpa using hk
   | false =>
    have hk:=hK2 _ (exBx z::r2) ⟨List.all_eq_false.2 ⟨z,List.mem_of_getElem? hz,by simp[hl]⟩,rfl⟩
    simp only[go_sem,roundB]
    simpa using hk
  ·
   rw[List.take_length] at hi
   rw[List.all_eq_true.2 hi] at hK
   simp only[go_sem]
   refine⟨[.i 0],by simp only[go_sem],.i 0,.refl _,?_⟩
   have hk:=fun z=>hK c' f' z (fun _=>hM')
   simp only[if_true] at hk
   exact hk _
  ·
   obtain⟨hs,rfl⟩:=hs
   rw[hs] at hK
   simp only[go_sem]
   refine⟨[.i 5],by simp only[go_sem],.i 5,.refl _,?_⟩
   have hk:=fun z=>hK c' f' z (fun h=>by simp at h)
   simp only[Bool.false_eq_true,if_false] at hk
   exact hk _
end
end
section
theorem fault_err {p:DProg} {a:Int} {n:DNode} (h:¬ (allV n).all (clockedF p.Enums n)=true):nodeFault p a n=⟨a,-1,5⟩:=by unfold nodeFault;rw[if_neg h]
theorem fault_eq {p:DProg} {a:Int} {n:DNode} {e:Int × Int} (h:(allV n).all (clockedF p.Enums n)=true) (he:eqsErr p a n 0 [] n.Eqs=e) (h2:¬ e.2=0):nodeFault p a n=⟨a,e.1,e.2⟩:=by unfold nodeFault;rw[if_pos h,he,if_neg h2]
theorem fault_def {p:DProg} {a:Int} {n:DNode} {e:Int × Int} (h:(allV n).all (clockedF p.Enums n)=true) (he:eqsErr p a n 0 [] n.Eqs=e) (h2:e.2=0):nodeFault p a n=if allDef n=true then⟨0,0,0⟩ else⟨a,-1,5⟩:=by unfold nodeFault;rw[if_pos h,he,if_pos h2]
theorem eqsErr_in {p:DProg} {a:Int} {n:DNode}:∀ {l:List DEq} {i:Nat} {D:List ByteArray},(eqsErr p a n i D l).2=0→∀ s∈l.flatMap DEq.Names,inF n s=false
 | [],_,_,_=>by simp
 | q::r,i,D,h=>by
  rw[eqsErr] at h
  split at h
  ·
   rename_i h0
   intro s hs
   rw[List.flatMap_cons] at hs
   rcases List.mem_append.1 hs with hs|hs
   ·
    have hn:namesErr n D q.Names=0:=by
     unfold eqErr at h0
     split at h0
     ·
      assumption
     ·
      assumption
    exact namesErr_in hn s hs
   ·
    exact eqsErr_in h s hs
  ·
   rename_i h0
   exact absurd h h0
abbrev trK:Tr:=(.two 0 (.two 1 (.two 2 (.two 3 (.one 4 (.one 5 (.one 6 (.one 7 .nil)))) 4 (.two 3 (.one 5 (.one 6 (.one 7 .nil))) 5 (.one 3 (.one 6 (.one 7 .nil))))) 4 (.two 2 (.two 3 (.one 5 (.one 6 (.one 7 .nil))) 5 (.one 3 (.one 6 (.one 7 .nil)))) 5 (.one 2 (.one 3 (.one 6 (.one 7 .nil)))))) 4 (.two 1 (.two 2 (.two 3 (.one 5 (.one 6 (.one 7 .nil))) 5 (.one 3 (.one 6 (.one 7 .nil)))) 5 (.one 2 (.one 3 (.one 6 (.one 7 .nil))))) 5 (.one 1 (.one 2 (.one 3 (.one 6 (.one 7 .nil))))))) 4 (.two 0 (.two 1 (.two 2 (.two 3 (.one 5 (.one 6 (.one 7 .nil))) 5 (.one 3 (.one 6 (.one 7 .nil)))) 5 (.one 2 (.one 3 (.one 6 (.one 7 .nil))))) 5 (.one 1 (.one 2 (.one 3 (.one 6 (.one 7 .nil)))))) 5 (.one 0 (.one 1 (.one 2 (.one 3 (.one 6 (.one 7 .nil))))))))
section
variable {A r:List Blk} {p:DProg} {c:Nat} {f:Value→Option AV} {n:DNode} {K:AV→List Blk→Prop}
theorem check49 {j:Nat} (hj:p.Nodes[j]?=some n) (hn:okNode n) (hM:MapN f (knF n [])) (hK:∀ c' f' r',K (nodeFault p (j:Int) n).enc (HS A p (j:Int) c' f' (r++r'))):ACall Tryz.prog 196 [.ptr (A.length+1) 0] (HS A p (j:Int) c f r) K:=by
 have hh1:=hn.1.1
 have hh2:=hn.2.1.1
 have hh3:=hn.2.2.1.1
 have hh4:=hn.2.2.2.1
 have hal:(allV n).length≤60:=by simp[allV];omega
 have hfl:[n.Ins,n.Outs,n.Vars].flatten.length=(allV n).length:=rfl
 refine acallK_of_vc tabOK Tryz.func196 (by kernel_rfl) rfl (n:=83) rfl (rs:=[.cell 2 61]) rfl ?_
 simp only[go_sem]
 refine node87 hj (fun r1=>?_)
 simp only[go_sem]
 refine PCall.callW (concatD [n.Ins,n.Outs,n.Vars] (by show(allV n).length≤_;omega)) ⟨.tok _ _ _,trivial⟩ ?_
 simp only[go_sem]
 intro _
 refine loop_frX [6,27,28,29,30,31,32,33,34,35,36,37] (fun m C=>∃ i:Nat,i≤(allV n).length∧m=(allV n).length-i∧(∀ d∈(allV n).take i,clockedF p.Enums n d=true)∧C=[(27,.raw (.int .i64 (i:Nat)))]) (allV n).length _ ⟨0,by omega,by omega,by simp,rfl⟩ (.cons rfl .nil) ?_
 rintro m C ja r2 ⟨i,hi,rfl,hp,rfl⟩
 simp only[go_sem]
 refine brK_dec (fun hlt=>?_) (fun hge=>?_)
 ·
  simp only[go_sem]
  refine elemMap (by omega) (by omega) (fun d hd=>?_)
  simp only[go_sem]
  refine clocked88 hM d (fun r3=>?_)
  cases hdx:clockedF p.Enums n d with
  | true =>
   simp only[go_sem]
   exact loopFrX _ (by omega) _ ⟨i+1,by omega,rfl,take_all hp (by simpa using hd) hdx,rfl⟩ (.next rfl (by omega) .nil) rfl (by first|rfl|(simp only[List.append_assoc,List.cons_append,List.nil_append];rfl))
  | false =>
   have hf:=fault_err (p:=p) (a:=(j:Int)) (n:=n) (by rw[List.all_eq_false.2 ⟨d,List.mem_of_getElem? hd,by simp[hdx]⟩];simp)
   rw[hf,DFault.enc_eq] at hK
   simp only[go_sem]
   exact⟨[.agg [.i (j:Int),.i (-1),.i 5]],by simp only[go_sem],_,.refl _,hK _ _ _⟩
 ·
  have hcl:(allV n).all (clockedF p.Enums n)=true:=List.all_eq_true.2 (take_full hp (by omega))
  simp only[go_sem]
  intro _
  generalize hE:eqsErr p (j:Int) n 0 [] n.Eqs=E
  refine loop_fr [7,8,41,42,43,44,45,46,47,48,49,50,51,52,53,54,55] (fun m C hh=>∃(i c':Nat) (f':Value→Option AV) (r':List Blk),i≤n.Eqs.length∧m=n.Eqs.length-i∧MapN f' (knF n ((n.Eqs.take i).flatMap DEq.Names))∧eqsErr p (j:Int) n i ((n.Eqs.take i).flatMap DEq.Names) (n.Eqs.drop i)=E∧C=[(41,.raw (.int .i64 (i:Nat)))] ∧
   hh=HS A p (j:Int) c' f' (r++.cells 61 [.i 0,.i 0,.i 0]::.cells 61 [.i (j:Int),.i (-1),.i 0]::(r1++.cells 68 [.s n.Name,.lst 6 (n.Ins.map DDecl.enc) none,.lst 6 (n.Outs.map DDecl.enc) none,.lst 6 (n.Vars.map DDecl.enc) none,.lst 7 (n.Eqs.map DEq.enc) none]::r'))) n.Eqs.length _ ⟨0,c,f,_,by omega,by omega,by simpa using hM,by simpa using hE,rfl,by first|rfl|(simp only[List.append_assoc,List.cons_append,List.nil_append];rfl)⟩ (.cons rfl .nil) ?_
  rintro m C jb hh ⟨i,c',f',r',hi,rfl,hM',hE',rfl,rfl⟩
  simp only[go_sem]
  refine brK_dec (fun hlt=>?_) (fun hge=>?_)
  ·
   simp only[go_sem]
   refine elemMap (by omega) (by omega) (fun x hx=>?_)
   simp only[go_sem]
   refine eq89 hM' x (hn.2.2.2.2.2 _ (List.mem_of_getElem? hx)) (fun c1 f1 r3 hM1=>?_)
   have hv:=eqErr_vals p (j:Int) n ((n.Eqs.take i).flatMap DEq.Names) x
   by_cases he:eqErr p (j:Int) n ((n.Eqs.take i).flatMap DEq.Names) x=0
   ·
    have hM2:=hM1 he
    have hE1:=eqs_next hE' hx he
    have hst:=flatMap_next DEq.Names (l:=n.Eqs) (by simpa using hx)
    rw[he]
    simp only[go_sem]
    exact loopFr _ (by omega) ⟨i+1,c1,f1,_,by omega,rfl,by rw[hst];exact hM2,hE1,rfl,rfl⟩ (.next rfl (by omega) .nil) rfl
   ·
    have hE1:=eqs_at hE' hx he
    have hf:=fault_eq hcl hE (by rw[hE1];exact he)
    rw[hf,hE1,DFault.enc_eq] at hK
    generalize eqErr p (j:Int) n ((n.Eqs.take i).flatMap DEq.Names) x=ee at hK he hv
    simp only[go_sem]
    refine brK_dec (fun hq=>?_) (fun hq=>?_)
    ·
     simp only[go_sem]
     refine brK_dec (fun _=>?_) (fun hq2=>absurd hq hq2)
     simp only[go_sem]
     exact⟨[.agg [.i (j:Int),.i (i:Int),.i ee]],by simp only[go_sem],_,.refl _,hK _ _ _⟩
    ·
     exact absurd hq (by simpa using he)
  ·
   simp only[go_sem]
   have hE1:=eqs_0 hE' (by omega)
   rw[List.take_of_length_le (by omega)] at hM'
   have hD:=eqsErr_in (p:=p) (a:=(j:Int)) (n:=n) (l:=n.Eqs) (i:=0) (D:=[]) (by rw[hE,hE1])
   have hf:=fault_def hcl hE (by rw[hE1])
   unfold allDef at hf
   have hL:[n.Outs,n.Vars].flatten=n.Outs++n.Vars:=by simp
   have hll:(n.Outs++n.Vars).length≤60:=by simp;omega
   refine PCall.callW (concatD [n.Outs,n.Vars] (by show([n.Outs,n.Vars].flatten).length≤_;rw[hL];omega)) ⟨.tok _ _ _,trivial⟩ ?_
   rw[hL]
   generalize hW:n.Outs++n.Vars=W at hf hll
   simp only[go_sem]
   intro _
   refine loop_frX [10,67,68,69,70,71,72,73,74,75,76,77,78,79,80,81] (fun m C=>∃ i:Nat,i≤W.length∧m=W.length-i∧(∀ d∈W.take i,memB d.Name (n.Eqs.flatMap DEq.Names)=true)∧C=[(67,.raw (.int .i64 (i:Nat)))]) W.length _ ⟨0,by omega,by omega,by simp,rfl⟩ (.cons rfl .nil) ?_
   rintro m C jc r4 ⟨i2,hi2,rfl,hp2,rfl⟩
   simp only[go_sem]
   refine brK_dec (fun hlt=>?_) (fun hge2=>?_)
   ·
    simp only[go_sem]
    refine elemMap (by omega) (by omega) (fun d hd=>?_)
    simp only[go_sem]
    have hMx:=hM' d.Name
    have hdn:=kn_done (n:=n) (D:=n.Eqs.flatMap DEq.Names) (d:=d) (by rw[hW];exact List.mem_of_getElem? hd) hD
    refine drawV trK mo (by kernel_rfl) ?_
    simp only[go_sem,hMx]
    repeat' first
     | refine And.intro ?_ ?_
     | simp only[go_sem,hMx]
    all_goals
     refine brK_dec (fun hq=>?_) (fun hq=>?_)
     ·
      have hno:memB d.Name (n.Eqs.flatMap DEq.Names)=false:=by
       cases hb:memB d.Name (n.Eqs.flatMap DEq.Names) with
       | false=>rfl
       | true=>exact absurd (by have:=hdn.2 hb;omega) hq
      rw[List.all_eq_false.2 ⟨d,List.mem_of_getElem? hd,by simp[hno]⟩,if_neg (by simp)] at hf
      rw[hf,DFault.enc_eq] at hK
      simp only[go_sem]
      exact⟨[.agg [.i (j:Int),.i (-1),.i 5]],by simp only[go_sem],_,.refl _,hK _ _ _⟩
     ·
      have hyes:memB d.Name (n.Eqs.flatMap DEq.Names)=true:=hdn.1 (by omega)
      simp only[go_sem]
      exact loopFrX _ (by omega) _ ⟨i2+1,by omega,rfl,take_all hp2 (by simpa using hd) hyes,rfl⟩ (.next rfl (by omega) .nil) rfl (by first|rfl|(simp only[List.append_assoc,List.cons_append,List.nil_append];rfl))
   ·
    rw[List.all_eq_true.2 (take_full hp2 (by omega)),if_pos rfl] at hf
    rw[hf,DFault.enc_eq] at hK
    simp only[go_sem]
    exact⟨[.agg [.i 0,.i 0,.i 0]],by simp only[go_sem],_,.refl _,hK _ _ _⟩
end
end
theorem rightN (L:List DEnum) (n:DNode) (hn:okNode n):PCall Tryz.prog 241 [.lst 2 (L.map DEnum.enc) none,n.enc] (.b (nodeF L.length n)):=by
 have h1:=hn.1.1
 have h2:=hn.2.1.1
 have h3:=hn.2.2.1.1
 have hal:(allV n).length≤60:=by simp[allV];omega
 have hba:bareN n=(!(n.Ins.any fun d=>!(decide (d.On=⟨#[]⟩)))&&!(n.Outs.any fun d=>!(decide (d.On=⟨#[]⟩)))):=by
  unfold bareN
  rw[List.all_append,List.all_eq_not_any_not,List.all_eq_not_any_not]
 refine pcall_of_vc tabOK Tryz.func241 (by kernel_rfl) rfl pureL pureI (n:=55) rfl (rs:=[.tmp 4]) rfl ?_
 simp only[go_sem]
 refine acallK_of_vc tabOK Tryz.func286 (by kernel_rfl) rfl (n:=4) rfl (rs:=[.tmp 2]) rfl ?_
 simp only[go_sem]
 refine finK rfl ?_
 repeat' first
  | exact finB rfl
  | exact finI rfl
  | exact finP rfl
  | exact absurd rfl (by assumption)
  | simp only[go_sem]
  | (intro _)
  | refine brK_dec (fun _=>?_) (fun _=>?_)
  | refine brK_split (fun hb_=>?_) (fun hb_=>?_)
  | refine gK_dec (fun _=>?_) (fun _=>?_)
  | refine gK_split (fun hb_=>?_) (fun hb_=>?_)
  | refine gqK_dec (fun _=>?_) (fun _=>?_)
  | refine⟨by omega,?_⟩
  | refine elemHave (by omega) (by assumption) ?_
  | refine elemMap (by omega) (by omega) (fun x hx=>?_)
  | refine drawK mo (by kernel_rfl) ?_
  | (refine PCall.call (all63 n (by omega)) ?_)
  | (refine declared131 L x (k:=1) rfl ?_;generalize hdx:declaredF L.length x=b;cases b)
  | ((fail_if_success (clear hu));refine bareP ?_;generalize hu:(n.Ins.any fun d=>!(decide (d.On=⟨#[]⟩)))=u at hba ⊢;cases u)
  | (refine bareP ?_;generalize hv:(n.Outs.any fun d=>!(decide (d.On=⟨#[]⟩)))=v at hba ⊢;cases v)
  | (refine PCall.call (equationP x (hn.2.2.2.2.2 _ (List.mem_of_getElem? hx))) ?_;generalize hqx:eqF x=b;cases b)
  | (refine PCall.call (low6 n.Name) ?_;generalize hlx:lowF n.Name=b;cases b)
  | (refine finBq rfl ?_;rw[node_no hx hdx];done)
  | (refine finBq rfl ?_;rw[node_no2 hba];done)
  | (refine finBq rfl ?_;rw[node_no3 hx hqx];done)
  | (refine finBq rfl ?_;rw[node_yes hpi (by omega) hba hpj (by omega),hlx];first|rfl|(simp;done)|(simp;omega))
  | exact loopFrX _ (by omega) _ ⟨i+1,by omega,rfl,take_all hpi (by simpa using hx) hdx,rfl⟩ (.next rfl (by omega) .nil) rfl (by first|rfl|(simp only[List.append_assoc,List.cons_append,List.nil_append];rfl))
  | (refine loop_frX [4,7,16,17,18,19,20,21,22,23,24] (fun mm_ CC_=>∃(i:Nat),i≤(allV n).length∧mm_=(allV n).length-i∧(∀ d∈(allV n).take i,declaredF L.length d=true)∧CC_=[(16,.raw (.int .i64 ((i:Nat):Int)))]) ((allV n).length) _ ⟨0,by omega,by omega,by simp,rfl⟩ (.cons rfl .nil) ?_;rintro mm_ CC_ ji ri ⟨i,hi,rfl,hpi,rfl⟩)
  | exact loopFrX _ (by omega) _ ⟨j+1,by omega,rfl,take_all hpj (by simpa using hx) hqx,rfl⟩ (.next rfl (by omega) .nil) rfl (by first|rfl|(simp only[List.append_assoc,List.cons_append,List.nil_append];rfl))
  | (refine loop_frX [4,10,38,39,40,41,42,43,44,45] (fun mm_ CC_=>∃(j:Nat),j≤n.Eqs.length∧mm_=n.Eqs.length-j∧(∀ q∈n.Eqs.take j,eqF q=true)∧CC_=[(38,.raw (.int .i64 ((j:Nat):Int)))]) (n.Eqs.length) _ ⟨0,by omega,by omega,by simp,rfl⟩ (.cons rfl .nil) ?_;rintro mm_ CC_ jj rj ⟨j,hj,rfl,hpj,rfl⟩)
theorem greatP (n:DNode):PCall Tryz.prog 239 [n.enc] (.b (greatF n)):=by
 refine pcall_of_vc tabOK Tryz.func239 (by kernel_rfl) rfl pureL pureI (n:=25) rfl (rs:=[.tmp 2]) rfl ?_
 repeat' first
  | exact finB rfl
  | exact finI rfl
  | exact finP rfl
  | exact absurd rfl (by assumption)
  | simp only[go_sem]
  | (intro _)
  | refine brK_dec (fun _=>?_) (fun _=>?_)
  | refine brK_any ?_ ?_
  | refine gK_dec (fun _=>?_) (fun _=>?_)
  | refine gK_any ?_ ?_
  | refine gqK_dec (fun _=>?_) (fun _=>?_)
  | refine⟨by omega,?_⟩
  | refine elemHave (by omega) (by assumption) ?_
  | refine elemMap (by omega) (by omega) (fun x hx=>?_)
  | refine drawK mo (by kernel_rfl) ?_
  | (exfalso;omega)
  | (refine finBq rfl ?_;unfold greatF;(try rw[decide_eq_true (p:=n.Ins.length>6) (by omega)]);(try rw[decide_eq_false (p:=n.Ins.length>6) (by omega)]);(try rw[decide_eq_true (p:=n.Outs.length>6) (by omega)]);(try rw[decide_eq_false (p:=n.Outs.length>6) (by omega)]);(try rw[decide_eq_true (p:=n.Vars.length>12) (by omega)]);(try rw[decide_eq_false (p:=n.Vars.length>12) (by omega)]);simp;done)
  | (refine finBq rfl ?_;unfold greatF;(try rw[decide_eq_true (p:=n.Ins.length>6) (by omega)]);(try rw[decide_eq_false (p:=n.Ins.length>6) (by omega)]);(try rw[decide_eq_true (p:=n.Outs.length>6) (by omega)]);(try rw[decide_eq_false (p:=n.Outs.length>6) (by omega)]);(try rw[decide_eq_true (p:=n.Vars.length>12) (by omega)]);(try rw[decide_eq_false (p:=n.Vars.length>12) (by omega)]);simp;omega)
theorem onceP (n:DNode) (hl:(allV n).length≤60):PCall Tryz.prog 243 [n.enc] (.b (onceN n)):=by
 refine pcall_of_vc tabOK Tryz.func243 (by kernel_rfl) rfl pureL pureI (n:=21) rfl (rs:=[.tmp 2]) rfl ?_
 unfold onceN
 simp only[go_sem]
 refine PCall.call (all63 n (by omega)) ?_
 generalize allV n=L at hl
 simp only[go_sem]
 intro _
 refine loop_ghost (ghost_tok 3 9 1 rfl) ?_
 refine loop_fr [3,5,9,10,11,12,13,14,15,16,17,18] (fun m C hh=>∃(i:Nat) (r:List Blk),i≤L.length∧m=L.length-i∧C=[(9,.raw (.int .i64 (i:Nat))),(3,.lst 1 (((L.take i).map DDecl.Name).map AV.s) (some 1))]∧hh=.cells 68 [.s n.Name,.lst 6 (n.Ins.map DDecl.enc) none,.lst 6 (n.Outs.map DDecl.enc) none,.lst 6 (n.Vars.map DDecl.enc) none,.lst 7 (n.Eqs.map DEq.enc) none]::.tok 9 1 (L.take i).length::r) L.length _ ⟨0,[],by omega,by omega,rfl,rfl⟩ (.cons rfl (.cons rfl .nil)) ?_
 rintro m C j hh ⟨i,r,hi,rfl,rfl,rfl⟩
 simp only[go_sem]
 refine brK_dec (fun hlt=>?_) (fun hge=>?_)
 ·
  simp only[go_sem]
  refine elemMap (by omega) (by omega) (fun d hd=>?_)
  have hli:(L.take i).length=i:=by rw[List.length_take];omega
  have hli2:(L.take (i+1)).length=i+1:=by rw[List.length_take];omega
  have hst:=take_mapS (f:=DDecl.Name) hd
  try simp only[go_sem]
  refine⟨by simp;omega,?_⟩
  try simp only[go_sem]
  exact loopFr _ (by omega) ⟨i+1,_,by omega,rfl,rfl,by rw[hli2,hli]⟩ (.next rfl (by omega) (.cons (by rw[hst];simp[slot]) .nil)) rfl
 ·
  simp only[go_sem]
  rw[List.take_of_length_le (by omega)]
  refine PCall.callW (once12 (L.map DDecl.Name)) ⟨.tok _ _ _,trivial⟩ ?_
  simp only[go_sem]
  exact finBq rfl rfl
theorem eqErr_n {p:DProg} {a:Int} {n:DNode} {D:List ByteArray} {q:DEq} {E:Int} (h:namesErr n D q.Names=E) (hE:¬ E=0):eqErr p a n D q=E:=by
 subst h
 unfold eqErr
 rw[if_neg hE]
theorem eqErr_p {p:DProg} {a:Int} {n:DNode} {D:List ByteArray} {q:DEq} (h:namesErr n D q.Names=0) {b:Bool} (hb:(parts q.E).all (leadsF p a n)=b):eqErr p a n D q=if b=true then 0 else 5:=by
 unfold eqErr
 rw[if_pos h,hb]
theorem cnt_no {s:ByteArray} {l:List ByteArray} (h:¬ ((cntL s l:Nat):Int)>0):s ∉ l:=fun hm=>by have:=cntL_mem hm;omega
theorem cnt_yes {s:ByteArray} {l:List ByteArray} (h:((cntL s l:Nat):Int)>0):s∈l:=by
 by_cases q:s∈l
 ·
  exact q
 ·
  have:=cntL_zero q;omega
theorem not_both {s:ByteArray} {D l:List ByteArray} {k jj:Nat} (h1:¬ ((cntL s D:Nat):Int)>0) (h2:∀ x,l[k]?=some x→x ∉ l.take jj) (hs:l[((k:Nat):Int).toNat]?=some s) (hk:jj=k):s ∉ D++l.take k:=by
 rw[List.mem_append]
 rintro(h|h)
 ·
  exact cnt_no h1 h
 ·
  subst hk;exact h2 s (by simpa using hs) h
theorem eq92 (p:DProg) (j:Nat) (n:DNode) (hj:p.Nodes[j]?=some n) (hn:okNode n) (i:Nat) (q:DEq) (hq:n.Eqs[i]?=some q):PCall Tryz.prog 235 [p.enc,.i (j:Int),.i (i:Int)] (.i (eqErr p (j:Int) n ((n.Eqs.take i).flatMap DEq.Names) q)):=by
 have hl:=okN_lenX hn
 have hqo:=hn.2.2.2.2.2 q (List.mem_of_getElem? hq)
 have hpl:=hqo.2.1.1
 have hil:i<n.Eqs.length:=(List.getElem?_eq_some_iff.1 hq).1
 generalize hD:(n.Eqs.take i).flatMap DEq.Names=D
 refine pcall_of_vc tabOK Tryz.func235 (by kernel_rfl) rfl (by first|exact pureL|exact pureI) (by first|exact pureL|exact pureI) (n:=89) rfl (rs:=[.tmp 6]) rfl ?_
 repeat' first
  | exact finB rfl
  | exact finI rfl
  | exact finP rfl
  | exact absurd rfl (by assumption)
  | simp only[go_sem]
  | (intro _)
  | refine brK_dec (fun _=>?_) (fun _=>?_)
  | refine brK_split (fun hb_=>?_) (fun hb_=>?_)
  | refine gK_dec (fun _=>?_) (fun _=>?_)
  | refine gK_split (fun hb_=>?_) (fun hb_=>?_)
  | refine gqK_dec (fun _=>?_) (fun _=>?_)
  | refine⟨by omega,?_⟩
  | refine elemHave (by omega) (by assumption) ?_
  | ((fail_if_success (clear hy));refine elemMap (by omega) (by omega) (fun y hy=>?_))
  | refine elemMap (by omega) (by omega) (fun x hx=>?_)
  | refine drawK mo (by kernel_rfl) ?_
  | (exfalso;omega)
  | (refine elemHave (by omega) hj ?_)
  | (refine elemHave (by omega) hq ?_)
  | (refine PCall.call (parts_spec q.E (by omega)) ?_)
  | (refine pcK_of (is90 n y hl) ?_;generalize hiy:isF n y=b;cases b)
  | (refine pcK_of (input142 n y) ?_;generalize hny:inF n y=b;cases b)
  | (refine pcK_of (defined93 n hn y i (by omega)) ?_;rw[hD])
  | (refine pcK_of (part143 p j n hj hl y) ?_;generalize hpy:leadsF p (j:Int) n y=b;cases b)
  | (have e5:=names_5 hpk hy hiy;exact finIq rfl ((eqErr_n rfl (by omega)).trans e5).symm)
  | (have e6:=names_6 hpk hy hiy (.inl hny);exact finIq rfl ((eqErr_n rfl (by omega)).trans e6).symm)
  | (have e6:=names_6 hpk hy hiy (.inr (List.mem_append_left _ (cnt_yes (by assumption))));exact finIq rfl ((eqErr_n rfl (by omega)).trans e6).symm)
  | (have e6:=names_6 hpk hy hiy (.inr (List.mem_append_right _ (mem_take hx (by omega) (by assumption))));exact finIq rfl ((eqErr_n rfl (by omega)).trans e6).symm)
  | (have e0:=names_0 hpk (by omega);exact finIq rfl (eqErr_p e0 (List.all_eq_false.2 ⟨y,List.mem_of_getElem? hy,by simp[hpy]⟩)).symm)
  | (have e0:=names_0 hpk (by omega);exact finIq rfl (eqErr_p e0 (List.all_eq_true.2 (take_full hpm (by omega)))).symm)
  | exact loopFrH _ (by omega) ⟨k+1,by omega,rfl,names_next hpk hy hiy hny (not_both (by assumption) hpjj hy (by omega)),rfl⟩ (.next rfl (by omega) .nil) rfl
  | (refine loop_frH [6,9,10,23,24,25,26,27,28,29,30,31,32,33,34,35,36,37,38,39,40,41,42,43,44,45,46,47,48,49,50,51,52,53,54,55,56,57,58,59,60,61,62,63,64,65,66,67,68,69,70,71] (fun mm_ CC_=>∃(k:Nat),k≤q.Names.length∧mm_=q.Names.length-k∧(namesErr n (D++q.Names.take k) (q.Names.drop k)=namesErr n D q.Names)∧CC_=[(9,.raw (.int .i64 ((k:Nat):Int)))]) (q.Names.length) _ ⟨0,by omega,by omega,by simp,rfl⟩ (.cons rfl .nil) ?_;rintro mm_ CC_ jk ⟨k,hk,rfl,hpk,rfl⟩)
  | exact loopFrH _ (by omega) ⟨jj+1,by omega,rfl,ostep hpjj hy hx (by assumption),rfl⟩ (.next rfl (by omega) .nil) rfl
  | (refine loop_frH [6,10,56,57,58,59,60,61,62,63,64,65,66,67,68,69,70,71] (fun mm_ CC_=>∃(jj:Nat),jj≤k∧mm_=k-jj∧(∀ x,q.Names[k]?=some x→x ∉ q.Names.take jj)∧CC_=[(10,.raw (.int .i64 ((jj:Nat):Int)))]) (k) _ ⟨0,by omega,by omega,by simp,rfl⟩ (.cons rfl .nil) ?_;rintro mm_ CC_ jjj ⟨jj,hjj,rfl,hpjj,rfl⟩)
  | exact loopFrH _ (by omega) ⟨m+1,by omega,rfl,take_all hpm (by simpa using hy) hpy,rfl⟩ (.next rfl (by omega) .nil) rfl
  | (refine loop_frH [6,12,75,76,77,78,79,80,81,82,83,84,85,86,87,88] (fun mm_ CC_=>∃(m:Nat),m≤(parts q.E).length∧mm_=(parts q.E).length-m∧(∀ z∈(parts q.E).take m,leadsF p (j:Int) n z=true)∧CC_=[(12,.raw (.int .i64 ((m:Nat):Int)))]) ((parts q.E).length) _ ⟨0,by omega,by omega,by simp,rfl⟩ (.cons rfl .nil) ?_;rintro mm_ CC_ jm ⟨m,hm,rfl,hpm,rfl⟩)
end Go.Proofs.YtpamokpmlplopaaGreatDoor
