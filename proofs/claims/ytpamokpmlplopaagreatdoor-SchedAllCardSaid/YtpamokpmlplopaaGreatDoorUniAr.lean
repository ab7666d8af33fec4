/-
  Fits1, Fits2, Fits3, Fits4, Fits5, Fits6: put together.
-/
import Derived.Test.YtpamokpmlplopaaGreatDoorUniAi
import Derived.Test.YtpamokpmlplopaaGreatDoorUniAj
import Derived.Test.YtpamokpmlplopaaGreatDoorUniAm
import Derived.Test.YtpamokpmlplopaaGreatDoorUniAn
import Derived.Test.YtpamokpmlplopaaGreatDoorUniAo
namespace Go.Proofs.YtpamokpmlplopaaGreatDoor
open Go.Abs
set_option maxRecDepth 20000
set_option linter.unusedSimpArgs false
set_option linter.unusedVariables false
set_option maxHeartbeats 1000000
attribute [local irreducible] vc vcOps vcStep vcGuard prK hrK gK gsK brK callK ElemK SeqK BlockK ScopeK OpsK CallK LoopK LoopGo finPost ACall PCall PCallE BCall vqOps vqStep vqGuard qrK heK pcK gqK gqsK QOpsK qcallK DrawK
abbrev placeE (p:DProg) (k:Int):AV:=.agg [.lst 2 (p.Enums.map DEnum.enc) none,.lst 5 (p.Nodes.map DNode.enc) none,.i k]
theorem pure_place (p:DProg) (k:Int):Go.Abs.Pure (placeE p k):=.agg _ (pure_cons (DEnum.pures _) (pure_cons (DNode.pures _) (pure_cons (.raw _) pure_nil)))
def condOf (L:List DEnum) (nm arm:ByteArray):DCond:=⟨nm,(armF L arm).2.1⟩
def rowL (L:List DEnum) (l:List DDecl):List DCond × Bool:=if l.all (fun d=>armOk L d.Ctor)=true then(l.map (fun d=>condOf L d.On d.Ctor),true) else([],false)
def rowN (L:List DEnum) (n:DNode) (name:ByteArray):List DCond × Bool:=if(clock n name).2=true then rowL L (clock n name).1 else([],false)
def nodeAt (p:DProg) (k:Int):Option DNode:=if 0≤k then p.Nodes[k.toNat]? else none
def rowF (p:DProg) (k:Int) (name:ByteArray):List DCond × Bool:=match nodeAt p k with|some n=>rowN p.Enums n name|none=>([],false)
abbrev rowA (r:List DCond × Bool):AV:=.tup [.lst 2 (r.1.map DCond.enc) none,.b r.2]
theorem pure_rowA (r:List DCond × Bool):Go.Abs.Pure (rowA r):=.tup _ (pure_cons (DCond.pures _) (pure_cons (.raw _) pure_nil))
abbrev condA (c:DCond) (ok:Bool):AV:=.tup [c.enc,.b ok]
theorem condA_mk (nm:ByteArray) (v:Int) (ok:Bool):condA ⟨nm,v⟩ ok=.tup [.agg [.s nm,.i v],.b ok]:=by
 show AV.tup [DCond.enc _,_]=_
 rw[DCond.enc_eq]
theorem pure_condA (c:DCond) (ok:Bool):Go.Abs.Pure (condA c ok):=.tup _ (pure_cons (DCond.pure _) (pure_cons (.raw _) pure_nil))
theorem weak_norow:Weak (.tup [.raw (.slice none 0 0),.b false]) (rowA ([],false)):=Weak.tups ⟨.nil _,.refl _,trivial⟩
theorem isSome_getElem?_dec {α:Type} (l:List α) (i:Nat):(l[i]?).isSome=decide (i<l.length):=by
 by_cases h:i<l.length
 ·
  simp[h]
 ·
  simp[h]
  try omega
theorem rowL_no {L:List DEnum} {l:List DDecl} {d:DDecl} (hd:d∈l) (h:armOk L d.Ctor=false):rowL L l=([],false):=by
 unfold rowL
 rw[if_neg]
 intro q
 have:=List.all_eq_true.1 q d hd
 simp[h] at this
theorem rowL_yes {L:List DEnum} {l:List DDecl} (h:∀ d∈l,armOk L d.Ctor=true):rowL L l=(l.map (fun d=>condOf L d.On d.Ctor),true):=by
 unfold rowL
 rw[if_pos (List.all_eq_true.2 fun d hd=>by simpa using h d hd)]
theorem cond127 (p:DProg) (k:Int) (nm arm:ByteArray):PCall Tryz.prog 163 [placeE p k,.s nm,.s arm] (condA (condOf p.Enums nm arm) (armOk p.Enums arm)):=by
 refine pcall_of_vc tabOK Tryz.func163 (by kernel_rfl) rfl (pure_cons (pure_place p k) (pure_cons (.raw _) (pure_cons (.raw _) pure_nil))) (pure_condA _ _) (n:=24) rfl (rs:=[.cell 6 97,.tmp 7]) rfl ?_
 simp only[go_sem]
 refine PCall.call (arm146 _ _) ?_
 rw[show armF p.Enums arm=((armF p.Enums arm).1,(armF p.Enums arm).2.1,armOk p.Enums arm) from rfl]
 unfold condOf
 generalize armF p.Enums arm=d
 generalize armOk p.Enums arm=ok
 obtain⟨t,v,ok'⟩:=d
 rw[show armA (t,v,ok)=.tup [.agg [.i t.Kind,.i t.Enum,.i t.Len],.i v,.b ok] by rw[← DTy.enc_eq],condA_mk]
 simp only[go_sem]
 exact⟨_,rfl,false,.refl _⟩
theorem row90 (p:DProg) (k:Nat) (n:DNode) (hn:p.Nodes[k]?=some n) (name:ByteArray) (hl:(allV n).length≤4294967296):PCall Tryz.prog 131 [placeE p k,.s name] (rowA (rowN p.Enums n name)):=by
 refine pcall_of_vc tabOK Tryz.func131 (by kernel_rfl) rfl (pure_cons (pure_place p k) (pure_cons (.raw _) pure_nil)) (pure_rowA _) (n:=50) rfl (rs:=[.tmp 4,.tmp 5]) rfl ?_
 simp only[go_sem]
 refine elemHave (by omega) (by simpa using hn) ?_
 simp only[go_sem]
 refine PCall.call (clock21 n name hl) ?_
 unfold rowN
 have hlen:=clock_len n name
 generalize clock n name=d at hlen ⊢
 obtain⟨l,ok⟩:=d
 dsimp only at hlen
 simp only[go_sem]
 cases ok with
 | false =>
  simp only[go_sem]
  exact⟨_,rfl,false,weak_norow⟩
 | true =>
  simp only[go_sem]
  intro _
  refine loop_ghost (ghost_own 8 97 2 rfl) ?_
  simp only[go_sem]
  refine loop_fr [4,5,8,10,11,12,29,30,31,32,33,34,35,36,37,38,39,40,41,42,43,44,45,46,47,48] (fun m C h=>∃(i:Nat) (r:List Blk),i≤l.length∧m=l.length-i∧(∀ d∈l.take i,armOk p.Enums d.Ctor=true)∧C=[(29,.raw (.int .i64 (i:Nat))),(8,.own 2 1 (((l.take i).map (fun d=>condOf p.Enums d.On d.Ctor)).map DCond.enc).length)] ∧
   h=.cells 169 [.lst 2 (p.Enums.map DEnum.enc) none,.lst 5 (p.Nodes.map DNode.enc) none,.i k]::.own 97 2 (((l.take i).map (fun d=>condOf p.Enums d.On d.Ctor)).map DCond.enc)::r) l.length _ ⟨0,[],by omega,by omega,by simp,rfl,rfl⟩ (.cons rfl (.cons rfl .nil)) ?_
  rintro m C j h ⟨i,r,hi,rfl,ha,rfl,rfl⟩
  simp only[go_sem]
  refine brK_dec (fun hlt=>?_) (fun hge=>?_)
  ·
   simp only[go_sem]
   refine elemMap (by omega) (by omega) (fun x hx=>?_)
   have hx':l[i]?=some x:=by simpa using hx
   simp only[go_sem]
   refine PCall.call (cond127 p k x.On x.Ctor) ?_
   simp only[go_sem]
   cases hb:armOk p.Enums x.Ctor with
   | false =>
    simp only[go_sem]
    rw[rowL_no (List.mem_of_getElem? hx') hb]
    exact⟨_,rfl,false,weak_norow⟩
   | true =>
    simp only[go_sem]
    refine⟨by simp;omega,?_⟩
    have h3:((l.take (i+1)).map (fun d=>condOf p.Enums d.On d.Ctor)).map DCond.enc=((l.take i).map (fun d=>condOf p.Enums d.On d.Ctor)).map DCond.enc++[(condOf p.Enums x.On x.Ctor).enc]:=by
     obtain⟨hlt',rfl⟩:=List.getElem?_eq_some_iff.1 hx'
     rw[List.take_succ_eq_append_getElem hlt',List.map_append,List.map_append]
     rfl
    exact loopFr _ (by omega) ⟨i+1,_,by omega,rfl,take_all ha hx' hb,rfl,by rw[h3]⟩
     (.next rfl (by omega) (.cons (by simp;try omega) .nil)) rfl
  ·
   have:i=l.length:=by omega
   subst this
   simp only[go_sem]
   rw[List.take_length] at ha ⊢
   rw[rowL_yes ha]
   refine⟨_,rfl,true,?_⟩
   show Weak (.tup [frz _ (.own 2 1 _),.b true]) _
   refine Weak.tups ⟨?_,.refl _,trivial⟩
   simp[frz]
   exact .refl _
theorem at89 (p:DProg) (k:Int):PCall Tryz.prog 130 [p.enc,.i k] (.tup [placeE p k,.b (nodeAt p k).isSome]):=by
 refine pcall_of_vc tabOK Tryz.func130 (by kernel_rfl) rfl (by first|exact pureL|exact pureI) (.tup _ (pure_cons (pure_place p k) (pure_cons (.raw _) pure_nil))) (n:=18) rfl (rs:=[.cell 4 169,.tmp 5]) rfl ?_
 unfold nodeAt
 simp only[go_sem]
 refine drawC [1] mo (by kernel_rfl) ?_
 repeat' first
  | exact finB rfl
  | exact finI rfl
  | exact finP rfl
  | exact absurd rfl (by assumption)
  | simp only[go_sem]
  | (intro _)
  | refine brK_dec (fun _=>?_) (fun _=>?_)
  | refine brK_any ?_ ?_
  | refine gK_dec (fun _=>?_) (fun _=>?_)
  | refine gK_any ?_ ?_
  | refine gqK_dec (fun _=>?_) (fun _=>?_)
  | refine⟨by omega,?_⟩
  | refine elemHave (by omega) (by assumption) ?_
  | refine elemMap (by omega) (by omega) (fun x hx=>?_)
  | refine drawK mo (by kernel_rfl) ?_
 ·
  rw[if_pos (by assumption),show(p.Nodes[k.toNat]?).isSome=decide (k<p.Nodes.length) by rw[isSome_getElem?_dec];congr 1;apply propext;omega]
  exact⟨_,rfl,false,.refl _⟩
 ·
  rw[if_neg (by assumption)]
  exact⟨_,rfl,false,.refl _⟩
theorem row45 (p:DProg) (k:Int) (name:ByteArray) (hl:∀ n∈p.Nodes,(allV n).length≤4294967296):PCall Tryz.prog 90 [p.enc,.i k,.s name] (rowA (rowF p k name)):=by
 refine pcall_of_vc tabOK Tryz.func90 (by kernel_rfl) rfl pureL pureI (n:=23) rfl (rs:=[.tmp 6,.tmp 7]) rfl ?_
 simp only[go_sem]
 refine PCall.call (at89 p k) ?_
 simp only[go_sem]
 unfold rowF
 cases hn:nodeAt p k with
 | none =>
  simp only[go_sem,Option.isSome_none]
  exact⟨_,rfl,false,weak_norow⟩
 | some n =>
  unfold nodeAt at hn
  have hk:0≤k:=by
   rcases Int.lt_or_le k 0 with h|h
   ·
    rw[if_neg (by omega)] at hn;cases hn
   ·
    exact h
  rw[if_pos hk] at hn
  obtain⟨m,rfl⟩:=Int.eq_ofNat_of_zero_le hk
  have hn':p.Nodes[m]?=some n:=by simpa using hn
  simp only[go_sem,Option.isSome_some]
  refine PCall.call (row90 p m n hn' name (hl n (List.mem_of_getElem? hn'))) ?_
  simp only[go_sem]
  exact⟨_,rfl,false,.refl _⟩
section
theorem sameCs (l m:List DCond):PCall Tryz.prog 21 [.lst 2 (l.map (DCond.enc)) none,.lst 2 (m.map (DCond.enc)) none] (.b (eqB l m)):=by
 refine pcall_of_vc tabOK Tryz.func21 (by kernel_rfl) rfl pureL pureI (n:=26) rfl (rs:=[.tmp 4]) rfl ?_
 repeat' first
  | exact finB rfl
  | exact finI rfl
  | exact finP rfl
  | exact absurd rfl (by assumption)
  | simp only[go_sem]
  | (intro _)
  | refine brK_dec (fun _=>?_) (fun _=>?_)
  | refine brK_any ?_ ?_
  | refine gK_dec (fun _=>?_) (fun _=>?_)
  | refine gK_any ?_ ?_
  | refine gqK_dec (fun _=>?_) (fun _=>?_)
  | refine⟨by omega,?_⟩
  | refine elemHave (by omega) (by assumption) ?_
  | refine elemMap (by omega) (by omega) (fun x hx=>?_)
  | refine drawK mo (by kernel_rfl) ?_
  | (rw[eqB_ne (len_ne (l:=l) (m:=m) (by omega))];exact⟨_,rfl,false,.refl _⟩)
  | (rw[eqB_ne (at_ne (l:=l) (m:=m) (i:=i) (by assumption) (by assumption) (by assumption))];exact⟨_,rfl,false,.refl _⟩)
  | (rw[eqB_eq (take_eq_full (l:=l) (m:=m) (i:=i) (by omega) hpi (by omega))];exact⟨_,rfl,false,.refl _⟩)
  | exact loopFrH _ (by omega) ⟨i+1,by omega,rfl,take_eq_step hpi (by assumption) (by assumption) (by assumption),rfl⟩ (.next rfl (by omega) .nil) rfl
  | (refine loop_frH [4,5,11,12,13,14,15,16,17,18,19,20,21,22,23,24,25] (fun mm_ CC_=>∃(i:Nat),i≤l.length∧mm_=l.length-i∧(l.take i=m.take i)∧CC_=[(5,.raw (.int .i64 ((i:Nat):Int)))]) (l.length) _ ⟨0,by omega,by omega,rfl,rfl⟩ (.cons rfl .nil) ?_;rintro mm_ CC_ ji ⟨i,hi,rfl,hpi,rfl⟩)
theorem equalCs (l m:List DCond):PCall Tryz.prog 110 [.lst 2 (l.map (DCond.enc)) none,.lst 2 (m.map (DCond.enc)) none] (.b (eqB l m)):=by
 refine pcall_of_vc tabOK Tryz.func110 (by kernel_rfl) rfl pureL pureI (n:=26) rfl (rs:=[.tmp 4]) rfl ?_
 repeat' first
  | exact finB rfl
  | exact finI rfl
  | exact finP rfl
  | exact absurd rfl (by assumption)
  | simp only[go_sem]
  | (intro _)
  | refine brK_dec (fun _=>?_) (fun _=>?_)
  | refine brK_any ?_ ?_
  | refine gK_dec (fun _=>?_) (fun _=>?_)
  | refine gK_any ?_ ?_
  | refine gqK_dec (fun _=>?_) (fun _=>?_)
  | refine⟨by omega,?_⟩
  | refine elemHave (by omega) (by assumption) ?_
  | refine elemMap (by omega) (by omega) (fun x hx=>?_)
  | refine drawK mo (by kernel_rfl) ?_
  | (rw[eqB_ne (len_ne (l:=l) (m:=m) (by omega))];exact⟨_,rfl,false,.refl _⟩)
  | (rw[eqB_ne (at_ne (l:=l) (m:=m) (i:=i) (by assumption) (by assumption) (by assumption))];exact⟨_,rfl,false,.refl _⟩)
  | (rw[eqB_eq (take_eq_full (l:=l) (m:=m) (i:=i) (by omega) hpi (by omega))];exact⟨_,rfl,false,.refl _⟩)
  | exact loopFrH _ (by omega) ⟨i+1,by omega,rfl,take_eq_step hpi (by assumption) (by assumption) (by assumption),rfl⟩ (.next rfl (by omega) .nil) rfl
  | (refine loop_frH [4,5,13,14,15,16,17,18,19,20,21,22,23,24,25] (fun mm_ CC_=>∃(i:Nat),i≤l.length∧mm_=l.length-i∧(l.take i=m.take i)∧CC_=[(13,.raw (.int .i64 ((i:Nat):Int)))]) (l.length) _ ⟨0,by omega,by omega,rfl,rfl⟩ (.cons rfl .nil) ?_;rintro mm_ CC_ ji ⟨i,hi,rfl,hpi,rfl⟩)
mutual
noncomputable def fitsF (R:ByteArray→List DCond × Bool) (L:List DEnum):Ex→List DCond→Bool
 | .mk k _ m _ a s,on =>
  if k=1∨k=2∨k=4 then true
  else if k=3 then(R m).2&&eqB (R m).1 on
  else if k=8 then decide (s.length=2)&&fitsT R L s on
  else if k=11 then decide (a.length=1)&&decide (s.length=1)&&(R m).2&&armOk L (a.headD ⟨#[]⟩)&&eqB on ((R m).1++[condOf L m (a.headD ⟨#[]⟩)])&&fitsL R L s (R m).1
  else if k=12 then(R m).2&&eqB (R m).1 on&&decide (a.length=s.length)&&fitsM R L m a s on
  else if k=17 then false
  else fitsL R L s on
noncomputable def fitsL (R:ByteArray→List DCond × Bool) (L:List DEnum):List Ex→List DCond→Bool
 | [],_=>true
 | x::xs,on=>fitsF R L x on&&fitsL R L xs on
noncomputable def fitsT (R:ByteArray→List DCond × Bool) (L:List DEnum):List Ex→List DCond→Bool
 | [],_=>true
 | _::xs,on=>fitsL R L xs on
noncomputable def fitsM (R:ByteArray→List DCond × Bool) (L:List DEnum) (m:ByteArray):List ByteArray→List Ex→List DCond→Bool
 | _,[],_=>true
 | [],_::_,_=>true
 | c::cs,x::xs,on=>armOk L c&&fitsF R L x (on++[condOf L m c])&&fitsM R L m cs xs on
end
theorem fitsF_eq (R:ByteArray→List DCond × Bool) (L:List DEnum) (e:Ex) (on:List DCond):fitsF R L e on =
  if e.kind=1∨e.kind=2∨e.kind=4 then true
  else if e.kind=3 then(R e.name).2&&eqB (R e.name).1 on
  else if e.kind=8 then decide (e.subs.length=2)&&fitsL R L (e.subs.drop 1) on
  else if e.kind=11 then decide (e.arms.length=1)&&decide (e.subs.length=1)&&(R e.name).2&&armOk L (e.arms.headD ⟨#[]⟩)&&eqB on ((R e.name).1++[condOf L e.name (e.arms.headD ⟨#[]⟩)])&&fitsL R L e.subs (R e.name).1
  else if e.kind=12 then(R e.name).2&&eqB (R e.name).1 on&&decide (e.arms.length=e.subs.length)&&fitsM R L e.name e.arms e.subs on
  else if e.kind=17 then false
  else fitsL R L e.subs on:=by
 cases e with
 | mk k n m o a s =>
  rw[fitsF]
  have:fitsT R L s on=fitsL R L (s.drop 1) on:=by cases s<;>simp[fitsT,fitsL]
  rw[this]
  rfl
section
variable {R:ByteArray→List DCond × Bool} {L:List DEnum}
theorem fitsL_all (s:List Ex) (on:List DCond):fitsL R L s on=s.all (fun x=>fitsF R L x on):=by
 induction s with
 | nil=>simp[fitsL]
 | cons x s ih=>simp[fitsL,ih]
theorem fitsM_yes {m:ByteArray} {on:List DCond}:∀ {a:List ByteArray} {s:List Ex},(∀(i:Nat) c x,a[i]?=some c→s[i]?=some x→armOk L c=true∧fitsF R L x (on++[condOf L m c])=true)→fitsM R L m a s on=true
 | _,[],_=>by simp[fitsM]
 | [],_::_,_=>by simp[fitsM]
 | c::cs,x::xs,h=>by
  have h0:=h 0 c x rfl rfl
  rw[fitsM,h0.1,h0.2]
  simp only[Bool.true_and]
  exact fitsM_yes fun i c x hc hx=>h (i+1) c x (by simpa using hc) (by simpa using hx)
theorem fitsM_at {m:ByteArray} {on:List DCond}:∀ {a:List ByteArray} {s:List Ex} {i:Nat} {c:ByteArray} {x:Ex},fitsM R L m a s on=true→a[i]?=some c→s[i]?=some x→armOk L c=true∧fitsF R L x (on++[condOf L m c])=true
 | _,[],i,_,_,_,_,hx=>by simp at hx
 | [],_::_,i,_,_,_,hc,_=>by simp at hc
 | c::cs,x::xs,0,c',x',h,hc,hx=>by
  simp at hc hx
  subst hc;subst hx
  rw[fitsM] at h
  simp only[Bool.and_eq_true] at h
  exact h.1
 | c::cs,x::xs,i+1,c',x',h,hc,hx=>by
  rw[fitsM] at h
  simp only[Bool.and_eq_true] at h
  exact fitsM_at h.2 (by simpa using hc) (by simpa using hx)
theorem fitsM_no {m:ByteArray} {on:List DCond} {a:List ByteArray} {s:List Ex} {i:Nat} {c:ByteArray} {x:Ex} (hc:a[i]?=some c) (hx:s[i]?=some x) (h:armOk L c=false∨fitsF R L x (on++[condOf L m c])=false):fitsM R L m a s on=false:=by
 cases hb:fitsM R L m a s on with
 | false=>rfl
 | true =>
  have:=fitsM_at hb hc hx
  simp_all
end
theorem monoAppI:∀(r x:List Blk),MonoH r (r++x)
 | [],_=>trivial
 | b::r,x=>⟨by cases b<;>trivial,monoAppI r x⟩
theorem monoApp (r x:List Blk):MonoH r (r++x)=True:=eq_true (monoAppI r x)
theorem monoApp2:∀(r x y:List Blk),MonoH (r++x) (r++y)=MonoH x y
 | [],_,_=>rfl
 | b::r,x,y=>by
  show((match b with|.cells _ cs=>(match b with|.cells _ cs'=>cs=cs'|_=>False)|_=>True)∧MonoH (r++x) (r++y))=_
  rw[monoApp2 r x y]
  cases b<;>simp
theorem on_split {on:List DCond} {k:Nat} {c:DCond} (hk:on.length=k+1) (hc:on[k]?=some c):on=on.take k++[c]:=by
 obtain⟨hlt,rfl⟩:=List.getElem?_eq_some_iff.1 hc
 rw[← List.take_succ_eq_append_getElem hlt,List.take_of_length_le (by omega)]
theorem eqB_split {on r:List DCond} {j:Nat} {c d:DCond} (hon:on=on.take j++[c]):eqB on (r++[d])=(eqB r (on.take j)&&decide (c=d)):=by
 by_cases h1:r=on.take j
 ·
  by_cases h2:c=d
  ·
   rw[eqB_eq (by rw[h1,← h2];exact hon),eqB_eq h1];simp[h2]
  ·
   rw[eqB_ne (fun e=>h2 (by rw[hon] at e;exact(List.append_inj' e rfl).2 |> fun q=>by simpa using q))];simp[h2]
 ·
  rw[eqB_ne (fun e=>h1 (by rw[hon] at e;exact(List.append_inj' e rfl).1.symm)),eqB_ne h1];simp
theorem eq_one {α:Type} {l:List α} {x:α} (hl:l.length=1) (hx:l[0]?=some x):l=[x]:=by
 match l,hl with
 | [y],_=>simp at hx;rw[hx]
theorem size_lt {e x:Ex} (h:x∈e.subs):(parts x).length<(parts e).length:=by
 obtain⟨i,hi,rfl⟩:=List.getElem_of_mem h
 have:=parts_le hi
 rw[parts_eq e]
 simp
 omega
theorem on129 (p:DProg) (k:Nat) (n:DNode) (hn:p.Nodes[k]?=some n) (hl:(allV n).length≤4294967296) (name:ByteArray) (on:List DCond) :
  PCall Tryz.prog 201 [placeE p k,.s name,.lst 2 (on.map DCond.enc) none] (.b ((rowN p.Enums n name).2&&eqB (rowN p.Enums n name).1 on)):=by
 refine pcall_of_vc tabOK Tryz.func201 (by kernel_rfl) rfl (pure_cons (pure_place p k) (pure_cons (.raw _) (pure_cons (DCond.pures _) pure_nil))) (.raw _) (n:=21) rfl (rs:=[.tmp 6]) rfl ?_
 simp only[go_sem]
 refine PCall.call (row90 p k n hn name hl) ?_
 generalize rowN p.Enums n name=r
 obtain⟨r,ok⟩:=r
 cases ok with
 | false =>
  simp only[go_sem]
  first|exact⟨_,rfl,false,.refl _⟩|(refine drawK mo (by kernel_rfl) ?_;simp only[go_sem];exact⟨_,rfl,false,.refl _⟩)
 | true =>
  simp only[go_sem]
  first|refine PCall.call (equalCs r on) ?_|(refine drawK mo (by kernel_rfl) ?_;simp only[go_sem];refine pcK_of (equalCs r on) ?_)
  simp only[go_sem]
  exact⟨_,rfl,false,.refl _⟩
theorem when134 (on:List DCond) (name:ByteArray) (v:Int) (hl:on.length≤1000000):PCall Tryz.prog 144 [.lst 2 (on.map DCond.enc) none,.s name,.i v] (.lst 2 ((on++[(⟨name,v⟩:DCond)]).map DCond.enc) none):=by
 refine pcall_of_vc tabOK Tryz.func144 (by kernel_rfl) rfl pureL pureI (n:=15) rfl (rs:=[.tmp 6]) rfl ?_
 repeat' first
  | exact finB rfl
  | exact finI rfl
  | exact finP rfl
  | exact absurd rfl (by assumption)
  | simp only[go_sem]
  | (intro _)
  | refine brK_dec (fun _=>?_) (fun _=>?_)
  | refine brK_any ?_ ?_
  | refine gK_dec (fun _=>?_) (fun _=>?_)
  | refine gK_any ?_ ?_
  | refine gqK_dec (fun _=>?_) (fun _=>?_)
  | refine⟨by omega,?_⟩
  | refine elemHave (by omega) (by assumption) ?_
  | refine elemMap (by omega) (by omega) (fun x hx=>?_)
  | refine drawK mo (by kernel_rfl) ?_
  | (refine⟨⟨by simp,by simp;omega⟩,?_⟩)
  | (refine⟨⟨by omega,by omega⟩,?_⟩)
  | (rw[List.map_append,show List.map DCond.enc [(⟨name,v⟩:DCond)]=[.agg [.s name,.i v]] by simp[DCond.enc_eq]];exact⟨_,rfl,false,.tok _ _ _⟩)
end
theorem when130 (p:DProg) (k:Nat) (n:DNode) (hn:p.Nodes[k]?=some n) (hl:(allV n).length≤4294967296) (e:Ex) (on:List DCond) (h11:e.kind=11)
  (ih:∀ x∈e.subs,∀ on':List DCond,on'.length≤on.length+14→PCall Tryz.prog 202 [placeE p k,x.enc,.lst 2 (on'.map DCond.enc) none] (.b (fitsF (rowN p.Enums n) p.Enums x on'))) :
  PCall Tryz.prog 250 [placeE p k,e.enc,.lst 2 (on.map DCond.enc) none] (.b (fitsF (rowN p.Enums n) p.Enums e on)):=by
 refine pcall_of_vc tabOK Tryz.func250 (by kernel_rfl) rfl (pure_cons (pure_place p k) (pure_cons (pure_enc e) (pure_cons (DCond.pures _) pure_nil))) (.raw _) (n:=67) rfl (rs:=[.tmp 6]) rfl ?_
 have hB:fitsF (rowN p.Enums n) p.Enums e on=(decide (e.arms.length=1)&&decide (e.subs.length=1)&&(rowN p.Enums n e.name).2&&armOk p.Enums (e.arms.headD ⟨#[]⟩)&&eqB on ((rowN p.Enums n e.name).1++[condOf p.Enums e.name (e.arms.headD ⟨#[]⟩)])&&fitsL (rowN p.Enums n) p.Enums e.subs (rowN p.Enums n e.name).1):=by
  rw[fitsF_eq];simp[h11]
 rw[hB]
 clear hB
 by_cases hst:¬ (on.length=0)∧e.arms.length=1∧e.subs.length=1
 ·
  obtain⟨hon,ha1,hs1⟩:=hst
  obtain⟨j,hj⟩:∃ j,on.length=j+1:=⟨on.length-1,by omega⟩
  obtain⟨c,hc⟩:∃ c,on[j]?=some c:=⟨_,List.getElem?_eq_getElem (by omega)⟩
  obtain⟨a,ha⟩:∃ a,e.arms[0]?=some a:=⟨_,List.getElem?_eq_getElem (by omega)⟩
  obtain⟨x,hx⟩:∃ x,e.subs[0]?=some x:=⟨_,List.getElem?_eq_getElem (by omega)⟩
  have hxm:=List.mem_of_getElem? hx
  have hon':=on_split hj hc
  rw[eq_one ha1 ha]
  rw[show fitsL (rowN p.Enums n) p.Enums e.subs (rowN p.Enums n e.name).1=fitsF (rowN p.Enums n) p.Enums x (rowN p.Enums n e.name).1 by rw[eq_one hs1 hx];simp[fitsL]]
  simp only[hs1,List.headD_cons,List.length_singleton,decide_true,Bool.true_and]
  simp only[go_sem]
  intro hmax
  have hw:IntKind.i64.wrap ((on.length:Int)-1)=(j:Int):=by rw[hj,wrap_in _ (by omega) (by omega)];omega
  simp only[hw]
  repeat' first
   | (exfalso;omega)
   | simp only[go_sem]
   | refine brK_dec (fun _=>?_) (fun _=>?_)
   | refine gK_dec (fun _=>?_) (fun _=>?_)
   | refine gqK_dec (fun _=>?_) (fun _=>?_)
   | (intro _)
   | refine drawK mo (by kernel_rfl) ?_
   | refine elemHave (by omega) ha ?_
   | refine elemHave (by omega) hx ?_
   | refine elemHave (by omega) (by simpa using hc) ?_
   | (refine pcK_of (cond127 p k e.name a) ?_;generalize hok:armOk p.Enums a=ok;cases ok)
   | (refine pcK_of (on129 p k n hn hl e.name (on.take j)) ?_;rw[Int.toNat_natCast];generalize hr:rowN p.Enums n e.name=r;obtain⟨r,okr⟩:=r;cases okr<;>(try generalize hq:eqB r (on.take j)=q)<;>(try cases q)<;>(try (replace hq:=eqB_t hq;subst hq)))
   | refine pcK_of (ih x hxm (on.take j) (by simp;omega)) ?_
   | refine⟨by omega,?_⟩
   | (refine finBq rfl ?_;first|(simp;done)|(rw[eqB_split hon'];clear hon';simp[*];done)|(rw[eqB_split hon',eqB_eq rfl];clear hon';simp[*];done))
 ·
  have hB:(decide (e.arms.length=1)&&decide (e.subs.length=1)&&(rowN p.Enums n e.name).2&&armOk p.Enums (e.arms.headD ⟨#[]⟩)&&eqB on ((rowN p.Enums n e.name).1++[condOf p.Enums e.name (e.arms.headD ⟨#[]⟩)])&&fitsL (rowN p.Enums n) p.Enums e.subs (rowN p.Enums n e.name).1)=false:=by
   by_cases h0:on.length=0
   ·
    have:eqB on ((rowN p.Enums n e.name).1++[condOf p.Enums e.name (e.arms.headD ⟨#[]⟩)])=false:=eqB_ne (len_ne (by simp;omega))
    rw[this];simp
   ·
    have:¬ (e.arms.length=1)∨¬ (e.subs.length=1):=by
     rcases Classical.em (e.arms.length=1) with q|q
     ·
      exact .inr fun q'=>hst ⟨h0,q,q'⟩
     ·
      exact .inl q
    rcases this with q|q<;>simp[q]
  rw[hB]
  simp only[go_sem]
  intro hmax
  have hw:IntKind.i64.wrap ((on.length:Int)-1)=(on.length:Int)-1:=wrap_in _ (by omega) (by omega)
  simp only[hw]
  repeat' first
   | (exfalso;omega)
   | exact finP rfl
   | simp only[go_sem]
   | refine brK_dec (fun _=>?_) (fun _=>?_)
   | refine gK_dec (fun _=>?_) (fun _=>?_)
   | refine gqK_dec (fun _=>?_) (fun _=>?_)
   | (intro _)
   | refine drawK mo (by kernel_rfl) ?_
theorem weak_tk {sz:Nat} {es ds:List AV} {k:Nat} (h:es=ds):Weak (.lst sz es (some k)) (.lst sz ds none):=h▸.tok _ _ _
theorem merge131 (p:DProg) (k:Nat) (n:DNode) (hn:p.Nodes[k]?=some n) (hl:(allV n).length≤4294967296) (e:Ex) (on:List DCond) (h12:e.kind=12) (hlen:on.length≤1000000)
  (ih:∀ x∈e.subs,∀ on':List DCond,on'.length≤on.length+14→PCall Tryz.prog 202 [placeE p k,x.enc,.lst 2 (on'.map DCond.enc) none] (.b (fitsF (rowN p.Enums n) p.Enums x on'))) :
  PCall Tryz.prog 251 [placeE p k,e.enc,.lst 2 (on.map DCond.enc) none] (.b (fitsF (rowN p.Enums n) p.Enums e on)):=by
 refine pcall_of_vc tabOK Tryz.func251 (by kernel_rfl) rfl (pure_cons (pure_place p k) (pure_cons (pure_enc e) (pure_cons (DCond.pures _) pure_nil))) (.raw _) (n:=66) rfl (rs:=[.tmp 6]) rfl ?_
 have hB:fitsF (rowN p.Enums n) p.Enums e on=((rowN p.Enums n e.name).2&&eqB (rowN p.Enums n e.name).1 on&&decide (e.arms.length=e.subs.length)&&fitsM (rowN p.Enums n) p.Enums e.name e.arms e.subs on):=by
  rw[fitsF_eq];simp[h12]
 rw[hB]
 clear hB
 have hon:=on129 p k n hn hl e.name on
 simp only[go_sem]
 refine PCall.call hon ?_
 generalize ((rowN p.Enums n e.name).2&&eqB (rowN p.Enums n e.name).1 on)=b0
 cases b0 with
 | false =>
  rw[Bool.false_and,Bool.false_and]
  simp only[go_sem]
  exact finP rfl
 | true =>
  rw[Bool.true_and]
  simp only[go_sem]
  intro _ _
  refine brK_dec (fun hne=>?_) (fun heq=>?_)
  ·
   simp only[go_sem]
   exact finBq rfl (by have:¬ (e.arms.length=e.subs.length):=by omega
                       simp[this])
  ·
   have heq':e.arms.length=e.subs.length:=by omega
   rw[decide_eq_true heq',Bool.true_and]
   simp only[go_sem,List.take_length]
   intro _ _
   refine⟨by omega,?_⟩
   intro _
   refine loop_frX [6,8,9,10,11,36,37,38,39,40,41,42,43,44,45,46,47,48,49,50,51,52,53,54,55,56,57,58,59,60,61,62,63,64,65] (fun m C=>∃ i:Nat,i≤e.arms.length∧m=e.arms.length-i∧(∀(j:Nat) c x,j<i→e.arms[j]?=some c→e.subs[j]?=some x→armOk p.Enums c=true∧fitsF (rowN p.Enums n) p.Enums x (on++[condOf p.Enums e.name c])=true)∧C=[(36,.raw (.int .i64 (i:Nat)))]) e.arms.length _ ⟨0,by omega,by omega,fun j c x hj=>by omega,rfl⟩ (.cons rfl .nil) ?_
   rintro m C jj r ⟨i,hi,rfl,hp,rfl⟩
   simp only[go_sem]
   refine brK_dec (fun hlt=>?_) (fun hge=>?_)
   ·
    have hlt':i<e.arms.length:=by omega
    obtain⟨c,hc⟩:∃ c,e.arms[i]?=some c:=⟨_,List.getElem?_eq_getElem hlt'⟩
    obtain⟨x,hx⟩:∃ x,e.subs[i]?=some x:=⟨_,List.getElem?_eq_getElem (by omega)⟩
    simp only[go_sem]
    refine elemHave (by omega) (by simpa using hc) ?_
    simp only[go_sem]
    refine PCall.call (cond127 p k e.name c) ?_
    generalize hok:armOk p.Enums c=ok
    cases ok with
    | false =>
     simp only[go_sem]
     refine drawK mo (by kernel_rfl) ?_
     simp only[go_sem,monoApp,monoApp2]
     exact finBq rfl (fitsM_no hc hx (.inl hok)).symm
    | true =>
     simp only[go_sem]
     refine drawK mo (by kernel_rfl) ?_
     simp only[go_sem,monoApp,monoApp2]
     refine elemHave (by omega) (by simpa using hx) ?_
     simp only[go_sem,monoApp,monoApp2]
     simp only[Int.toNat_natCast,List.take_length]
     refine⟨⟨by first|rfl|trivial|omega,by omega⟩,?_⟩
     refine pcK_ofW (ih x (List.mem_of_getElem? hx) (on++[condOf p.Enums e.name c]) (by simp)) ⟨.refl _,.refl _,weak_tk (by simp),trivial⟩ ?_
     generalize hf:fitsF (rowN p.Enums n) p.Enums x (on++[condOf p.Enums e.name c])=f
     cases f with
     | false =>
      simp only[go_sem]
      exact finBq rfl (fitsM_no hc hx (.inr hf)).symm
     | true =>
      simp only[go_sem]
      exact loopFrX _ (by omega) _ ⟨i+1,by omega,rfl,fun j c' x' hj hc' hx'=>by
       rcases Nat.lt_or_ge j i with h|h
       ·
        exact hp j c' x' h hc' hx'
       ·
        have:j=i:=by omega
        subst this
        rw[hc] at hc';rw[hx] at hx'
        cases hc';cases hx'
        exact⟨hok,hf⟩,rfl⟩ (.next rfl (by omega) .nil) rfl (by first|rfl|(simp only[List.append_assoc,List.cons_append,List.nil_append];rfl))
   ·
    have:i=e.arms.length:=by omega
    subst this
    simp only[go_sem]
    refine finBq rfl (fitsM_yes fun j c x hc hx=>hp j c x (List.getElem?_eq_some_iff.1 hc).1 hc hx).symm
theorem containsEx {l:List Ex} {p:Ex→Bool} {g:Nat} {first capt:List AV} {h:List Blk} {K:AV→List Blk→Prop} (hp:∀ x∈l,∀ K:AV→List Blk→Prop,K (.b (p x)) h→ACall Tryz.prog g (first++Ex.enc x::capt) h K)
  (hK:K (.b (l.any p)) h):ACall Tryz.prog 170 [.lst 6 (l.map Ex.enc) none,.fn (.func g) first capt] h K:=by
 refine acall_of_vc tabOK Tryz.func170 (by kernel_rfl) rfl (n:=9) rfl (rs:=[.tmp 4]) rfl ?_
 simp only[go_sem]
 refine indexEx hp ?_
 simp only[go_sem]
 rw[idx_any]
 exact finH1 rfl (.raw _) hK
theorem fits92 (p:DProg) (k:Nat) (n:DNode) (hn:p.Nodes[k]?=some n) (hl:(allV n).length≤4294967296):∀(e:Ex) (on:List DCond),on.length+14 * (parts e).length≤100000 →
  PCall Tryz.prog 202 [placeE p k,e.enc,.lst 2 (on.map DCond.enc) none] (.b (fitsF (rowN p.Enums n) p.Enums e on)):=by
 intro e
 induction e using Ex.ind with
 | _ e ih =>
 intro on hb
 have ih':∀ x∈e.subs,∀ on':List DCond,on'.length≤on.length+14→PCall Tryz.prog 202 [placeE p k,x.enc,.lst 2 (on'.map DCond.enc) none] (.b (fitsF (rowN p.Enums n) p.Enums x on')) :=
  fun x hx on' h=>ih x hx on' (by have:=size_lt hx;omega)
 refine pcall_of_vc tabOK Tryz.func202 (by kernel_rfl) rfl (pure_cons (pure_place p k) (pure_cons (pure_enc e) (pure_cons (DCond.pures _) pure_nil))) (.raw _) (n:=48) rfl (rs:=[.tmp 6]) rfl ?_
 simp only[go_sem]
 repeat' first
  | (exfalso;omega)
  | simp only[go_sem]
  | refine brK_dec (fun _=>?_) (fun _=>?_)
  | (intro _)
  | refine⟨by omega,?_⟩
  | refine PCall.call (on129 p k n hn hl e.name on) ?_
  | refine PCall.call (when130 p k n hn hl e on (by assumption) ih') ?_
  | refine PCall.call (merge131 p k n hn hl e on (by assumption) (by omega) ih') ?_
  | (refine finBq rfl ?_;rw[fitsF_eq];first|(simp[*];done)|(have h2:¬ e.subs.length=2:=(by omega);simp[*];done))
  | (refine finBq rfl rfl)
  | (refine containsEx (p:=fun x=>!fitsF (rowN p.Enums n) p.Enums x on) (fun x hx K hK=>?_) ?_
     ·
      refine acall_of_vc tabOK Tryz.func252 (by kernel_rfl) rfl (n:=10) rfl (rs:=[.tmp 4]) rfl ?_
      simp only[go_sem]
      refine PCall.call (ih' x (by first|exact hx|exact List.mem_of_mem_drop hx) on (by omega)) ?_
      simp only[go_sem]
      exact finH0 _ rfl (.raw _) hK
     simp only[go_sem]
     refine finBq rfl ?_
     rw[fitsF_eq]
     first|(simp[*,fitsL_all,List.all_eq_not_any_not];done)|(have h2:e.subs.length=2:=(by omega);simp[*,fitsL_all,List.all_eq_not_any_not];done))
theorem nodeAt_nat {p:DProg} {k:Nat}:nodeAt p k=p.Nodes[k]?:=by simp[nodeAt]
theorem nodeAt_none {p:DProg} {k:Int}:nodeAt p k=none↔(k<0∨k≥p.Nodes.length):=by
 unfold nodeAt
 split
 ·
  simp[List.getElem?_eq_none_iff];omega
 ·
  simp;omega
theorem nodeAt_some {p:DProg} {k:Int} {n:DNode} (h:nodeAt p k=some n):∃ j:Nat,k=j∧p.Nodes[j]?=some n:=by
 unfold nodeAt at h
 split at h
 ·
  exact⟨k.toNat,by omega,h⟩
 ·
  cases h
abbrev progB (p:DProg):Blk:=.cells 25 [.lst 2 (p.Enums.map DEnum.enc) none,.lst 5 (p.Nodes.map DNode.enc) none]
theorem armA_fst (L:List DEnum) (c:ByteArray):armA (armF L c)=armA ((armF L c).1,(armF L c).2.1,armOk L c):=rfl
theorem row46v (p:DProg) (k:Nat) (n:DNode) (hn:p.Nodes[k]?=some n) (name:ByteArray) (hl:(allV n).length≤4294967296):PCall Tryz.prog 35 [p.enc,.i k,.s name] (rowA (rowN p.Enums n name)):=by
 refine pcall_of_vc tabOK Tryz.func35 (by kernel_rfl) rfl pureL pureI (n:=68) rfl (rs:=[.tmp 6,.tmp 7]) rfl ?_
 have hk:k<p.Nodes.length:=(List.getElem?_eq_some_iff.1 hn).1
 repeat' first|(exfalso;omega)|simp only[go_sem]|(intro _)|refine gK_dec (fun _=>?_) (fun _=>?_)|refine brK_dec (fun _=>?_) (fun _=>?_)
 refine elemHave (by omega) (by simpa using hn) ?_
 simp only[go_sem]
 refine PCall.call (clock22 n name hl) ?_
 unfold rowN
 have hlen:=clock_len n name
 generalize clock n name=d at hlen ⊢
 obtain⟨l,ok⟩:=d
 dsimp only at hlen
 cases ok with
 | false =>
  simp only[go_sem]
  exact⟨_,rfl,false,weak_norow⟩
 | true =>
  simp only[go_sem]
  refine loop_fr [6,7,10,11,12,13,14,37,38,39,40,41,42,43,44,45,46,47,48,49,50,51,52,53,54,55,56,57,58,59,60,61,62,63,64,65,66] (fun m C h=>∃(i:Nat) (r:List Blk),i≤l.length∧m=l.length-i∧(∀ d∈l.take i,armOk p.Enums d.Ctor=true)∧C=[(11,.raw (.int .i64 (i:Nat))),(10,.lst 2 (((l.take i).map (fun d=>condOf p.Enums d.On d.Ctor)).map DCond.enc) (some 1))] ∧
   h=progB p::.tok 97 2 (((l.take i).map (fun d=>condOf p.Enums d.On d.Ctor)).map DCond.enc).length::r) l.length _ ⟨0,[],by omega,by omega,by simp,rfl,rfl⟩ (.cons rfl (.cons rfl .nil)) ?_
  rintro m C j h ⟨i,r,hi,rfl,ha,rfl,rfl⟩
  simp only[go_sem]
  intro _
  refine brK_dec (fun hlt=>?_) (fun hge=>?_)
  ·
   simp only[go_sem]
   refine drawK mo (by kernel_rfl) ?_
   simp only[go_sem]
   refine elemMap (by omega) (by omega) (fun x hx=>?_)
   have hx':l[i]?=some x:=by simpa using hx
   simp only[go_sem]
   refine pcK_of (arm91 p.Enums x.Ctor) ?_
   rw[armA_fst]
   generalize hb:armOk p.Enums x.Ctor=ok
   cases ok with
   | false =>
    simp only[go_sem,monoApp,monoApp2]
    rw[rowL_no (List.mem_of_getElem? hx') hb]
    exact⟨_,rfl,false,weak_norow⟩
   | true =>
    simp only[go_sem,monoApp,monoApp2]
    refine elemMap (by omega) (by omega) (fun y hy=>?_)
    rw[hx] at hy;cases hy
    simp only[go_sem]
    refine⟨by simp;omega,?_⟩
    have h3:((l.take (i+1)).map (fun d=>condOf p.Enums d.On d.Ctor)).map DCond.enc=((l.take i).map (fun d=>condOf p.Enums d.On d.Ctor)).map DCond.enc++[.agg [.s x.On,.i (armF p.Enums x.Ctor).2.1]]:=by
     obtain⟨hlt',rfl⟩:=List.getElem?_eq_some_iff.1 hx'
     rw[List.take_succ_eq_append_getElem hlt',List.map_append,List.map_append]
     simp only[List.map_cons,List.map_nil,DCond.enc_eq,condOf]
    have h4:(l.take (i+1)).length=(l.take i).length+1:=by simp;omega
    exact loopFr _ (by omega) ⟨i+1,_,by omega,rfl,take_all ha hx' hb,rfl,by rw[h4]⟩
     (.next rfl (by omega) (.cons (by rw[h3];rfl) .nil)) rfl
  ·
   have:i=l.length:=by omega
   subst this
   simp only[go_sem]
   rw[List.take_length] at ha ⊢
   rw[rowL_yes ha]
   exact⟨_,rfl,false,Weak.tups ⟨.tok _ _ _,.refl _,trivial⟩⟩
theorem row46n (p:DProg) (k:Int) (hn:nodeAt p k=none) (name:ByteArray):PCall Tryz.prog 35 [p.enc,.i k,.s name] (rowA ([],false)):=by
 refine pcall_of_vc tabOK Tryz.func35 (by kernel_rfl) rfl pureL pureI (n:=68) rfl (rs:=[.tmp 6,.tmp 7]) rfl ?_
 have hk:=nodeAt_none.1 hn
 repeat' first|(exfalso;omega)|exact⟨_,rfl,false,weak_norow⟩|simp only[go_sem]|(intro _)|refine gK_dec (fun _=>?_) (fun _=>?_)|refine brK_dec (fun _=>?_) (fun _=>?_)
theorem row46 (p:DProg) (k:Int) (name:ByteArray) (hl:∀ n∈p.Nodes,(allV n).length≤4294967296):PCall Tryz.prog 35 [p.enc,.i k,.s name] (rowA (rowF p k name)):=by
 unfold rowF
 cases hn:nodeAt p k with
 | none=>exact row46n p k hn name
 | some n =>
  obtain⟨j,rfl,hj⟩:=nodeAt_some hn
  exact row46v p j n hj name (hl n (List.mem_of_getElem? hj))
end Go.Proofs.YtpamokpmlplopaaGreatDoor
