/-
  ChkX, ChkX2, ScopeX1, OrdKit: put together.
-/
import Derived.Test.YtpamokpmlplopaaGreatDoorUniAh
import Derived.Test.YtpamokpmlplopaaGreatDoorUniAi
import Derived.Test.YtpamokpmlplopaaGreatDoorUniAj
import Derived.Test.YtpamokpmlplopaaGreatDoorUniAn
import Derived.Test.YtpamokpmlplopaaGreatDoorUniAo
namespace Go.Proofs.YtpamokpmlplopaaGreatDoor
open Go.Abs
set_option maxRecDepth 20000
set_option linter.unusedSimpArgs false
set_option linter.unusedVariables false
set_option maxHeartbeats 1000000
attribute [local irreducible] vc vcOps vcStep vcGuard prK hrK gK gsK brK callK ElemK SeqK BlockK ScopeK OpsK CallK LoopK LoopGo finPost ACall PCall PCallE BCall vqOps vqStep vqGuard qrK heK pcK gqK gqsK QOpsK qcallK DrawK
theorem allVn {n:DNode} (h:okNode n):(allV n).length≤60:=by
 have h1:=h.1.1
 have h2:=h.2.1.1
 have h3:=h.2.2.1.1
 simp[allV]
 omega
theorem map_app (l m:List ByteArray):l.map AV.s++m.map AV.s=(l++m).map AV.s:=by simp
def okAB (i:Nat) (a b:List ByteArray):Prop:=a.length≤i∧b.length≤12 * i∧∀ s∈b,s.size≤100
theorem okAB.zero:okAB 0 [] []:=⟨by simp,by simp,by simp⟩
theorem okAB.next {l:List DEnum} {i:Nat} {a b:List ByteArray} {x:DEnum} (h:okAB i a b) (hl:okEnums l) (hx:l[((i:Nat):Int).toNat]?=some x):okAB (i+1) (a++[x.Name]) (b++x.Ctors):=by
 have hm:=hl.2 x (List.mem_of_getElem? hx)
 have h1:=hm.1
 refine⟨by have:=h.1;simp;omega,by have:=h.2.1;simp;omega,fun s hs=>?_⟩
 rcases List.mem_append.1 hs with q|q
 ·
  exact h.2.2 s q
 ·
  exact hm.2.2 s q
theorem nm_next {l:List DDecl} {i:Nat} {a:List ByteArray} {x:DDecl} (h:a=(l.take i).map DDecl.Name∧a.length≤i) (hx:l[((i:Nat):Int).toNat]?=some x):a++[x.Name]=(l.take (i+1)).map DDecl.Name∧(a++[x.Name]).length≤i+1 :=
 ⟨by rw[take_mapS hx,h.1],by have:=h.2;simp;omega⟩
theorem names83 (l:List DDecl) (hl:l.length≤100000):PCall Tryz.prog 232 [.lst 6 (l.map DDecl.enc) none] (.lst 1 ((l.map DDecl.Name).map AV.s) none):=by
 refine pcall_of_vc tabOK Tryz.func232 (by kernel_rfl) rfl pureL pureI (n:=21) rfl (rs:=[.tmp 2]) rfl ?_
 repeat' first
  | exact finB rfl
  | exact finI rfl
  | exact finP rfl
  | exact absurd rfl (by assumption)
  | simp only[go_sem]
  | (intro _)
  | refine brK_dec (fun _=>?_) (fun _=>?_)
  | refine brK_any ?_ ?_
  | refine gK_dec (fun _=>?_) (fun _=>?_)
  | refine gK_any ?_ ?_
  | refine gqK_dec (fun _=>?_) (fun _=>?_)
  | refine⟨by omega,?_⟩
  | refine elemHave (by omega) (by assumption) ?_
  | refine elemMap (by omega) (by omega) (fun x hx=>?_)
  | refine drawK mo (by kernel_rfl) ?_
  | (simp only[map_snoc])
  | (refine⟨by have:=hpi.2;first|omega|(simp;omega),?_⟩)
  | (rw[show l.map DDecl.Name=a by rw[hpi.1,List.take_of_length_le (by omega)]];exact⟨_,rfl,false,.tok _ _ _⟩)
  | exact loopFr _ (by omega) ⟨i+1,a++[x.Name],_,by omega,rfl,nm_next hpi hx,rfl,(by first|rfl|(simp;done)|(simp;rfl))⟩ (.next rfl (by omega) (.cons (by first|rfl|(simp;done)|(simp;rfl)) .nil)) rfl
  | (refine loop_fr [3,4,6,7,8,9,10,11,12,13,14,15,16,17,18,19] (fun mm_ CC_ hh_=>∃(i:Nat) (a:List ByteArray) (r_:List Blk),i≤l.length∧mm_=l.length-i∧((a=(l.take i).map DDecl.Name∧a.length≤i))∧CC_=[(4,.raw (.int .i64 ((i:Nat):Int))),(3,.lst 1 (a.map AV.s) (some 0))]∧hh_=.tok 9 1 a.length::r_) (l.length) _ ⟨0,[],_,by omega,by omega,⟨by simp,by simp⟩,rfl,(by first|rfl|(simp;done)|(simp;rfl))⟩ (.cons (by first|rfl|(simp;done)|(simp;rfl)) (.cons (by first|rfl|(simp;done)|(simp;rfl)) .nil)) ?_;rintro mm_ CC_ ji hh_ ⟨i,a,ri,hi,rfl,hpi,rfl,rfl⟩)
abbrev progBc (p:DProg):Blk:=.cells 25 [.lst 2 (p.Enums.map DEnum.enc) none,.lst 5 (p.Nodes.map DNode.enc) none]
theorem rightTyX (l:List DEnum) (t:DTy):PCall Tryz.prog 310 [.lst 2 (l.map DEnum.enc) none,t.enc] (.b (rightTyF l.length t)):=by
 refine pcall_of_vc tabOK Tryz.func310 (by kernel_rfl) rfl pureL pureI (n:=39) rfl (rs:=[.tmp 4]) rfl ?_
 repeat' first
  | exact finB rfl
  | exact finI rfl
  | exact finP rfl
  | exact absurd rfl (by assumption)
  | simp only[go_sem]
  | (intro _)
  | refine brK_dec (fun _=>?_) (fun _=>?_)
  | refine brK_any ?_ ?_
  | refine gK_dec (fun _=>?_) (fun _=>?_)
  | refine gK_any ?_ ?_
  | refine gqK_dec (fun _=>?_) (fun _=>?_)
  | refine⟨by omega,?_⟩
  | refine elemHave (by omega) (by assumption) ?_
  | refine elemMap (by omega) (by omega) (fun x hx=>?_)
  | refine drawK mo (by kernel_rfl) ?_
  | (exfalso;omega)
  | (refine finBq rfl ?_;unfold rightTyF;exact(decide_eq_true (by omega)).symm)
  | (refine finBq rfl ?_;unfold rightTyF;exact(decide_eq_false (by omega)).symm)
  | (refine finBq rfl ?_;unfold rightTyF;exact decide_eq_decide.2 (by omega))
theorem armX (s:ByteArray):PCall Tryz.prog 311 [.s s] (.b (armE s)):=by
 refine pcall_of_vc tabOK Tryz.func311 (by kernel_rfl) rfl pureL pureI (n:=13) rfl (rs:=[.tmp 2]) rfl ?_
 unfold armE
 repeat' first
  | exact finB rfl
  | exact finI rfl
  | exact finP rfl
  | exact absurd rfl (by assumption)
  | simp only[go_sem]
  | (intro _)
  | refine brK_dec (fun _=>?_) (fun _=>?_)
  | refine brK_split (fun hb_=>?_) (fun hb_=>?_)
  | refine gK_dec (fun _=>?_) (fun _=>?_)
  | refine gK_split (fun hb_=>?_) (fun hb_=>?_)
  | refine gqK_dec (fun _=>?_) (fun _=>?_)
  | refine⟨by omega,?_⟩
  | refine elemHave (by omega) (by assumption) ?_
  | refine elemMap (by omega) (by omega) (fun x hx=>?_)
  | refine drawK mo (by kernel_rfl) ?_
  | (refine PCall.call (high_x s) ?_;generalize highF s=q;cases q)
  | (exact finBq rfl (by simp[*]))
theorem declX (l:List DEnum) (d:DDecl):PCall Tryz.prog 280 [.lst 2 (l.map DEnum.enc) none,d.enc] (.b (declaredF l.length d)):=by
 refine pcall_of_vc tabOK Tryz.func280 (by kernel_rfl) rfl pureL pureI (n:=34) rfl (rs:=[.tmp 4]) rfl ?_
 repeat' first
  | exact finB rfl
  | exact finI rfl
  | exact finP rfl
  | exact absurd rfl (by assumption)
  | simp only[go_sem]
  | (intro _)
  | refine brK_dec (fun _=>?_) (fun _=>?_)
  | refine brK_split (fun hb_=>?_) (fun hb_=>?_)
  | refine gK_dec (fun _=>?_) (fun _=>?_)
  | refine gK_split (fun hb_=>?_) (fun hb_=>?_)
  | refine gqK_dec (fun _=>?_) (fun _=>?_)
  | refine⟨by omega,?_⟩
  | refine elemHave (by omega) (by assumption) ?_
  | refine elemMap (by omega) (by omega) (fun x hx=>?_)
  | refine drawK mo (by kernel_rfl) ?_
  | (refine PCall.call (low_x d.Name) ?_;generalize h1:lowF d.Name=q;cases q)
  | (refine PCall.call (low_x d.On) ?_;generalize h2:lowF d.On=q;cases q)
  | (refine PCall.call (rightTyX l d.Ty) ?_;generalize h3:rightTyF l.length d.Ty=q;cases q)
  | (refine PCall.call (armX d.Ctor) ?_;generalize h4:armE d.Ctor=q;cases q)
  | (refine finBq rfl ?_;first|(simp only[declaredF,bareF,h1,h2,h3,h4];simp[*];done)|(simp only[declaredF,bareF,h1,h2,h3];simp[*];done)|(simp only[declaredF,bareF,h1,h3];simp[*];done)|(simp only[declaredF,bareF,h1];simp[*];done))
theorem eqX (q:DEq) (hq:okEq q):PCall Tryz.prog 281 [q.enc] (.b (eqF q)):=by
 refine pcall_of_vc tabOK Tryz.func281 (by kernel_rfl) rfl pureL pureI (n:=39) rfl (rs:=[.tmp 2]) rfl ?_
 repeat' first
  | exact finB rfl
  | exact finI rfl
  | exact finP rfl
  | exact absurd rfl (by assumption)
  | simp only[go_sem]
  | (intro _)
  | refine brK_dec (fun _=>?_) (fun _=>?_)
  | refine brK_split (fun hb_=>?_) (fun hb_=>?_)
  | refine gK_dec (fun _=>?_) (fun _=>?_)
  | refine gK_split (fun hb_=>?_) (fun hb_=>?_)
  | refine gqK_dec (fun _=>?_) (fun _=>?_)
  | refine⟨by omega,?_⟩
  | refine elemHave (by omega) (by assumption) ?_
  | refine elemMap (by omega) (by omega) (fun x hx=>?_)
  | refine drawK mo (by kernel_rfl) ?_
  | (refine PCall.call (low_x x) ?_;generalize hpx:lowF x=b;cases b)
  | (refine PCall.call (right17x _ hq.2.1) ?_;generalize hrx:rightE q.E=b;cases b)
  | (refine finBq rfl ?_;unfold eqF;rw[List.all_eq_false.2 ⟨x,List.mem_of_getElem? hx,by simp[hpx]⟩];simp;done)
  | (have hall:=List.all_eq_true.2 (take_full hpi (by omega));refine finBq rfl ?_;unfold eqF;rw[hall];(try rw[decide_eq_true (p:=0<q.Names.length) (by omega)]);(try rw[decide_eq_false (p:=0<q.Names.length) (by omega)]);(try rw[decide_eq_true (p:=q.Names.length≤1) (by omega)]);(try rw[decide_eq_false (p:=q.Names.length≤1) (by omega)]);simp[*];done)
  | exact loopFrH _ (by omega) ⟨i+1,by omega,rfl,take_all hpi (by simpa using hx) hpx,rfl⟩ (.next rfl (by omega) .nil) rfl
  | (refine loop_frH [2,3,4,5,6,7,8,9,10,11,12,13,14,15,16,17] (fun mm_ CC_=>∃(i:Nat),i≤q.Names.length∧mm_=q.Names.length-i∧(∀ s∈q.Names.take i,lowF s=true)∧CC_=[(3,.raw (.int .i64 ((i:Nat):Int)))]) (q.Names.length) _ ⟨0,by omega,by omega,by simp,rfl⟩ (.cons rfl .nil) ?_;rintro mm_ CC_ ji ⟨i,hi,rfl,hpi,rfl⟩)
theorem nodeX (l:List DEnum) (n:DNode) (hn:okNode n):PCall Tryz.prog 230 [.lst 2 (l.map DEnum.enc) none,n.enc] (.b (nodeF l.length n)):=by
 refine pcall_of_vc tabOK Tryz.func230 (by kernel_rfl) rfl pureL pureI (n:=65) rfl (rs:=[.tmp 4]) rfl ?_
 have hal:=allVn hn
 have h1:=hn.1.1
 have h2:=hn.2.1.1
 have hw:IntKind.i64.wrap ((n.Ins.length:Int)+(n.Outs.length:Int))=(n.Ins.length:Int)+(n.Outs.length:Int):=wrap_in _ (by omega) (by omega)
 repeat' first
  | exact finB rfl
  | exact finI rfl
  | exact finP rfl
  | exact absurd rfl (by assumption)
  | simp only[go_sem]
  | (intro _)
  | refine brK_dec (fun _=>?_) (fun _=>?_)
  | refine brK_split (fun hb_=>?_) (fun hb_=>?_)
  | refine gK_dec (fun _=>?_) (fun _=>?_)
  | refine gK_split (fun hb_=>?_) (fun hb_=>?_)
  | refine gqK_dec (fun _=>?_) (fun _=>?_)
  | refine⟨by omega,?_⟩
  | refine elemHave (by omega) (by assumption) ?_
  | refine elemMap (by omega) (by omega) (fun x hx=>?_)
  | refine drawK mo (by kernel_rfl) ?_
  | (refine PCall.call (all66 n (by omega)) ?_)
  | (refine PCall.call (declX l x) ?_;generalize hdx:declaredF l.length x=b;cases b)
  | (refine PCall.call (eqX x (hn.2.2.2.2.2 _ (List.mem_of_getElem? hx))) ?_;generalize hqx:eqF x=b;cases b)
  | (refine PCall.call (low_x n.Name) ?_;generalize hlx:lowF n.Name=b;cases b)
  | (refine finBq rfl ?_;rw[node_no hx hdx];done)
  | (refine finBq rfl ?_;rw[node_no2 (bare_no hx (by omega) (by assumption))];done)
  | (refine finBq rfl ?_;rw[node_no3 hx hqx];done)
  | (refine finBq rfl ?_;rw[node_yes hpi.1 (by omega) (bare_yes hpi.2 (by omega)) hpj (by omega),hlx];first|rfl|(simp;done)|(simp;omega))
  | exact loopFrH _ (by omega) ⟨i+1,by omega,rfl,⟨take_all hpi.1 (by simpa using hx) hdx,bare_next hpi.2 hx (fun hlt=>by first|assumption|omega|exact Classical.not_not.1 (by assumption))⟩,rfl⟩ (.next rfl (by omega) .nil) rfl
  | (refine loop_frH [4,6,10,11,12,13,14,15,16,17,18,19,20,21,22,23,24,25,26,27,28,29,30,31,32,33,34,35,36,37,38,39,40,41] (fun mm_ CC_=>∃(i:Nat),i≤(allV n).length∧mm_=(allV n).length-i∧((∀ d∈(allV n).take i,declaredF l.length d=true)∧(∀ d∈(n.Ins++n.Outs).take i,decide (d.On=⟨#[]⟩)=true))∧CC_=[(6,.raw (.int .i64 ((i:Nat):Int)))]) ((allV n).length) _ ⟨0,by omega,by omega,⟨by simp,by simp⟩,rfl⟩ (.cons rfl .nil) ?_;rintro mm_ CC_ ji ⟨i,hi,rfl,hpi,rfl⟩)
  | exact loopFrH _ (by omega) ⟨j+1,by omega,rfl,take_all hpj (by simpa using hx) hqx,rfl⟩ (.next rfl (by omega) .nil) rfl
  | (refine loop_frH [4,7,42,43,44,45,46,47,48,49,50,51,52,53,54,55] (fun mm_ CC_=>∃(j:Nat),j≤n.Eqs.length∧mm_=n.Eqs.length-j∧(∀ q∈n.Eqs.take j,eqF q=true)∧CC_=[(7,.raw (.int .i64 ((j:Nat):Int)))]) (n.Eqs.length) _ ⟨0,by omega,by omega,by simp,rfl⟩ (.cons rfl .nil) ?_;rintro mm_ CC_ jj ⟨j,hj,rfl,hpj,rfl⟩)
def okAX (l:List DEnum) (i:Nat) (a b:List ByteArray):Prop:=okAB i a b∧a=(l.take i).map DEnum.Name∧b=(l.take i).flatMap DEnum.Ctors∧∀ e∈l.take i,e.Ctors.length≤6
theorem okAX.zero {l:List DEnum}:okAX l 0 [] []:=⟨.zero,by simp,by simp,by simp⟩
theorem okAX.next {l:List DEnum} {i:Nat} {a b:List ByteArray} {x:DEnum} (h:okAX l i a b) (hl:okEnums l) (hx:l[((i:Nat):Int).toNat]?=some x) (h6:x.Ctors.length≤6):okAX l (i+1) (a++[x.Name]) (b++x.Ctors) :=
 ⟨h.1.next hl hx,by rw[take_mapS hx,h.2.1],by rw[flatMap_next _ (by simpa using hx),h.2.2.1],take_all h.2.2.2 (by simpa using hx) h6⟩
theorem en_ok {e:DEnum} (h:lowF e.Name=true) (h2:0<e.Ctors.length):(lowF e.Name&&decide (0<e.Ctors.length))=true:=by simp[h,h2]
theorem en_bad {e:DEnum} {b:Bool} (h:lowF e.Name=b) (h2:¬ 0<e.Ctors.length):(lowF e.Name&&decide (0<e.Ctors.length))=false:=by rw[decide_eq_false h2,Bool.and_false]
theorem en_bad0 {e:DEnum} (h:lowF e.Name=false):(lowF e.Name&&decide (0<e.Ctors.length))=false:=by rw[h,Bool.false_and]
theorem enumsX (l:List DEnum) (hl:okEnums l):PCall Tryz.prog 229 [.lst 2 (l.map DEnum.enc) none] (.i (enumsF l)):=by
 refine pcall_of_vc tabOK Tryz.func229 (by kernel_rfl) rfl pureL pureI (n:=83) rfl (rs:=[.tmp 2]) rfl ?_
 have hl8:=hl.1
 repeat' first
  | exact finB rfl
  | exact finI rfl
  | exact finP rfl
  | exact absurd rfl (by assumption)
  | simp only[go_sem]
  | (intro _)
  | refine brK_dec (fun _=>?_) (fun _=>?_)
  | refine brK_split (fun hb_=>?_) (fun hb_=>?_)
  | refine gK_dec (fun _=>?_) (fun _=>?_)
  | refine gK_split (fun hb_=>?_) (fun hb_=>?_)
  | refine gqK_dec (fun _=>?_) (fun _=>?_)
  | refine⟨by omega,?_⟩
  | refine elemHave (by omega) (by assumption) ?_
  | refine elemMap (by omega) (by omega) (fun x hx=>?_)
  | refine drawK mo (by kernel_rfl) ?_
  | (simp only[map_snoc])
  | (simp only[map_app])
  | (refine⟨by have h8:=hpi.1.1;have h9:=hpi.1.2.1;have h7:=(hl.2 _ (List.mem_of_getElem? hx)).1;first|omega|(simp;omega),?_⟩)
  | ((fail_if_success (clear hax));have hax:a=l.map DEnum.Name:=(by rw[hpi.2.1,List.take_of_length_le (by omega)];done);have hbx:b=l.flatMap DEnum.Ctors:=(by rw[hpi.2.2.1,List.take_of_length_le (by omega)];done);have hgx:greatE l=false:=en_small (by omega) hpi.2.2.2 (by omega);subst hax hbx)
  | (refine PCall.call (low_x x.Name) ?_;generalize hlx:lowF x.Name=q;cases q)
  | (refine PCall.call (high_x x) ?_;generalize hhx:highF x=q;cases q)
  | (refine PCall.callW (once_x (l.map DEnum.Name)) ⟨.tok _ _ _,trivial⟩ ?_;generalize ho1:onceB (l.map DEnum.Name)=q;cases q)
  | (refine PCall.callW (once_x (l.flatMap DEnum.Ctors)) ⟨.tok _ _ _,trivial⟩ ?_;generalize ho2:onceB (l.flatMap DEnum.Ctors)=q;cases q)
  | (refine finIq rfl ?_;rw[en_many (en_great1 (by omega))];done)
  | (refine finIq rfl ?_;rw[en_many (en_great2 hx (by omega))];done)
  | (refine finIq rfl ?_;rw[en_arg1 hgx hx (en_bad0 hlx)];done)
  | (refine finIq rfl ?_;rw[en_arg1 hgx hx (en_bad hlx (by omega))];done)
  | (refine finIq rfl ?_;rw[en_arg2 hgx hx hhx];done)
  | (refine finIq rfl ?_;rw[en_end hgx hpj (by omega) hpk (by omega)];simp[*];done)
  | exact loopFr _ (by omega) ⟨i+1,a++[x.Name],b++x.Ctors,_,by omega,rfl,hpi.next hl hx (by omega),rfl,(by first|rfl|(simp;done)|(simp;rfl))⟩ (.next rfl (by omega) (.cons (by first|rfl|(simp;done)|(simp;rfl)) (.cons (by first|rfl|(simp;done)|(simp;rfl)) .nil))) rfl
  | (refine loop_fr [2,3,4,5,13,14,15,16,17,18,19,20,21,22,23,24,25,26,27,28,29,30,31,32,33,34,35,36,37,38,39,40] (fun mm_ CC_ hh_=>∃(i:Nat) (a:List ByteArray) (b:List ByteArray) (r_:List Blk),i≤l.length∧mm_=l.length-i∧(okAX l i a b)∧CC_=[(5,.raw (.int .i64 ((i:Nat):Int))),(3,.lst 1 (a.map AV.s) (some 0)),(4,.lst 1 (b.map AV.s) (some 1))]∧hh_=.tok 9 1 a.length::.tok 9 1 b.length::r_) (l.length) _ ⟨0,[],[],_,by omega,by omega,.zero,rfl,(by first|rfl|(simp;done)|(simp;rfl))⟩ (.cons (by first|rfl|(simp;done)|(simp;rfl)) (.cons (by first|rfl|(simp;done)|(simp;rfl)) (.cons (by first|rfl|(simp;done)|(simp;rfl)) .nil))) ?_;rintro mm_ CC_ ji hh_ ⟨i,a,b,ri,hi,rfl,hpi,rfl,rfl⟩)
  | exact loopFrH _ (by omega) ⟨j+1,by omega,rfl,take_all hpj (by simpa using hx) (en_ok hlx (by omega)),rfl⟩ (.next rfl (by omega) .nil) rfl
  | (refine loop_frH [2,6,41,42,43,44,45,46,47,48,49,50,51,52,53,54,55,56,57,58,59,60,61,62] (fun mm_ CC_=>∃(j:Nat),j≤l.length∧mm_=l.length-j∧(∀ e∈l.take j,(lowF e.Name&&decide (0<e.Ctors.length))=true)∧CC_=[(6,.raw (.int .i64 ((j:Nat):Int)))]) (l.length) _ ⟨0,by omega,by omega,by simp,rfl⟩ (.cons rfl .nil) ?_;rintro mm_ CC_ jj ⟨j,hj,rfl,hpj,rfl⟩)
  | exact loopFrH _ (by omega) ⟨k+1,by omega,rfl,take_all hpk (by simpa using hx) hhx,rfl⟩ (.next rfl (by omega) .nil) rfl
  | (refine loop_frH [2,7,63,64,65,66,67,68,69,70,71,72,73,74] (fun mm_ CC_=>∃(k:Nat),k≤(l.flatMap DEnum.Ctors).length∧mm_=(l.flatMap DEnum.Ctors).length-k∧(∀ c∈(l.flatMap DEnum.Ctors).take k,highF c=true)∧CC_=[(7,.raw (.int .i64 ((k:Nat):Int)))]) ((l.flatMap DEnum.Ctors).length) _ ⟨0,by omega,by omega,by simp,rfl⟩ (.cons rfl .nil) ?_;rintro mm_ CC_ jk ⟨k,hk,rfl,hpk,rfl⟩)
section
theorem okN_lenX {n:DNode} (h:okNode n):(allV n).length≤60:=by
 have h1:=h.1.1
 have h2:=h.2.1.1
 have h3:=h.2.2.1.1
 simp[allV]
 omega
def chkX (p:DProg) (i:Nat) (a:List ByteArray) (u v:Bool):Prop:=a=(p.Nodes.take i).map DNode.Name∧u=(p.Nodes.take i).all (nodeF p.Enums.length)∧v=(p.Nodes.take i).all onceN∧∀ n∈p.Nodes.take i,greatF n=false
theorem chkX.zero {p:DProg}:chkX p 0 [] true true:=⟨by simp,by simp,by simp,by simp⟩
theorem chkX.next {p:DProg} {i:Nat} {a:List ByteArray} {u v u' v':Bool} {n:DNode} (h:chkX p i a u v) (hx:p.Nodes[((i:Nat):Int).toNat]?=some n) (hg:greatF n=false) (hu:u'=(u&&nodeF p.Enums.length n)) (hv:v'=(v&&onceN n)):chkX p (i+1) (a++[n.Name]) u' v' :=
 ⟨by rw[take_mapS hx,h.1],by rw[hu,all_nextZ _ hx,h.2.1],by rw[hv,all_nextZ _ hx,h.2.2.1],take_all h.2.2.2 (by simpa using hx) hg⟩
theorem chk_some {p:DProg} {i:Nat} {n:DNode} (hx:p.Nodes[((i:Nat):Int).toNat]?=some n) (hg:greatF n=true):p.Nodes.any greatF=true:=List.any_eq_true.2 ⟨n,List.mem_of_getElem? hx,hg⟩
theorem chk_none {p:DProg} {i:Nat} {a:List ByteArray} {u v:Bool} (h:chkX p i a u v) (hi:p.Nodes.length≤i):p.Nodes.any greatF=false∧p.Nodes.all (nodeF p.Enums.length)=u∧p.Nodes.all onceN=v∧p.Nodes.map DNode.Name=a:=by
 obtain⟨h1,h2,h3,h4⟩:=h
 have e:p.Nodes.take i=p.Nodes:=List.take_of_length_le hi
 rw[e] at h1 h2 h3 h4
 refine⟨?_,h2.symm,h3.symm,h1.symm⟩
 rw[List.any_eq_false]
 intro n hn
 rw[h4 n hn];simp
theorem great_no {n:DNode} (h1:¬ ((n.Ins.length:Int)>6)) (h2:¬ ((n.Outs.length:Int)>6)) (h3:¬ ((n.Vars.length:Int)>12)) (h4:¬ ((n.Eqs.length:Int)>18)):greatF n=false:=by
 unfold greatF
 rw[decide_eq_false (by omega),decide_eq_false (by omega),decide_eq_false (by omega),decide_eq_false (by omega)]
 rfl
theorem great_yes {n:DNode} (h:(n.Ins.length:Int)>6∨(n.Outs.length:Int)>6∨(n.Vars.length:Int)>12∨(n.Eqs.length:Int)>18):greatF n=true:=by
 unfold greatF
 simp only[Bool.or_eq_true,decide_eq_true_eq]
 omega
theorem onceX (x:DNode):PCall Tryz.prog 231 [.lst 1 (((allV x).map DDecl.Name).map AV.s) none] (.b (onceN x)):=once_x _
noncomputable def checkG (p:DProg) (en:Int):Int :=
 if ¬ en=0 then en
 else if p.Nodes.length=0 then 5
 else if(decide (p.Nodes.length>6) || p.Nodes.any greatF)=true then 4
 else if p.Nodes.all (nodeF p.Enums.length)=true then(if(p.Nodes.all onceN&&onceB (p.Nodes.map DNode.Name))=true then 0 else 6) else 1
theorem checkG_eq (p:DProg):checkF p=checkG p (enumsF p.Enums):=rfl
section
variable {p:DProg} {en:Int}
theorem cg_en (h:en≠0):checkG p en=en:=by unfold checkG;rw[if_pos h]
theorem cg_none (h:¬ en≠0) (h1:(p.Nodes.length:Int)=0):checkG p en=5:=by unfold checkG;rw[if_neg h,if_pos (by omega)]
theorem cg_many1 (h:¬ en≠0) (h1:¬ (p.Nodes.length:Int)=0) (h2:(p.Nodes.length:Int)>6):checkG p en=4:=by unfold checkG;rw[if_neg h,if_neg (by omega),decide_eq_true (by omega)];simp
theorem cg_many2 (h:¬ en≠0) (h1:¬ (p.Nodes.length:Int)=0) (h2:p.Nodes.any greatF=true):checkG p en=4:=by unfold checkG;rw[if_neg h,if_neg (by omega),h2];simp
theorem cg_arg (h:¬ en≠0) (h1:¬ (p.Nodes.length:Int)=0) (h2:¬ (p.Nodes.length:Int)>6) {u v:Bool} (f1:p.Nodes.any greatF=false) (f2:p.Nodes.all (nodeF p.Enums.length)=u) (f3:p.Nodes.all onceN=v) (hu:(!u)=true):checkG p en=1:=by
 unfold checkG;rw[if_neg h,if_neg (by omega),decide_eq_false (by omega),f1,f2,f3];simp at hu;simp[hu]
theorem cg_there1 (h:¬ en≠0) (h1:¬ (p.Nodes.length:Int)=0) (h2:¬ (p.Nodes.length:Int)>6) {u v:Bool} (f1:p.Nodes.any greatF=false) (f2:p.Nodes.all (nodeF p.Enums.length)=u) (f3:p.Nodes.all onceN=v) (hu:¬ (!u)=true) (hv:(!v)=true):checkG p en=6:=by
 unfold checkG;rw[if_neg h,if_neg (by omega),decide_eq_false (by omega),f1,f2,f3];simp at hu hv;simp[hu,hv]
theorem cg_there2 (h:¬ en≠0) (h1:¬ (p.Nodes.length:Int)=0) (h2:¬ (p.Nodes.length:Int)>6) {u v:Bool} (f1:p.Nodes.any greatF=false) (f2:p.Nodes.all (nodeF p.Enums.length)=u) (f3:p.Nodes.all onceN=v) (hu:¬ (!u)=true) (hv:¬ (!v)=true) (hw:onceB (p.Nodes.map DNode.Name)=false):checkG p en=6:=by
 unfold checkG;rw[if_neg h,if_neg (by omega),decide_eq_false (by omega),f1,f2,f3];simp at hu hv;simp[hu,hv,hw]
theorem cg_ok (h:¬ en≠0) (h1:¬ (p.Nodes.length:Int)=0) (h2:¬ (p.Nodes.length:Int)>6) {u v:Bool} (f1:p.Nodes.any greatF=false) (f2:p.Nodes.all (nodeF p.Enums.length)=u) (f3:p.Nodes.all onceN=v) (hu:¬ (!u)=true) (hv:¬ (!v)=true) (hw:onceB (p.Nodes.map DNode.Name)=true):checkG p en=0:=by
 unfold checkG;rw[if_neg h,if_neg (by omega),decide_eq_false (by omega),f1,f2,f3];simp at hu hv;simp[hu,hv,hw]
end
theorem checkX (p:DProg) (hp:okProg p):PCall Tryz.prog 189 [p.enc] (.i (checkF p)):=by
 refine pcall_of_vc tabOK Tryz.func189 (by kernel_rfl) rfl pureL pureI (n:=86) rfl (rs:=[.tmp 2]) rfl ?_
 have hpn:=hp.2.1
 rw[checkG_eq]
 repeat' first
  | exact finB rfl
  | exact finI rfl
  | exact finP rfl
  | exact absurd rfl (by assumption)
  | simp only[go_sem]
  | (intro _)
  | refine brK_dec (fun _=>?_) (fun _=>?_)
  | refine brK_split (fun hb_=>?_) (fun hb_=>?_)
  | refine gK_dec (fun _=>?_) (fun _=>?_)
  | refine gK_split (fun hb_=>?_) (fun hb_=>?_)
  | refine gqK_dec (fun _=>?_) (fun _=>?_)
  | refine⟨by omega,?_⟩
  | refine elemHave (by omega) (by assumption) ?_
  | refine elemMap (by omega) (by omega) (fun x hx=>?_)
  | refine drawK mo (by kernel_rfl) ?_
  | (refine PCall.call (enumsX _ hp.1) ?_;generalize enumsF p.Enums=en)
  | (simp only[map_snoc])
  | (refine PCall.call (all66 x (by have:=okN_lenX (hp.2.2 _ (List.mem_of_getElem? hx));omega)) ?_)
  | (refine PCall.call (names83 _ (by have:=okN_lenX (hp.2.2 _ (List.mem_of_getElem? hx));omega)) ?_)
  | (refine PCall.call (nodeX _ x (hp.2.2 _ (List.mem_of_getElem? hx))) ?_;generalize hnx:nodeF p.Enums.length x=b;cases b)
  | (refine PCall.call (onceX x) ?_;generalize hox:onceN x=b;cases b)
  | ((fail_if_success (clear hfin));have hfin:=chk_none hpi.2 (by omega);obtain⟨f1,f2,f3,f4⟩:=hfin;have hfin:=f1;subst f4)
  | (refine PCall.callW (once_x (p.Nodes.map DNode.Name)) ⟨.tok _ _ _,trivial⟩ ?_;generalize hwx:onceB (p.Nodes.map DNode.Name)=b;cases b)
  | (refine⟨by first|omega|(simp;omega),?_⟩)
  | (exact finIq rfl (cg_en (p:=p) (en:=en) (by assumption)).symm)
  | (exact finIq rfl (cg_none (p:=p) (en:=en) (by assumption) (by assumption)).symm)
  | (exact finIq rfl (cg_many1 (p:=p) (en:=en) (by assumption) (by assumption) (by assumption)).symm)
  | (have hgr:=great_yes (n:=x) (by omega);exact finIq rfl (cg_many2 (p:=p) (en:=en) (by assumption) (by assumption) (chk_some hx hgr)).symm)
  | (refine finIq rfl (cg_arg (p:=p) (en:=en) (by assumption) (by assumption) (by assumption) f1 f2 f3 ?_).symm;first|assumption|(simp[*];done))
  | (refine finIq rfl (cg_there1 (p:=p) (en:=en) (by assumption) (by assumption) (by assumption) f1 f2 f3 ?_ ?_).symm<;>first|assumption|(simp[*];done))
  | (refine finIq rfl (cg_there2 (p:=p) (en:=en) (by assumption) (by assumption) (by assumption) f1 f2 f3 ?_ ?_ hwx).symm<;>first|assumption|(simp[*];done))
  | (refine finIq rfl (cg_ok (p:=p) (en:=en) (by assumption) (by assumption) (by assumption) f1 f2 f3 ?_ ?_ hwx).symm<;>first|assumption|(simp[*];done))
  | exact loopFr _ (by omega) ⟨i+1,a++[x.Name],(Bool.and u (nodeF p.Enums.length x)),(Bool.and v (onceN x)),_,by omega,rfl,⟨by have:=hpi.1<;>simp<;>omega,hpi.2.next hx (great_no (by assumption) (by assumption) (by assumption) (by assumption)) rfl rfl⟩,rfl,(by first|rfl|(simp;done)|(simp;rfl)|(simp[*]))⟩ (.next rfl (by omega) (.cons (by first|rfl|(simp;done)|(simp;rfl)|(simp[*])) (.cons (by first|rfl|(simp;done)|(simp;rfl)|(simp[*])) (.cons (by first|rfl|(simp;done)|(simp;rfl)|(simp[*])) .nil)))) rfl
  | (refine loop_fr [2,4,5,6,7,8,24,25,26,27,28,29,30,31,32,33,34,35,36,37,38,39,40,41,42,43,44,45,46,47,48,49,50,51,52,53,54,55,56,57,58,59,60,61,62,63,64,65,66,67,68,69,70,71,72,73,74,75,76] (fun mm_ CC_ hh_=>∃(i:Nat) (a:List ByteArray) (u:Bool) (v:Bool) (r_:List Blk),i≤p.Nodes.length∧mm_=p.Nodes.length-i∧((a.length≤i∧chkX p i a u v))∧CC_=[(7,.raw (.int .i64 ((i:Nat):Int))),(4,.lst 1 (a.map AV.s) (some 1)),(5,.b u),(6,.b v)]∧hh_=progBc p::.tok 9 1 a.length::r_) (p.Nodes.length) _ ⟨0,[],_,_,_,by omega,by omega,⟨by simp,chkX.zero⟩,rfl,(by first|rfl|(simp;done)|(simp;rfl))⟩ (.cons (by first|rfl|(simp;done)|(simp;rfl)) (.cons (by first|rfl|(simp;done)|(simp;rfl)) (.cons (by first|rfl|(simp;done)|(simp;rfl)) (.cons (by first|rfl|(simp;done)|(simp;rfl)) .nil)))) ?_;rintro mm_ CC_ ji hh_ ⟨i,a,u,v,ri,hi,rfl,hpi,rfl,rfl⟩)
end
theorem is90 (n:DNode) (s:ByteArray) (hl:(allV n).length≤60):PCall Tryz.prog 233 [n.enc,.s s] (.b (isF n s)):=by
 refine pcall_of_vc tabOK Tryz.func233 (by kernel_rfl) rfl pureL pureI (n:=14) rfl (rs:=[.tmp 4]) rfl ?_
 repeat' first
  | exact finB rfl
  | exact finI rfl
  | exact finP rfl
  | exact absurd rfl (by assumption)
  | simp only[go_sem]
  | (intro _)
  | refine brK_dec (fun _=>?_) (fun _=>?_)
  | refine brK_any ?_ ?_
  | refine gK_dec (fun _=>?_) (fun _=>?_)
  | refine gK_any ?_ ?_
  | refine gqK_dec (fun _=>?_) (fun _=>?_)
  | refine⟨by omega,?_⟩
  | refine elemHave (by omega) (by assumption) ?_
  | refine elemMap (by omega) (by omega) (fun x hx=>?_)
  | refine drawK mo (by kernel_rfl) ?_
  | (refine PCall.call (decl26 n s (by omega)) ?_;unfold isF;generalize decl n s=d;obtain⟨d,ok⟩:=d)
  | (exact finBq rfl rfl)
theorem armX15 (p:DProg) (s:ByteArray):PCall Tryz.prog 234 [p.enc,.s s] (.b (armOk p.Enums s)):=by
 refine pcall_of_vc tabOK Tryz.func234 (by kernel_rfl) rfl pureL pureI (n:=17) rfl (rs:=[.tmp 4]) rfl ?_
 repeat' first
  | exact finB rfl
  | exact finI rfl
  | exact finP rfl
  | exact absurd rfl (by assumption)
  | simp only[go_sem]
  | (intro _)
  | refine brK_dec (fun _=>?_) (fun _=>?_)
  | refine brK_any ?_ ?_
  | refine gK_dec (fun _=>?_) (fun _=>?_)
  | refine gK_any ?_ ?_
  | refine gqK_dec (fun _=>?_) (fun _=>?_)
  | refine⟨by omega,?_⟩
  | refine elemHave (by omega) (by assumption) ?_
  | refine elemMap (by omega) (by omega) (fun x hx=>?_)
  | refine drawK mo (by kernel_rfl) ?_
  | (refine PCall.call (arm91 p.Enums s) ?_;unfold armOk;generalize armF p.Enums s=d;obtain⟨t,v,ok⟩:=d)
  | (exact finBq rfl rfl)
theorem input142 (n:DNode) (s:ByteArray):PCall Tryz.prog 282 [n.enc,.s s] (.b (inF n s)):=by
 refine pcall_of_vc tabOK Tryz.func282 (by kernel_rfl) rfl pureL pureI (n:=21) rfl (rs:=[.tmp 4]) rfl ?_
 repeat' first
  | exact finB rfl
  | exact finI rfl
  | exact finP rfl
  | exact absurd rfl (by assumption)
  | simp only[go_sem]
  | (intro _)
  | refine brK_dec (fun _=>?_) (fun _=>?_)
  | refine brK_any ?_ ?_
  | refine gK_dec (fun _=>?_) (fun _=>?_)
  | refine gK_any ?_ ?_
  | refine gqK_dec (fun _=>?_) (fun _=>?_)
  | refine⟨by omega,?_⟩
  | refine elemHave (by omega) (by assumption) ?_
  | refine elemMap (by omega) (by omega) (fun x hx=>?_)
  | refine drawK mo (by kernel_rfl) ?_
  | (refine finBq rfl ?_;unfold inF;rw[List.any_eq_true.2 ⟨x,List.mem_of_getElem? hx,by simpa using (by assumption)⟩];done)
  | (refine finBq rfl ?_;unfold inF;rw[List.any_eq_false.2 (fun d hd=>by rw[take_full hpi (by omega) d hd];simp)];done)
  | exact loopFrH _ (by omega) ⟨i+1,by omega,rfl,take_all hpi (by simpa using hx) (decide_eq_false (by assumption)),rfl⟩ (.next rfl (by omega) .nil) rfl
  | (refine loop_frH [4,5,6,7,8,9,10,11,12,13,14,15,16,17,18,19,20] (fun mm_ CC_=>∃(i:Nat),i≤n.Ins.length∧mm_=n.Ins.length-i∧(∀ d∈n.Ins.take i,decide (d.Name=s)=false)∧CC_=[(5,.raw (.int .i64 ((i:Nat):Int)))]) (n.Ins.length) _ ⟨0,by omega,by omega,by simp,rfl⟩ (.cons rfl .nil) ?_;rintro mm_ CC_ ji ⟨i,hi,rfl,hpi,rfl⟩)
theorem flatN_len {l:List DEq} (h:∀ q∈l,okEq q):(l.flatMap DEq.Names).length≤20 * l.length:=by
 induction l with
 | nil=>simp
 | cons e L ih =>
  have h1:=(h e List.mem_cons_self).1
  have h2:=ih fun x hx=>h x (List.mem_cons_of_mem _ hx)
  rw[List.flatMap_cons,List.length_append,List.length_cons]
  omega
theorem flatN_take {l:List DEq} (k:Nat):((l.take k).flatMap DEq.Names).length≤(l.flatMap DEq.Names).length:=by
 have:l.flatMap DEq.Names=(l.take k).flatMap DEq.Names++(l.drop k).flatMap DEq.Names:=by rw[← List.flatMap_append,List.take_append_drop]
 rw[this];simp
theorem cntN_step {l:List DEq} {i:Nat} {q:DEq} (s:ByteArray) (hq:l[i]?=some q):cntL s ((l.take (i+1)).flatMap DEq.Names)=cntL s ((l.take i).flatMap DEq.Names)+cntL s q.Names:=by
 rw[flatMap_next _ hq,cntL_append]
theorem defined93 (n:DNode) (hn:okNode n) (s:ByteArray) (k:Nat) (hk:k≤n.Eqs.length):PCall Tryz.prog 236 [n.enc,.s s,.i (k:Int)] (.i (cntL s ((n.Eqs.take k).flatMap DEq.Names):Nat)):=by
 have hfl:=flatN_len hn.2.2.2.2.2
 have h4:=hn.2.2.2.1
 refine pcall_of_vc tabOK Tryz.func236 (by kernel_rfl) rfl (by first|exact pureL|exact pureI) (by first|exact pureL|exact pureI) (n:=40) rfl (rs:=[.tmp 6]) rfl ?_
 simp only[go_sem]
 refine loop_frH [7,8,9,10,11,12,13,14,15,16,17,18,19,20,21,22,23,24,25,26,27,28,29,30,31,32,33,34,35,36,37,38] (fun m C=>∃ i:Nat,i≤k∧m=k-i∧C=[(8,.raw (.int .i64 (i:Nat))),(7,.raw (.int .i64 ((cntL s ((n.Eqs.take i).flatMap DEq.Names):Nat):Int)))]) k _ ⟨0,by omega,by omega,rfl⟩ (.cons rfl (.cons rfl .nil)) ?_
 rintro m C ja ⟨i,hi,rfl,rfl⟩
 simp only[go_sem]
 refine brK_dec (fun hlt=>?_) (fun hge=>?_)
 ·
  obtain⟨q,hq⟩:∃ q,n.Eqs[i]?=some q:=⟨_,List.getElem?_eq_getElem (by omega)⟩
  have hst:=cntN_step s hq
  have hb:=cntL_le s ((n.Eqs.take (i+1)).flatMap DEq.Names)
  have hb2:=flatN_take (l:=n.Eqs) (i+1)
  have hq20:=(hn.2.2.2.2.2 q (List.mem_of_getElem? hq)).1
  simp only[go_sem]
  refine loop_frH [7,9,15,16,17,18,19,20,21,22,23,24,25,26,27,28,29,30,31,32,33,34,35,36,37,38] (fun m C=>∃ j:Nat,j≤q.Names.length∧m=q.Names.length-j∧C=[(9,.raw (.int .i64 (j:Nat))),(7,.raw (.int .i64 ((cntL s ((n.Eqs.take i).flatMap DEq.Names)+cntL s (q.Names.take j):Nat):Int)))]) q.Names.length _ ⟨0,by omega,by omega,rfl⟩ (.cons rfl (.cons rfl .nil)) ?_
  rintro m C jb ⟨j,hj,rfl,rfl⟩
  simp only[go_sem]
  refine elemHave (by omega) hq ?_
  simp only[go_sem]
  intro _
  refine brK_dec (fun hlt2=>?_) (fun hge2=>?_)
  ·
   have hc:=cntL_take (s:=s) (l:=q.Names) (k:=j) (by omega)
   have hc2:=cntL_take_le s q.Names (j+1)
   simp only[go_sem]
   refine elemHave (by omega) hq ?_
   simp only[go_sem]
   refine elemMap (by omega) (by omega) (fun x hx=>?_)
   have hxe:q.Names[j]'(by omega)=x:=by
    have h:=List.getElem?_eq_some_iff.1 hx
    obtain⟨_,h⟩:=h
    simpa using h
   rw[hxe] at hc
   simp only[go_sem]
   refine brK_dec (fun he=>?_) (fun he=>?_)
   ·
    rw[if_pos he] at hc
    simp only[go_sem]
    rw[wrap_in _ (by omega) (by omega)]
    exact loopFrH _ (by omega) ⟨j+1,by omega,rfl,rfl⟩ (.next rfl (by omega) (.cons (by rw[hc];simp;omega) .nil)) rfl
   ·
    rw[if_neg he] at hc
    simp only[go_sem]
    exact loopFrH _ (by omega) ⟨j+1,by omega,rfl,rfl⟩ (.next rfl (by omega) (.cons (by rw[hc];rfl) .nil)) rfl
  ·
   have hjl:j=q.Names.length:=by omega
   subst hjl
   simp only[go_sem]
   exact loopFrH _ (by omega) ⟨i+1,by omega,rfl,rfl⟩ (.next rfl (by omega) (.cons (by rw[hst,List.take_length];rfl) .nil)) rfl
 ·
  have hik:i=k:=by omega
  subst hik
  simp only[go_sem]
  exact finIq rfl rfl
theorem part143 (p:DProg) (j:Nat) (n:DNode) (hj:p.Nodes[j]?=some n) (hl:(allV n).length≤60) (e:Ex):PCall Tryz.prog 283 [p.enc,.i (j:Int),e.enc] (.b (leadsF p (j:Int) n e)):=by
 refine pcall_of_vc tabOK Tryz.func283 (by kernel_rfl) rfl (by first|exact pureL|exact pureI) (by first|exact pureL|exact pureI) (n:=74) rfl (rs:=[.tmp 6]) rfl ?_
 repeat' first
  | exact finB rfl
  | exact finI rfl
  | exact finP rfl
  | exact absurd rfl (by assumption)
  | simp only[go_sem]
  | (intro _)
  | refine brK_dec (fun _=>?_) (fun _=>?_)
  | refine brK_split (fun hb_=>?_) (fun hb_=>?_)
  | refine gK_dec (fun _=>?_) (fun _=>?_)
  | refine gK_split (fun hb_=>?_) (fun hb_=>?_)
  | refine gqK_dec (fun _=>?_) (fun _=>?_)
  | refine⟨by omega,?_⟩
  | refine elemHave (by omega) (by assumption) ?_
  | refine elemMap (by omega) (by omega) (fun x hx=>?_)
  | refine drawK mo (by kernel_rfl) ?_
  | (exfalso;omega)
  | (refine elemHave (by omega) hj ?_)
  | (refine PCall.call (is90 n e.name hl) ?_;generalize hix:isF n e.name=b;cases b)
  | (refine pcK_of (armX15 p x) ?_;generalize hax:armOk p.Enums x=b;cases b)
  | (refine PCall.call (armX15 p e.name) ?_)
  | (refine PCall.call (find24 p e.name) ?_)
  | (refine finBq rfl ?_;unfold leadsF;rw[List.all_eq_false.2 ⟨x,List.mem_of_getElem? hx,by simp[hax]⟩];rfl)
  | (refine finBq rfl ?_;unfold leadsF;rw[if_pos (by omega),hix];simp;done)
  | (have hall:=List.all_eq_true.2 (take_full hpi (by omega));refine finBq rfl ?_;unfold leadsF;rw[hall];simp[*];done)
  | (have hall:=List.all_eq_true.2 (take_full hpi (by omega));refine finBq rfl ?_;unfold leadsF;rw[hall];simp[*];omega)
  | exact loopFrH _ (by omega) ⟨i+1,by omega,rfl,take_all hpi (by simpa using hx) hax,rfl⟩ (.next rfl (by omega) .nil) rfl
  | (refine loop_frH [6,8,35,36,37,38,39,40,41,42,43,44,45,46,47,48,49] (fun mm_ CC_=>∃(i:Nat),i≤e.arms.length∧mm_=e.arms.length-i∧(∀ s∈e.arms.take i,armOk p.Enums s=true)∧CC_=[(8,.raw (.int .i64 ((i:Nat):Int)))]) (e.arms.length) _ ⟨0,by omega,by omega,by simp,rfl⟩ (.cons rfl .nil) ?_;rintro mm_ CC_ ji ⟨i,hi,rfl,hpi,rfl⟩)
theorem mem_eq {l:List ByteArray} {x s:ByteArray} {i:Nat} (h:l[i]?=some x) (e:x=s):s∈l:=e▸List.mem_of_getElem? h
theorem contains106 {l:List ByteArray} {p:ByteArray→Bool} {g:Nat} {first capt:List AV} {h:List Blk} {K:AV→List Blk→Prop} (hp:∀ x∈l,∀ K:AV→List Blk→Prop,K (.b (p x)) h→ACall Tryz.prog g (first++AV.s x::capt) h K)
  (hK:K (.b (l.any p)) h):ACall Tryz.prog 113 [.lst 1 (l.map AV.s) none,.fn (.func g) first capt] h K:=by
 refine acall_of_vc tabOK Tryz.func113 (by kernel_rfl) rfl (n:=9) rfl (rs:=[.tmp 4]) rfl ?_
 simp only[go_sem]
 refine indexStr hp ?_
 simp only[go_sem]
 rw[idx_any]
 exact finH1 rfl (.raw _) hK
abbrev orderA (p:List Nat × Bool):AV:=.tup [.lst 1 (p.1.map AV.n) none,.b p.2]
theorem pure_orderA (p:List Nat × Bool):Go.Abs.Pure (orderA p):=by
 refine .tup _ (pure_cons (.lst _ _ fun c hc=>?_) (pure_cons (.raw _) pure_nil))
 have:flat (p.1.map AV.n)=p.1.map AV.n:=by
  generalize p.1=l
  induction l with
  | nil=>rfl
  | cons x l ih=>simp only[List.map_cons];rw[show flat (AV.n x::l.map AV.n)=AV.n x::flat (l.map AV.n) from rfl,ih]
 rw[this] at hc
 obtain⟨n,_,rfl⟩:=List.mem_map.1 hc
 exact .raw _
theorem Weak.tups2 {cs ds:List AV} (h:WeakL cs ds):Weak (.tup cs) (.tup ds):=.tup cs ds h.at.1 h.at.2
theorem weak_order (out:List Nat) (b:Bool) (k:Option Nat):Weak (.tup [.lst 1 (out.map AV.n) k,.b b]) (orderA (out,b)):=Weak.tups2 ⟨by cases k<;>first|exact .refl _|exact .tok _ _ _,.refl _,trivial⟩
theorem flat_le {α:Type} {c:Nat}:∀ {N:List (List α)},(∀ l∈N,l.length≤c)→N.flatten.length≤N.length * c
 | [],_=>by simp
 | n::N,h=>by
  have h1:=flat_le (N:=N) fun l hl=>h l (List.mem_cons_of_mem _ hl)
  have h2:=h n List.mem_cons_self
  rw[List.flatten_cons,List.length_append,List.length_cons,Nat.succ_mul]
  omega
theorem mono_app:∀(h r:List Blk),MonoH h (h++r)
 | [],_=>trivial
 | x::h,r=>⟨by cases x<;>trivial,mono_app h r⟩
end Go.Proofs.YtpamokpmlplopaaGreatDoor
