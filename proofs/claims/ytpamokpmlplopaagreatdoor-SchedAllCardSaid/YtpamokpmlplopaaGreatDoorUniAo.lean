/-
  RightR, Clock, AbsTB: put together.
-/
import Derived.Test.YtpamokpmlplopaaGreatDoorUniAh
import Derived.Test.YtpamokpmlplopaaGreatDoorUniAl
namespace Go.Proofs.YtpamokpmlplopaaGreatDoor
open Go.Abs
set_option maxRecDepth 20000
set_option linter.unusedSimpArgs false
set_option linter.unusedVariables false
set_option maxHeartbeats 1000000
attribute [local irreducible] vc vcOps vcStep vcGuard prK hrK gK gsK brK callK ElemK SeqK BlockK ScopeK OpsK CallK LoopK LoopGo finPost ACall PCall PCallE BCall vqOps vqStep vqGuard qrK heK pcK gqK gqsK QOpsK qcallK DrawK
theorem literal51 (e:Ex):PCall Tryz.prog 227 [e.enc] (.b (litE e)):=by
 refine pcall_of_vc tabOK Tryz.func227 (by kernel_rfl) rfl pureL pureI (n:=36) rfl (rs:=[.tmp 2]) rfl ?_
 repeat' first
  | (exfalso;omega)
  | simp only[go_sem]
  | (intro _)
  | refine brK_dec (fun _=>?_) (fun _=>?_)
  | refine gK_dec (fun _=>?_) (fun _=>?_)
  | refine elemMap (by omega) (by omega) (fun x hx=>?_)
  | (refine finBq rfl ?_;have hk:=k0_at hx;simp[litE, *];done)
  | (refine finBq rfl ?_;simp[litE, *];done)
  | (refine finBq rfl ?_;have h1:¬ e.subs.length=1:=(by omega);simp[litE, *];done)
  | (refine finBq rfl ?_;have h1:e.subs.length=1:=(by omega);have hk:=k0_at hx;simp[litE, *];done)
theorem const19 (e:Ex):PCall Tryz.prog 178 [e.enc] (.b (constE e)):=by
 refine pcall_of_vc tabOK Tryz.func178 (by kernel_rfl) rfl pureL pureI (n:=23) rfl (rs:=[.tmp 2]) rfl ?_
 repeat' first
  | exact finB rfl
  | exact finI rfl
  | exact finP rfl
  | exact absurd rfl (by assumption)
  | simp only[go_sem]
  | (intro _)
  | refine brK_dec (fun _=>?_) (fun _=>?_)
  | refine brK_any ?_ ?_
  | refine gK_dec (fun _=>?_) (fun _=>?_)
  | refine gK_any ?_ ?_
  | refine gqK_dec (fun _=>?_) (fun _=>?_)
  | refine⟨by omega,?_⟩
  | refine elemHave (by omega) (by assumption) ?_
  | refine elemMap (by omega) (by omega) (fun x hx=>?_)
  | refine drawK mo (by kernel_rfl) ?_
  | ((fail_if_success (clear hx));have hk14:¬ e.kind=14:=(by assumption);refine PCall.call (literal51 e) ?_)
  | (have hk14:e.kind=14:=(by omega);refine PCall.call (literal51 x) ?_;generalize hpx:litE x=q;cases q)
  | (refine pcK_of (literal51 x) ?_;generalize hpx:litE x=q;cases q)
  | (refine finBq rfl ?_;simp[constE, *];done)
  | (have hk14:e.kind=14:=(by omega);refine finBq rfl ?_;unfold constE;rw[if_pos hk14];first|(rw[List.all_eq_true.2 (take_full hpi (by omega))])|(rw[List.all_eq_false.2 ⟨x,List.mem_of_getElem? hx,by simp[hpx]⟩]))
  | exact loopFrH _ (by omega) ⟨i+1,by omega,rfl,take_all hpi (by simpa using hx) hpx,rfl⟩ (.next rfl (by omega) .nil) rfl
  | (refine loop_frH [2,3,9,10,11,12,13,14,15,16,17,18,19,20,21,22] (fun mm_ CC_=>∃(i:Nat),i≤e.subs.length∧mm_=e.subs.length-i∧(∀ x∈e.subs.take i,litE x=true)∧CC_=[(3,.raw (.int .i64 ((i:Nat):Int)))]) (e.subs.length) _ ⟨0,by omega,by omega,by simp,rfl⟩ (.cons rfl .nil) ?_;rintro mm_ CC_ ji ⟨i,hi,rfl,hpi,rfl⟩)
theorem numbers72 (e:Ex):PCall Tryz.prog 274 [e.enc] (.b (numbersE e)):=by
 refine pcall_of_vc tabOK Tryz.func274 (by kernel_rfl) rfl pureL pureI (n:=46) rfl (rs:=[.tmp 2]) rfl ?_
 repeat' first
  | exact finB rfl
  | exact finI rfl
  | exact finP rfl
  | exact absurd rfl (by assumption)
  | simp only[go_sem]
  | (intro _)
  | refine brK_dec (fun _=>?_) (fun _=>?_)
  | refine brK_any ?_ ?_
  | refine gK_dec (fun _=>?_) (fun _=>?_)
  | refine gK_any ?_ ?_
  | refine gqK_dec (fun _=>?_) (fun _=>?_)
  | refine⟨by omega,?_⟩
  | refine elemHave (by omega) (by assumption) ?_
  | refine elemMap (by omega) (by omega) (fun x hx=>?_)
  | refine drawK mo (by kernel_rfl) ?_
  | (exfalso;omega)
  | (refine finBq rfl ?_;simp[numbersE, *];done)
  | (refine finBq rfl ?_;simp[numbersE, *]<;>omega)
  | (refine finBq rfl ?_;simp[numbersE, *];intros;omega)
theorem named73 (e:Ex) (hn:e.name.size≤1000000):PCall Tryz.prog 275 [e.enc] (.b (namedE e)):=by
 refine pcall_of_vc tabOK Tryz.func275 (by kernel_rfl) rfl pureL pureI (n:=26) rfl (rs:=[.tmp 2]) rfl ?_
 repeat' first
  | exact finB rfl
  | exact finI rfl
  | exact finP rfl
  | exact absurd rfl (by assumption)
  | simp only[go_sem]
  | (intro _)
  | refine brK_dec (fun _=>?_) (fun _=>?_)
  | refine brK_any ?_ ?_
  | refine gK_dec (fun _=>?_) (fun _=>?_)
  | refine gK_any ?_ ?_
  | refine gqK_dec (fun _=>?_) (fun _=>?_)
  | refine⟨by omega,?_⟩
  | refine elemHave (by omega) (by assumption) ?_
  | refine elemMap (by omega) (by omega) (fun x hx=>?_)
  | refine drawK mo (by kernel_rfl) ?_
  | (refine PCall.call (low_x _) ?_)
  | (refine PCall.call (high_x _) ?_)
  | (refine PCall.call (path_x _ hn) ?_)
  | (refine finBq rfl ?_;simp[namedE, *];done)
theorem arm91x (s:ByteArray):PCall Tryz.prog 307 [.s s] (.b (armE s)):=by
 refine pcall_of_vc tabOK Tryz.func307 (by kernel_rfl) rfl pureL pureI (n:=13) rfl (rs:=[.tmp 2]) rfl ?_
 unfold armE
 repeat' first
  | exact finB rfl
  | exact finI rfl
  | exact finP rfl
  | exact absurd rfl (by assumption)
  | simp only[go_sem]
  | (intro _)
  | refine brK_dec (fun _=>?_) (fun _=>?_)
  | refine brK_split (fun hb_=>?_) (fun hb_=>?_)
  | refine gK_dec (fun _=>?_) (fun _=>?_)
  | refine gK_split (fun hb_=>?_) (fun hb_=>?_)
  | refine gqK_dec (fun _=>?_) (fun _=>?_)
  | refine⟨by omega,?_⟩
  | refine elemHave (by omega) (by assumption) ?_
  | refine elemMap (by omega) (by omega) (fun x hx=>?_)
  | refine drawK mo (by kernel_rfl) ?_
  | (refine PCall.call (high_x s) ?_;generalize highF s=q;cases q)
  | (exact finBq rfl (by simp[*]))
theorem pure_ii (a b:Int):Go.Abs.Pure (.tup [.i a,.i b]):=.tup _ (pure_cons (.raw _) (pure_cons (.raw _) pure_nil))
theorem finII {T:TypeId→TI} {rs:List ResultVar} {s:List AV} {h:List Blk} {p:Int × Int} {a b:Int} (hr:resAV T s h rs=some [.i a,.i b]) (hp:p=(a,b)):Go.Abs.Fin T rs (.tup [.i p.1,.i p.2]) s h:=by
 subst hp
 exact⟨_,hr,false,.refl _⟩
theorem subs75 (e:Ex) (h13:e.kind=13→e.n=0∨e.n=1):PCall Tryz.prog 277 [e.enc] (.tup [.i (subsE e).1,.i (subsE e).2]):=by
 refine pcall_of_vc tabOK Tryz.func277 (by kernel_rfl) rfl (by first|exact pureL|exact pureI) (pure_ii _ _) (n:=35) rfl (rs:=[.tmp 2,.tmp 3]) rfl ?_
 have hw:e.kind=13→IntKind.i64.wrap (6+e.n)=6+e.n:=fun h=>by have:=h13 h;rw[wrap_in _ (by omega) (by omega)]
 repeat' first
  | (exfalso;omega)
  | simp only[go_sem]
  | (intro _)
  | refine brK_dec (fun _=>?_) (fun _=>?_)
  | refine gK_dec (fun _=>?_) (fun _=>?_)
  | (refine drawK mo (by kernel_rfl) ?_)
  | (refine finII rfl ?_;simp[subsE, *];done)
theorem arms74 (e:Ex):PCall Tryz.prog 276 [e.enc] (.b (armsE e)):=by
 refine pcall_of_vc tabOK Tryz.func276 (by kernel_rfl) rfl pureL pureI (n:=47) rfl (rs:=[.tmp 2]) rfl ?_
 repeat' first
  | exact finB rfl
  | exact finI rfl
  | exact finP rfl
  | exact absurd rfl (by assumption)
  | simp only[go_sem]
  | (intro _)
  | refine brK_dec (fun _=>?_) (fun _=>?_)
  | refine brK_any ?_ ?_
  | refine gK_dec (fun _=>?_) (fun _=>?_)
  | refine gK_any ?_ ?_
  | refine gqK_dec (fun _=>?_) (fun _=>?_)
  | refine⟨by omega,?_⟩
  | refine elemHave (by omega) (by assumption) ?_
  | refine elemMap (by omega) (by omega) (fun x hx=>?_)
  | refine drawK mo (by kernel_rfl) ?_
  | (exfalso;omega)
  | (refine PCall.call (arm91x x) ?_;generalize hpx:armE x=q;cases q)
  | (refine PCall.call (once_x e.arms) ?_;generalize ho:onceB e.arms=o;cases o)
  | (have hall:e.arms.all armE=false:=List.all_eq_false.2 ⟨x,List.mem_of_getElem? hx,by simp[hpx]⟩;refine finBq rfl ?_;unfold armsE;rw[hall];simp;done)
  | (have hall:e.arms.all armE=true:=List.all_eq_true.2 (take_full hpi (by omega));refine finBq rfl ?_;unfold armsE;rw[hall];first|(simp[*];done)|(simp[*];omega))
  | exact loopFrH _ (by omega) ⟨i+1,by omega,rfl,take_all hpi (by simpa using hx) hpx,rfl⟩ (.next rfl (by omega) .nil) rfl
  | (refine loop_frH [2,3,4,5,6,7,8,9,10,11,12,13,14,15,16,17] (fun mm_ CC_=>∃(i:Nat),i≤e.arms.length∧mm_=e.arms.length-i∧(∀ x∈e.arms.take i,armE x=true)∧CC_=[(3,.raw (.int .i64 ((i:Nat):Int)))]) (e.arms.length) _ ⟨0,by omega,by omega,by simp,rfl⟩ (.cons rfl .nil) ?_;rintro mm_ CC_ ji ⟨i,hi,rfl,hpi,rfl⟩)
theorem part47 (e:Ex) (hn:e.name.size≤1000000):PCall Tryz.prog 226 [e.enc] (.b (partE e)):=by
 refine pcall_of_vc tabOK Tryz.func226 (by kernel_rfl) rfl pureL pureI (n:=57) rfl (rs:=[.tmp 2]) rfl ?_
 have h8:e.kind=8→(subsE e).1=2:=fun h=>by simp[subsE,h]
 have h13:numbersE e=true→e.kind=13→e.n=0∨e.n=1:=fun h h13=>by
  simp[numbersE,h13] at h
  exact h.2
 unfold partE
 repeat' first
  | (exfalso;omega)
  | simp only[go_sem]
  | (intro _)
  | refine brK_dec (fun _=>?_) (fun _=>?_)
  | refine gK_dec (fun _=>?_) (fun _=>?_)
  | (refine PCall.call (numbers72 e) ?_;generalize hnu:numbersE e=q at h13 ⊢;cases q)
  | (refine PCall.call (named73 e hn) ?_;generalize namedE e=q;cases q)
  | (refine PCall.call (arms74 e) ?_;generalize armsE e=q;cases q)
  | (refine PCall.call (subs75 e (h13 rfl)) ?_;generalize subsE e=R at h8 ⊢;obtain⟨lo,hi⟩:=R;dsimp only at h8)
  | refine elemMap (by omega) (by omega) (fun x hx=>?_)
  | (refine PCall.call (const19 _) ?_)
  | (refine finBq rfl ?_;simp[*];done)
  | (refine finBq rfl ?_;have hk:¬ (1≤e.kind∧e.kind≤17):=(by omega);simp[hk];done)
  | (refine finBq rfl ?_;have hk:1≤e.kind∧e.kind≤17:=(by omega);rw[decide_eq_true hk];first|(simp[*];done)|(rw[head_at hx];simp[*];done)|(simp[*];omega))
theorem size21:∀(e:Ex),(parts e).length≤100000→PCall Tryz.prog 224 [e.enc] (.i ((parts e).length:Nat)):=by
 intro e
 induction e using Ex.ind with
 | _ e ih =>
 intro hl
 refine pcall_of_vc tabOK Tryz.func224 (by kernel_rfl) rfl pureL pureI (n:=21) rfl (rs:=[.tmp 2]) rfl ?_
 have hp:(parts e).length=1+(partsL e.subs).length:=by rw[parts_eq];simp;omega
 simp only[go_sem]
 refine loop_frH [3,4,5,6,7,8,9,10,11,12,13,14,15,16,17,18,19] (fun m C=>∃ i:Nat,i≤e.subs.length∧m=e.subs.length-i∧C=[(4,.raw (.int .i64 (i:Nat))),(3,.raw (.int .i64 ((1+(partsL (e.subs.take i)).length:Nat):Int)))]) e.subs.length _ ⟨0,by omega,by omega,rfl⟩ (.cons rfl (.cons (by simp[partsL]) .nil)) ?_
 rintro m C j ⟨i,hi,rfl,rfl⟩
 simp only[go_sem]
 intro _
 refine brK_dec (fun hlt=>?_) (fun hge=>?_)
 ·
  simp only[go_sem]
  refine elemMap (by omega) (by omega) (fun x hx=>?_)
  have hx':e.subs[i]?=some x:=by simpa using hx
  simp only[go_sem]
  refine PCall.call (ih x (List.mem_of_getElem? hx') (sub_small (List.mem_of_getElem? hx') hl)) ?_
  have h1:=parts_len hx'
  have h2:=partsL_le (l:=e.subs) (k:=i+1)
  have hw:IntKind.i64.wrap (((1+(partsL (e.subs.take i)).length:Nat):Int)+((parts x).length:Nat))=((1+(partsL (e.subs.take (i+1))).length:Nat):Int):=by rw[wrap_in _ (by omega) (by omega)];omega
  simp only[go_sem,hw]
  exact loopFrH _ (by omega) ⟨i+1,by omega,rfl,rfl⟩ (.next rfl (by omega) (.cons rfl .nil)) rfl
 ·
  have hie:i=e.subs.length:=by omega
  subst hie
  rw[List.take_length,hp]
  simp only[go_sem]
  exact⟨_,rfl,false,.refl _⟩
theorem depth23:∀(e:Ex),(parts e).length≤100000→PCall Tryz.prog 225 [e.enc] (.i (depthE e:Nat)):=by
 intro e
 induction e using Ex.ind with
 | _ e ih =>
 intro hl
 refine pcall_of_vc tabOK Tryz.func225 (by kernel_rfl) rfl pureL pureI (n:=22) rfl (rs:=[.tmp 2]) rfl ?_
 simp only[go_sem]
 refine loop_frH [3,4,5,6,7,8,9,10,11,12,13,14,15,16,17,18,19] (fun m C=>∃ i:Nat,i≤e.subs.length∧m=e.subs.length-i∧C=[(4,.raw (.int .i64 (i:Nat))),(3,.raw (.int .i64 (depthL (e.subs.take i):Nat)))]) e.subs.length _ ⟨0,by omega,by omega,rfl⟩ (.cons rfl (.cons (by simp[depthL]) .nil)) ?_
 rintro m C j ⟨i,hi,rfl,rfl⟩
 simp only[go_sem]
 intro _
 refine brK_dec (fun hlt=>?_) (fun hge=>?_)
 ·
  simp only[go_sem]
  refine elemMap (by omega) (by omega) (fun x hx=>?_)
  have hx':e.subs[i]?=some x:=by simpa using hx
  simp only[go_sem]
  refine PCall.call (ih x (List.mem_of_getElem? hx') (sub_small (List.mem_of_getElem? hx') hl)) ?_
  simp only[go_sem,max_step hx']
  exact loopFrH _ (by omega) ⟨i+1,by omega,rfl,rfl⟩ (.next rfl (by omega) (.cons rfl .nil)) rfl
 ·
  have hie:i=e.subs.length:=by omega
  subst hie
  have hd:=depth_le e
  rw[depthE_eq] at hd ⊢
  rw[List.take_length]
  simp only[go_sem]
  rw[wrap_in _ (by omega) (by omega)]
  exact⟨_,rfl,false,.refl _⟩
theorem right17x (e:Ex) (ho:okE e):PCall Tryz.prog 177 [e.enc] (.b (rightE e)):=by
 have hb:(parts e).length≤100000:=by have:=ho.1;omega
 refine pcall_of_vc tabOK Tryz.func177 (by kernel_rfl) rfl pureL pureI (n:=27) rfl (rs:=[.tmp 2]) rfl ?_
 unfold rightE
 repeat' first
  | exact finB rfl
  | exact finI rfl
  | exact finP rfl
  | exact absurd rfl (by assumption)
  | simp only[go_sem]
  | (intro _)
  | refine brK_dec (fun _=>?_) (fun _=>?_)
  | refine brK_any ?_ ?_
  | refine gK_dec (fun _=>?_) (fun _=>?_)
  | refine gK_any ?_ ?_
  | refine gqK_dec (fun _=>?_) (fun _=>?_)
  | refine⟨by omega,?_⟩
  | refine elemHave (by omega) (by assumption) ?_
  | refine elemMap (by omega) (by omega) (fun x hx=>?_)
  | refine drawK mo (by kernel_rfl) ?_
  | (exfalso;omega)
  | (refine PCall.call (size21 e hb) ?_)
  | (refine PCall.call (depth23 e hb) ?_)
  | (refine PCall.call (parts_spec e (by omega)) ?_)
  | (have hoz:=ho.2 x (List.mem_of_getElem? hx);refine PCall.call (part47 x (by omega)) ?_;generalize hpx:partE x=q;cases q)
  | (have hk:¬ (parts e).length≤60:=(by omega);refine finBq rfl ?_;simp[hk];done)
  | (have hk:¬ depthE e≤12:=(by omega);refine finBq rfl ?_;simp[hk];done)
  | (have hk1:(parts e).length≤60:=(by omega);have hk2:depthE e≤12:=(by omega);refine finBq rfl ?_;rw[decide_eq_true hk1,decide_eq_true hk2];first|(rw[List.all_eq_true.2 (take_full hpi (by omega))];rfl)|(rw[List.all_eq_false.2 ⟨x,List.mem_of_getElem? hx,by simp[hpx]⟩];rfl))
  | exact loopFrH _ (by omega) ⟨i+1,by omega,rfl,take_all hpi (by simpa using hx) hpx,rfl⟩ (.next rfl (by omega) .nil) rfl
  | (refine loop_frH [2,4,15,16,17,18,19,20,21,22,23,24,25,26] (fun mm_ CC_=>∃(i:Nat),i≤(parts e).length∧mm_=(parts e).length-i∧(∀ x∈(parts e).take i,partE x=true)∧CC_=[(4,.raw (.int .i64 ((i:Nat):Int)))]) ((parts e).length) _ ⟨0,by omega,by omega,by simp,rfl⟩ (.cons rfl .nil) ?_;rintro mm_ CC_ ji ⟨i,hi,rfl,hpi,rfl⟩)
end Go.Proofs.YtpamokpmlplopaaGreatDoor
namespace Go.Proofs.YtpamokpmlplopaaGreatDoor
open Go.Abs
set_option maxRecDepth 20000
set_option linter.unusedSimpArgs false
set_option linter.unusedVariables false
set_option maxHeartbeats 1000000
attribute [local irreducible] vc vcOps vcStep vcGuard prK hrK gK gsK brK callK ElemK SeqK BlockK ScopeK OpsK CallK LoopK LoopGo finPost ACall PCall PCallE BCall vqOps vqStep vqGuard qrK heK pcK gqK gqsK QOpsK qcallK DrawK
theorem Weak.tups {cs ds:List AV} (h:WeakL cs ds):Weak (.tup cs) (.tup ds):=.tup cs ds h.at.1 h.at.2
def clk (n:DNode):Nat→ByteArray→List DDecl→List DDecl × Bool
 | 0,_,_=>([],false)
 | k+1,name,acc=>if(decl n name).2=true then(if(decl n name).1.On=⟨#[]⟩ then(acc,true) else clk n k (decl n name).1.On ((decl n name).1::acc)) else([],false)
def clock (n:DNode) (name:ByteArray):List DDecl × Bool:=clk n 13 name []
abbrev clockA (p:List DDecl × Bool):AV:=.tup [.lst 6 (p.1.map DDecl.enc) none,.b p.2]
theorem clk_succ (n:DNode) (k:Nat) (name:ByteArray) (acc:List DDecl):clk n (k+1) name acc=if(decl n name).2=true then(if(decl n name).1.On=⟨#[]⟩ then(acc,true) else clk n k (decl n name).1.On ((decl n name).1::acc)) else([],false):=rfl
theorem clk_len (n:DNode):∀(k:Nat) (s:ByteArray) (acc:List DDecl),(clk n k s acc).1.length≤acc.length+k
 | 0,_,_=>by simp[clk]
 | k+1,s,acc=>by
  rw[clk_succ]
  split
  ·
   split
   ·
    dsimp only;omega
   ·
    have:=clk_len n k (decl n s).1.On ((decl n s).1::acc)
    simp only[List.length_cons] at this
    omega
  ·
   simp
theorem clock_len (n:DNode) (s:ByteArray):(clock n s).1.length≤13:=by
 have:=clk_len n 13 s []
 simpa[clock] using this
theorem pure_clockA (p:List DDecl × Bool):Go.Abs.Pure (clockA p):=.tup _ (pure_cons (DDecl.pures _) (pure_cons (.raw _) pure_nil))
theorem weak_no:Weak (.tup [.raw (.slice none 0 0),.b false]) (clockA ([],false)):=Weak.tups ⟨.nil _,.refl _,trivial⟩
abbrev nodeB (n:DNode):Blk:=.cells 68 [.s n.Name,.lst 6 (n.Ins.map DDecl.enc) none,.lst 6 (n.Outs.map DDecl.enc) none,.lst 6 (n.Vars.map DDecl.enc) none,.lst 7 (n.Eqs.map DEq.enc) none]
theorem clock21 (n:DNode) (name:ByteArray) (hl:(allV n).length≤4294967296):PCall Tryz.prog 162 [n.enc,.s name] (clockA (clock n name)):=by
 refine pcall_of_vc tabOK Tryz.func162 (by kernel_rfl) rfl (by first|exact pureL|exact pureI) (pure_clockA _) (n:=32) rfl (rs:=[.tmp 4,.tmp 5]) rfl ?_
 simp only[go_sem]
 refine loop_ghost (ghost_own 6 77 6 rfl) ?_
 simp only[go_sem]
 refine loop_fr [1,6,7,8,9,10,11,12,13,14,15,16,17,18,19,20,21,22,23,24,25,26,27,28,29,30,31,4,5]
  (fun m C h=>∃(i:Nat) (nm:ByteArray) (acc:List DDecl) (r:List Blk),i≤13∧acc.length≤i∧m=13-i∧clk n (13-i) nm acc=clock n name∧C=[(9,.raw (.int .i64 (i:Nat))),(1,.s nm),(6,.own 6 1 (acc.reverse.map DDecl.enc).length)] ∧
   h=nodeB n::.own 77 6 (acc.reverse.map DDecl.enc)::r) 13 _ ⟨0,name,[],[],by omega,by simp,rfl,rfl,rfl,rfl⟩ (.cons rfl (.cons rfl (.cons rfl .nil))) ?_
 rintro m C j h ⟨i,nm,acc,r,hi,hal,rfl,hc,rfl,rfl⟩
 simp only[go_sem]
 refine brK_dec (fun hlt=>?_) (fun hge=>?_)
 ·
  simp only[go_sem]
  refine PCall.call (decl25 n nm hl) ?_
  have he:13-i=(13-(i+1))+1:=by omega
  rw[he,clk_succ] at hc
  generalize decl n nm=d at hc ⊢
  obtain⟨d,ok⟩:=d
  simp only[go_sem]
  cases ok with
  | false =>
   simp only[Bool.false_eq_true,if_false] at hc
   rw[← hc]
   simp only[go_sem]
   exact⟨_,rfl,false,weak_no⟩
  | true =>
   simp only[if_true] at hc
   simp only[go_sem]
   refine brK_dec (fun hon=>?_) (fun hon=>?_)
   ·
    rw[if_pos hon] at hc
    rw[← hc]
    simp only[go_sem]
    refine reverseD (es:=acc.reverse.map DDecl.enc) (kk:=1) (by simp) rfl ?_
    simp only[go_sem]
    refine⟨_,rfl,true,?_⟩
    have hz:∀ R:List Blk,frz (nodeB n::.own 77 6 (acc.reverse.map DDecl.enc).reverse::R) (.own 6 1 acc.reverse.length)=.lst 6 (acc.map DDecl.enc) none:=by
     intro R
     simp[frz]
    show Weak (.tup [frz _ (.own 6 1 acc.reverse.length),.b true]) _
    rw[hz]
    exact .refl _
   ·
    rw[if_neg hon] at hc
    simp only[go_sem]
    refine⟨by simp;omega,?_⟩
    exact loopFr (13-(i+1)) (by omega) ⟨i+1,d.On,d::acc,r++[.cells 77 [.s d.Name,.i d.Ty.Kind,.i d.Ty.Enum,.i d.Ty.Len,.s d.On,.s d.Ctor],.tok 77 6 1],by omega,by simp;omega,rfl,hc,rfl,by simp⟩
     (.next rfl (by omega) (.cons rfl (.cons (by simp) .nil))) rfl
 ·
  have:i=13:=by omega
  subst this
  simp only[go_sem]
  rw[← hc]
  exact⟨_,rfl,false,weak_no⟩
theorem weak_yes (acc:List DDecl) (k:Option Nat):Weak (.tup [.lst 6 (acc.map DDecl.enc) k,.b true]) (clockA (acc,true)):=Weak.tups ⟨by cases k<;>first|exact .refl _|exact .tok _ _ _,.refl _,trivial⟩
theorem clock22 (n:DNode) (name:ByteArray) (hl:(allV n).length≤4294967296):PCall Tryz.prog 63 [n.enc,.s name] (clockA (clock n name)):=by
 refine pcall_of_vc tabOK Tryz.func63 (by kernel_rfl) rfl pureL pureI (n:=33) rfl (rs:=[.tmp 4,.tmp 5]) rfl ?_
 simp only[go_sem]
 refine loop_fr [1,6,7,8,9,11,12,13,14,15,16,17,18,19,20,21,22,23,24,25,26,27,28,29,30,31,32,4,5]
  (fun m C h=>∃(i:Nat) (nm:ByteArray) (acc:List DDecl) (kk:Nat) (r:List Blk),i≤13∧acc.length≤i∧m=13-i∧clk n (13-i) nm acc=clock n name∧C=[(7,.raw (.int .i64 (i:Nat))),(1,.s nm),(6,.lst 6 (acc.map DDecl.enc) (some kk))] ∧
   h=nodeB n::r) 13 _ ⟨0,name,[],_,_,by omega,by simp,rfl,rfl,rfl,rfl⟩ (.cons rfl (.cons rfl (.cons rfl .nil))) ?_
 rintro m C j h ⟨i,nm,acc,kk,r,hi,hal,rfl,hc,rfl,rfl⟩
 simp only[go_sem]
 refine brK_dec (fun hlt=>?_) (fun hge=>?_)
 ·
  simp only[go_sem]
  refine PCall.call (decl26 n nm hl) ?_
  have he:13-i=(13-(i+1))+1:=by omega
  rw[he,clk_succ] at hc
  generalize decl n nm=d at hc ⊢
  obtain⟨d,ok⟩:=d
  simp only[go_sem]
  cases ok with
  | false =>
   simp only[Bool.false_eq_true,if_false] at hc
   rw[← hc]
   simp only[go_sem]
   exact⟨_,rfl,false,weak_no⟩
  | true =>
   simp only[if_true] at hc
   simp only[go_sem]
   refine brK_dec (fun hon=>?_) (fun hon=>?_)
   ·
    rw[if_pos hon] at hc
    rw[← hc]
    simp only[go_sem]
    exact⟨_,rfl,false,weak_yes acc _⟩
   ·
    rw[if_neg hon] at hc
    simp only[go_sem]
    refine⟨by omega,?_⟩
    exact loopFr (13-(i+1)) (by omega) ⟨i+1,d.On,d::acc,_,_,by omega,by simp;omega,rfl,hc,rfl,rfl⟩
     (.next rfl (by omega) (.cons rfl (.cons rfl .nil))) rfl
 ·
  have:i=13:=by omega
  subst this
  simp only[go_sem]
  rw[← hc]
  exact⟨_,rfl,false,weak_no⟩
end Go.Proofs.YtpamokpmlplopaaGreatDoor
namespace Go.Abs
open Go
def okDn (N H:List (List ByteArray)) (pl:List Bool) (a b:Int):Prop :=
 (b = -1∧∀ j:Nat,a<j→j<N.length→readyF N H pl j=false)∨∃ k:Nat,k<N.length∧a<k∧b=k∧readyF N H pl k=true∧∀ j:Nat,a<j→j<k→readyF N H pl j=false
section
variable {N H:List (List ByteArray)} {pl:List Bool} {a b:Int}
theorem okDn.zero:okDn N H pl ((N.length:Int)-1) (-1):=.inl ⟨rfl,fun j h1 h2=>by omega⟩
theorem okDn.hit (_h:okDn N H pl a b) {i:Nat} (ha:a=i) (hi:i<N.length) (hr:readyF N H pl i=true):okDn N H pl (a-1) i :=
 .inr ⟨i,hi,by omega,rfl,hr,fun j h1 h2=>by omega⟩
theorem okDn.miss (h:okDn N H pl a b) {i:Nat} (ha:a=i) (hr:readyF N H pl i=false):okDn N H pl (a-1) b:=by
 rcases h with ⟨h0,h⟩|⟨k,h1,h2,h3,h4,h5⟩
 ·
  refine .inl ⟨h0,fun j hj hl=>?_⟩
  by_cases e:j=i
  ·
   subst e;exact hr
  ·
   exact h j (by omega) hl
 ·
  refine .inr ⟨k,h1,by omega,h3,h4,fun j hj hl=>?_⟩
  by_cases e:j=i
  ·
   subst e;exact hr
  ·
   exact h5 j (by omega) hl
theorem okDn.none_ (h:okDn N H pl a b) (ha:¬ a≥0) (hb:b<0):pickF N H pl 0 N.length=none:=by
 rcases h with ⟨_,h⟩|⟨k,_,_,h,_⟩
 ·
  exact pick_none fun j _ hj=>h j (by omega) (by omega)
 ·
  omega
theorem okDn.got (h:okDn N H pl a b) (ha:¬ a≥0) (hb:¬ b<0):∃ k:Nat,b=k∧k<N.length∧pickF N H pl 0 N.length=some k∧pl[k]?=some false:=by
 rcases h with ⟨h,_⟩|⟨k,h1,h2,h3,h4,h5⟩
 ·
  omega
 ·
  exact⟨k,h3,h1,pick_some (by omega) (by omega) (fun j _ hj=>h5 j (by omega) hj) h4,ready_pl h4⟩
end
def EqM (f:Value→Option AV) (H:List (List ByteArray)) (pl:List Bool):Prop:=∀ i:Nat,f (.int .i64 (i:Int))=(match pl[i]?,H[i]? with|some false,some hs=>some (.lst 1 (hs.map AV.s) none)|_,_=>none)
theorem keyEq_int (a b:Int):keyEq (.int .i64 a) (.int .i64 b)=decide (a=b):=by
 by_cases h:a=b
 ·
  subst h;simp[keyEq]
 ·
  simp[keyEq,h]
theorem EqM.nil {H:List (List ByteArray)}:EqM (fun _=>none) H []:=fun i=>by simp
theorem EqM.put {f:Value→Option AV} {H:List (List ByteArray)} {i:Nat} {hs:List ByteArray} (h:EqM f H (List.replicate i false)) (hh:H[i]?=some hs):EqM (mput f (.int .i64 (i:Int)) (.lst 1 (hs.map AV.s) none)) H (List.replicate (i+1) false):=by
 intro j
 unfold mput
 rw[keyEq_int]
 by_cases e:j=i
 ·
  subst e
  have:(List.replicate (j+1) false)[j]?=some false:=by rw[List.getElem?_replicate,if_pos (by omega)]
  rw[this,hh]
  simp
 ·
  have e1:decide ((j:Int)=(i:Int))=false:=by rw[decide_eq_false_iff_not];omega
  rw[e1]
  have e2:(List.replicate (i+1) false)[j]?=(List.replicate i false)[j]?:=by
   rw[List.getElem?_replicate,List.getElem?_replicate]
   by_cases q:j<i
   ·
    rw[if_pos q,if_pos (by omega)]
   ·
    rw[if_neg q,if_neg (by omega)]
  rw[e2]
  exact h j
theorem EqM.more {f:Value→Option AV} {H:List (List ByteArray)} {i:Nat} (h:EqM f H (List.replicate i false)) (n:Nat):more (f (.int .i64 (i:Int))) n=n+1:=by
 have:=h i
 rw[show(List.replicate i false)[i]?=none by rw[List.getElem?_replicate,if_neg (by omega)]] at this
 rw[this]
 rfl
theorem EqM.cut {f:Value→Option AV} {H:List (List ByteArray)} {pl:List Bool} {i:Nat} (h:EqM f H pl):EqM (mcut f (.int .i64 (i:Int))) H (pl.set i true):=by
 intro j
 unfold mcut
 rw[keyEq_int]
 by_cases e:j=i
 ·
  subst e
  have e2:(pl.set j true)[j]?=some true∨(pl.set j true)[j]?=none:=by
   rw[List.getElem?_set]
   simp only[if_true]
   by_cases q:j<pl.length
   ·
    left;rw[if_pos q]
   ·
    right;rw[if_neg q]
  rcases e2 with e2|e2<;>rw[e2]<;>simp
 ·
  have e1:decide ((j:Int)=(i:Int))=false:=by rw[decide_eq_false_iff_not];omega
  rw[e1,List.getElem?_set,if_neg (fun q=>e q.symm)]
  exact h j
theorem EqM.at {f:Value→Option AV} {H:List (List ByteArray)} {pl:List Bool} {i:Nat} {hs:List ByteArray} (h:EqM f H pl) (hp:pl[i]?=some false) (hh:H[i]?=some hs):f (.int .i64 (i:Int))=some (.lst 1 (hs.map AV.s) none):=by
 rw[h i,hp,hh]
theorem EqM.no {f:Value→Option AV} {H:List (List ByteArray)} {pl:List Bool} {i:Nat} (h:EqM f H pl) (hp:pl[i]?=some true):f (.int .i64 (i:Int))=none:=by
 rw[h i,hp]
theorem EqM.less {f:Value→Option AV} {H:List (List ByteArray)} {pl:List Bool} {i:Nat} {hs:List ByteArray} (h:EqM f H pl) (hp:pl[i]?=some false) (hh:H[i]?=some hs) (n:Nat):less (f (.int .i64 (i:Int))) n=n-1:=by
 rw[h.at hp hh];rfl
end Go.Abs
