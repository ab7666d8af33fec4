/-
  RightP2, TyA, TyB, RightP3, ChkP, TyE, TyF: put together.
-/
import Derived.Test.YtpamokpmlplopaaGreatDoorUniAh
import Derived.Test.YtpamokpmlplopaaGreatDoorUniAi
import Derived.Test.YtpamokpmlplopaaGreatDoorUniAm
import Derived.Test.YtpamokpmlplopaaGreatDoorUniAn
import Derived.Test.YtpamokpmlplopaaGreatDoorUniAo
namespace Go.Proofs.YtpamokpmlplopaaGreatDoor
open Go.Abs
set_option maxRecDepth 20000
set_option linter.unusedSimpArgs false
set_option linter.unusedVariables false
set_option maxHeartbeats 1000000
attribute [local irreducible] vc vcOps vcStep vcGuard prK hrK gK gsK brK callK ElemK SeqK BlockK ScopeK OpsK CallK LoopK LoopGo finPost ACall PCall PCallE BCall vqOps vqStep vqGuard qrK heK pcK gqK gqsK QOpsK qcallK DrawK
theorem literal48 (e:Ex):PCall Tryz.prog 169 [e.enc] (.b (litE e)):=by
 refine pcall_of_vc tabOK Tryz.func169 (by kernel_rfl) rfl pureL pureI (n:=28) rfl (rs:=[.tmp 2]) rfl ?_
 repeat' first
  | (exfalso;omega)
  | simp only[go_sem]
  | (intro _)
  | refine brK_dec (fun _=>?_) (fun _=>?_)
  | refine gK_dec (fun _=>?_) (fun _=>?_)
  | refine elemMap (by omega) (by omega) (fun x hx=>?_)
  | (refine finBq rfl ?_;have hk:=k0_at hx;simp[litE, *];done)
  | (refine finBq rfl ?_;simp[litE, *];done)
  | (refine finBq rfl ?_;have h1:¬ e.subs.length=1:=(by omega);simp[litE, *];done)
  | (refine finBq rfl ?_;have h1:e.subs.length=1:=(by omega);have hk:=k0_at hx;simp[litE, *];done)
theorem containsExR {l:List Ex} {p:Ex→Bool} {g:Nat} {first capt:List AV} {h:List Blk} {K:AV→List Blk→Prop} (hp:∀ x∈l,∀ K:AV→List Blk→Prop,K (.b (p x)) h→ACall Tryz.prog g (first++Ex.enc x::capt) h K)
  (hK:K (.b (l.any p)) h):ACall Tryz.prog 170 [.lst 6 (l.map Ex.enc) none,.fn (.func g) first capt] h K:=by
 refine acall_of_vc tabOK Tryz.func170 (by kernel_rfl) rfl (n:=9) rfl (rs:=[.tmp 4]) rfl ?_
 simp only[go_sem]
 refine indexEx hp ?_
 simp only[go_sem]
 rw[idx_any]
 exact finH1 rfl (.raw _) hK
theorem containsStrR {l:List ByteArray} {p:ByteArray→Bool} {g:Nat} {first capt:List AV} {h:List Blk} {K:AV→List Blk→Prop} (hp:∀ x∈l,∀ K:AV→List Blk→Prop,K (.b (p x)) h→ACall Tryz.prog g (first++AV.s x::capt) h K)
  (hK:K (.b (l.any p)) h):ACall Tryz.prog 113 [.lst 1 (l.map AV.s) none,.fn (.func g) first capt] h K:=by
 refine acall_of_vc tabOK Tryz.func113 (by kernel_rfl) rfl (n:=9) rfl (rs:=[.tmp 4]) rfl ?_
 simp only[go_sem]
 refine indexStr hp ?_
 simp only[go_sem]
 rw[idx_any]
 exact finH1 rfl (.raw _) hK
theorem const18 (e:Ex):PCall Tryz.prog 135 [e.enc] (.b (constE e)):=by
 refine pcall_of_vc tabOK Tryz.func135 (by kernel_rfl) rfl pureL pureI (n:=12) rfl (rs:=[.tmp 2]) rfl ?_
 simp only[go_sem]
 refine brK_dec (fun h14=>?_) (fun h14=>?_)
 ·
  simp only[go_sem]
  refine PCall.call (literal48 e) ?_
  simp only[go_sem]
  exact finBq rfl (by simp[constE,h14])
 ·
  have h14:e.kind=14:=Classical.not_not.1 h14
  simp only[go_sem]
  refine containsExR (p:=fun x=>!litE x) (fun x hx K hK=>?_) ?_
  ·
   refine acall_of_vc tabOK Tryz.func171 (by kernel_rfl) rfl (n:=6) rfl (rs:=[.tmp 2]) rfl ?_
   simp only[go_sem]
   refine PCall.call (literal48 x) ?_
   simp only[go_sem]
   exact finH0 _ rfl (.raw _) hK
  simp only[go_sem]
  exact finBq rfl (by simp[constE,h14,List.all_eq_not_any_not])
theorem arm71 (s:ByteArray):PCall Tryz.prog 216 [.s s] (.b (armE s)):=by
 refine pcall_of_vc tabOK Tryz.func216 (by kernel_rfl) rfl pureL pureI (n:=13) rfl (rs:=[.tmp 2]) rfl ?_
 unfold armE
 repeat' first
  | exact finB rfl
  | exact finI rfl
  | exact finP rfl
  | exact absurd rfl (by assumption)
  | simp only[go_sem]
  | (intro _)
  | refine brK_dec (fun _=>?_) (fun _=>?_)
  | refine brK_split (fun hb_=>?_) (fun hb_=>?_)
  | refine gK_dec (fun _=>?_) (fun _=>?_)
  | refine gK_split (fun hb_=>?_) (fun hb_=>?_)
  | refine gqK_dec (fun _=>?_) (fun _=>?_)
  | refine⟨by omega,?_⟩
  | refine elemHave (by omega) (by assumption) ?_
  | refine elemMap (by omega) (by omega) (fun x hx=>?_)
  | refine drawK mo (by kernel_rfl) ?_
  | (refine PCall.call (high8 s) ?_;generalize highF s=q;cases q)
  | (exact finBq rfl (by simp[*]))
theorem part46 (e:Ex) (hn:e.name.size≤1000000):PCall Tryz.prog 168 [e.enc] (.b (partP e)):=by
 refine pcall_of_vc tabOK Tryz.func168 (by kernel_rfl) rfl (by first|exact pureL|exact pureI) (.raw _) (n:=79) rfl (rs:=[.tmp 2]) rfl ?_
 have h2:1≤(ofE e).1.least∨¬ e.kind=8:=by
  by_cases h8:e.kind=8
  ·
   left;simp[ofE,nothingE,h8]
  ·
   right;exact h8
 unfold partP
 simp only[go_sem]
 refine PCall.call (of68 e hn) ?_
 generalize ofE e=R at h2 ⊢
 obtain⟨⟨x,y,z,a,b,c⟩,ok⟩:=R
 dsimp only at h2
 cases ok<;>cases x<;>cases y<;>cases z <;>
 repeat' first
  | (exfalso;omega)
  | simp only[go_sem]
  | (intro _)
  | refine brK_dec (fun _=>?_) (fun _=>?_)
  | refine gK_dec (fun _=>?_) (fun _=>?_)
  | refine brK_split (fun hb_=>?_) (fun hb_=>?_)
  | refine gK_split (fun hb_=>?_) (fun hb_=>?_)
  | (refine PCall.call (once12 e.arms) ?_;generalize ho:onceB e.arms=o;cases o)
  | (refine containsStrR (p:=fun s=>!armE s) (fun s hs K hK=>?_) ?_
     ·
      refine acall_of_vc tabOK Tryz.func215 (by kernel_rfl) rfl (n:=6) rfl (rs:=[.tmp 2]) rfl ?_
      simp only[go_sem]
      refine PCall.call (arm71 s) ?_
      simp only[go_sem]
      exact finH0 _ rfl (.raw _) hK
     have hall:e.arms.all armE=!(e.arms.any fun s=>!armE s):=List.all_eq_not_any_not
     rw[hall]
     generalize (e.arms.any fun s=>!armE s)=q
     cases q)
  | refine elemMap (by omega) (by omega) (fun x hx=>?_)
  | (refine PCall.call (const18 _) ?_)
  | (refine finBq rfl ?_;simp[*];done)
  | (refine finBq rfl ?_;simp[*];omega)
  | (refine finBq rfl ?_;have hm:e.arms.length=0:=(by omega);simp[*];done)
  | (refine finBq rfl ?_;have f1:a≤(e.subs.length:Int):=(by omega);have f2:(e.subs.length:Int)≤b:=(by omega);have f3:(e.arms.length:Int)≤c:=(by omega)
     rw[decide_eq_true f1,decide_eq_true f2,decide_eq_true f3]
     first
      | (have hm:¬ e.arms.length=0:=(by omega);rw[decide_eq_false hm];first|(simp[*];done)|(rw[head_at hx];simp[*];done))
      | (have hm:¬ c>0:=(by omega);rw[decide_eq_false hm];first|(simp[*];done)|(rw[head_at hx];simp[*];done)))
theorem truthP (t:DTy):PCall Tryz.prog 271 [t.enc] (.b (decide (t=tyB))):=by
 refine pcall_of_vc tabOK Tryz.func271 (by kernel_rfl) rfl pureL pureI (n:=6) rfl (rs:=[.tmp 2]) rfl ?_
 repeat' first
  | exact finB rfl
  | exact finI rfl
  | exact finP rfl
  | exact absurd rfl (by assumption)
  | simp only[go_sem]
  | (intro _)
  | refine brK_dec (fun _=>?_) (fun _=>?_)
  | refine brK_any ?_ ?_
  | refine gK_dec (fun _=>?_) (fun _=>?_)
  | refine gK_any ?_ ?_
  | refine gqK_dec (fun _=>?_) (fun _=>?_)
  | refine⟨by omega,?_⟩
  | refine elemHave (by omega) (by assumption) ?_
  | refine elemMap (by omega) (by omega) (fun x hx=>?_)
  | refine drawK mo (by kernel_rfl) ?_
  | (simp only[ty000,ty100,ty200])
  | (exact finBq rfl rfl)
theorem wholeP (t:DTy):PCall Tryz.prog 273 [t.enc] (.b (decide (t=tyI))):=by
 refine pcall_of_vc tabOK Tryz.func273 (by kernel_rfl) rfl pureL pureI (n:=6) rfl (rs:=[.tmp 2]) rfl ?_
 repeat' first
  | exact finB rfl
  | exact finI rfl
  | exact finP rfl
  | exact absurd rfl (by assumption)
  | simp only[go_sem]
  | (intro _)
  | refine brK_dec (fun _=>?_) (fun _=>?_)
  | refine brK_any ?_ ?_
  | refine gK_dec (fun _=>?_) (fun _=>?_)
  | refine gK_any ?_ ?_
  | refine gqK_dec (fun _=>?_) (fun _=>?_)
  | refine⟨by omega,?_⟩
  | refine elemHave (by omega) (by assumption) ?_
  | refine elemMap (by omega) (by omega) (fun x hx=>?_)
  | refine drawK mo (by kernel_rfl) ?_
  | (simp only[ty000,ty100,ty200])
  | (exact finBq rfl rfl)
theorem truthX (t:DTy):PCall Tryz.prog 186 [t.enc] (.b (decide (t=tyB))):=by
 refine pcall_of_vc tabOK Tryz.func186 (by kernel_rfl) rfl pureL pureI (n:=6) rfl (rs:=[.tmp 2]) rfl ?_
 repeat' first
  | exact finB rfl
  | exact finI rfl
  | exact finP rfl
  | exact absurd rfl (by assumption)
  | simp only[go_sem]
  | (intro _)
  | refine brK_dec (fun _=>?_) (fun _=>?_)
  | refine brK_any ?_ ?_
  | refine gK_dec (fun _=>?_) (fun _=>?_)
  | refine gK_any ?_ ?_
  | refine gqK_dec (fun _=>?_) (fun _=>?_)
  | refine⟨by omega,?_⟩
  | refine elemHave (by omega) (by assumption) ?_
  | refine elemMap (by omega) (by omega) (fun x hx=>?_)
  | refine drawK mo (by kernel_rfl) ?_
  | (simp only[ty000,ty100,ty200])
  | (exact finBq rfl rfl)
theorem wholeX (t:DTy):PCall Tryz.prog 188 [t.enc] (.b (decide (t=tyI))):=by
 refine pcall_of_vc tabOK Tryz.func188 (by kernel_rfl) rfl pureL pureI (n:=6) rfl (rs:=[.tmp 2]) rfl ?_
 repeat' first
  | exact finB rfl
  | exact finI rfl
  | exact finP rfl
  | exact absurd rfl (by assumption)
  | simp only[go_sem]
  | (intro _)
  | refine brK_dec (fun _=>?_) (fun _=>?_)
  | refine brK_any ?_ ?_
  | refine gK_dec (fun _=>?_) (fun _=>?_)
  | refine gK_any ?_ ?_
  | refine gqK_dec (fun _=>?_) (fun _=>?_)
  | refine⟨by omega,?_⟩
  | refine elemHave (by omega) (by assumption) ?_
  | refine elemMap (by omega) (by omega) (fun x hx=>?_)
  | refine drawK mo (by kernel_rfl) ?_
  | (simp only[ty000,ty100,ty200])
  | (exact finBq rfl rfl)
theorem plainK (k:Int):PCall Tryz.prog 228 [.i k] (DTy.enc ⟨k,0,0⟩):=by
 refine pcall_of_vc tabOK Tryz.func228 (by kernel_rfl) rfl (by first|exact pureL|exact pureI) (by first|exact pureL|exact pureI) (n:=5) rfl (rs:=[.cell 2 42]) rfl ?_
 simp only[go_sem]
 exact⟨_,rfl,false,by rw[DTy.enc_eq];exact .refl _⟩
theorem oneX (t:DTy):PCall Tryz.prog 187 [t.enc] (DTy.enc ⟨t.Kind,t.Enum,0⟩):=by
 refine pcall_of_vc tabOK Tryz.func187 (by kernel_rfl) rfl (by first|exact pureL|exact pureI) (by first|exact pureL|exact pureI) (n:=5) rfl (rs:=[.cell 2 42]) rfl ?_
 simp only[go_sem]
 exact⟨_,rfl,false,by rw[DTy.enc_eq];exact .refl _⟩
theorem oneP (t:DTy):PCall Tryz.prog 272 [t.enc] (DTy.enc ⟨t.Kind,t.Enum,0⟩):=by
 refine pcall_of_vc tabOK Tryz.func272 (by kernel_rfl) rfl pureL pureI (n:=5) rfl (rs:=[.cell 2 42]) rfl ?_
 simp only[go_sem]
 exact⟨_,rfl,false,by rw[DTy.enc_eq];exact .refl _⟩
theorem groupP (op:Int):PCall Tryz.prog 305 [.i op] (.i (groupF op)):=by
 refine pcall_of_vc tabOK Tryz.func305 (by kernel_rfl) rfl pureL pureI (n:=26) rfl (rs:=[.tmp 2]) rfl ?_
 repeat' first
  | exact finB rfl
  | exact finI rfl
  | exact finP rfl
  | exact absurd rfl (by assumption)
  | simp only[go_sem]
  | (intro _)
  | refine brK_dec (fun _=>?_) (fun _=>?_)
  | refine brK_any ?_ ?_
  | refine gK_dec (fun _=>?_) (fun _=>?_)
  | refine gK_any ?_ ?_
  | refine gqK_dec (fun _=>?_) (fun _=>?_)
  | refine⟨by omega,?_⟩
  | refine elemHave (by omega) (by assumption) ?_
  | refine elemMap (by omega) (by omega) (fun x hx=>?_)
  | refine drawK mo (by kernel_rfl) ?_
  | (exfalso;omega)
  | (refine finIq rfl ?_;unfold groupF;repeat' split<;>omega)
theorem unP (op:Int) (t:DTy):PCall Tryz.prog 269 [.i op,t.enc] (tyA (unT op t)):=by
 refine pcall_of_vc tabOK Tryz.func269 (by kernel_rfl) rfl (by first|exact pureL|exact pureI) (pure_tyA _) (n:=25) rfl (rs:=[.cell 4 42,.tmp 5]) rfl ?_
 repeat' first
  | exact finB rfl
  | exact finI rfl
  | exact finP rfl
  | exact absurd rfl (by assumption)
  | simp only[go_sem]
  | (intro _)
  | refine brK_dec (fun _=>?_) (fun _=>?_)
  | refine brK_any ?_ ?_
  | refine gK_dec (fun _=>?_) (fun _=>?_)
  | refine gK_any ?_ ?_
  | refine gqK_dec (fun _=>?_) (fun _=>?_)
  | refine⟨by omega,?_⟩
  | refine elemHave (by omega) (by assumption) ?_
  | refine elemMap (by omega) (by omega) (fun x hx=>?_)
  | refine drawK mo (by kernel_rfl) ?_
  | (exfalso;omega)
  | (simp only[ty000,ty100,ty200])
  | (exact finTy rfl (by simp[unT, *]))
theorem unX (op:Int) (t:DTy):PCall Tryz.prog 184 [.i op,t.enc] (tyA (unT op t)):=by
 refine pcall_of_vc tabOK Tryz.func184 (by kernel_rfl) rfl (by first|exact pureL|exact pureI) (pure_tyA _) (n:=24) rfl (rs:=[.cell 4 42,.tmp 5]) rfl ?_
 repeat' first
  | exact finB rfl
  | exact finI rfl
  | exact finP rfl
  | exact absurd rfl (by assumption)
  | simp only[go_sem]
  | (intro _)
  | refine brK_dec (fun _=>?_) (fun _=>?_)
  | refine brK_any ?_ ?_
  | refine gK_dec (fun _=>?_) (fun _=>?_)
  | refine gK_any ?_ ?_
  | refine gqK_dec (fun _=>?_) (fun _=>?_)
  | refine⟨by omega,?_⟩
  | refine elemHave (by omega) (by assumption) ?_
  | refine elemMap (by omega) (by omega) (fun x hx=>?_)
  | refine drawK mo (by kernel_rfl) ?_
  | (exfalso;omega)
  | (simp only[ty000,ty100,ty200])
  | (refine PCall.call (plainK _) ?_)
  | (refine pcK_of (plainK _) ?_)
  | (exact finTy rfl (by simp[unT, *]))
theorem binP (op:Int) (t u:DTy):PCall Tryz.prog 270 [.i op,t.enc,u.enc] (tyA (binT op t u)):=by
 refine pcall_of_vc tabOK Tryz.func270 (by kernel_rfl) rfl (by first|exact pureL|exact pureI) (pure_tyA _) (n:=64) rfl (rs:=[.cell 6 42,.tmp 7]) rfl ?_
 have hg:(groupF op=1∧3≤op∧op≤7)∨(groupF op=2∧8≤op∧op≤10)∨(groupF op=4∧(op=11∨op=12))∨(groupF op=3∧13≤op∧op≤16)∨(groupF op=0∧(op<3∨16<op)):=by
  unfold groupF
  repeat' split
  all_goals omega
 generalize hG:groupF op=G at hg
 repeat' first
  | (exfalso;omega)
  | simp only[go_sem]
  | (intro _)
  | refine brK_dec (fun _=>?_) (fun _=>?_)
  | refine gK_dec (fun _=>?_) (fun _=>?_)
  | refine gqK_dec (fun _=>?_) (fun _=>?_)
  | refine drawC [5] mo (by kernel_rfl) ?_
  | (refine PCall.call (groupP op) ?_;rw[hG])
  | (simp only[ty000,ty100,ty200])
  | (refine finTy rfl ?_;unfold binT;have f1:3≤op∧op≤7:=(by omega);have f2:¬ 8≤op:=(by omega);have f3:¬ 13≤op:=(by omega);have f4:¬ (op=11∨op=12):=(by omega);simp[*];done)
  | (refine finTy rfl ?_;unfold binT;have f1:¬ (3≤op∧op≤7):=(by omega);have f2:8≤op∧op≤10:=(by omega);have f3:¬ (13≤op):=(by omega);have f4:¬ (op=11∨op=12):=(by omega);have f5:¬ op≤7:=(by omega);simp[*];done)
  | (refine finTy rfl ?_;unfold binT;have f1:¬ op≤7:=(by omega);have f2:¬ op≤10:=(by omega);have f3:13≤op∧op≤16:=(by omega);have f4:¬ (op=11∨op=12):=(by omega);simp[*];done)
  | (have he:t=u:=(by assumption);subst he;refine finTy rfl ?_;unfold binT;have f1:¬ op≤7:=(by omega);have f2:¬ op≤10:=(by omega);have f3:¬ 13≤op:=(by omega);have f4:op=11∨op=12:=(by omega);have f6:t.Len=0:=(by omega);simp[*];done)
  | (have he:t=u:=(by assumption);subst he;refine finTy rfl ?_;unfold binT;have f1:¬ op≤7:=(by omega);have f2:¬ op≤10:=(by omega);have f3:¬ 13≤op:=(by omega);have f4:op=11∨op=12:=(by omega);have f6:¬ t.Len=0:=(by omega);simp[*];done)
  | (refine finTy rfl ?_;unfold binT;have f1:¬ op≤7:=(by omega);have f2:¬ op≤10:=(by omega);have f3:¬ 13≤op:=(by omega);have f4:op=11∨op=12:=(by omega);simp[*];done)
  | (refine finTy rfl ?_;unfold binT;have f1:¬ (3≤op∧op≤7):=(by omega);have f2:¬ (8≤op∧op≤10):=(by omega);have f3:¬ (13≤op∧op≤16):=(by omega);have f4:¬ (op=11∨op=12):=(by omega);rw[if_neg (fun h=>f1 ⟨h.1,h.2.1⟩),if_neg (fun h=>by rcases h with h|h|h;exact f2 ⟨h.1,h.2.1⟩;exact f3 ⟨h.1,h.2.1⟩;exact f4 h.1)];done)
theorem depth22:∀(e:Ex),(parts e).length≤100000→PCall Tryz.prog 166 [e.enc] (.i (depthE e:Nat)):=by
 intro e
 induction e using Ex.ind with
 | _ e ih =>
 intro hl
 refine pcall_of_vc tabOK Tryz.func166 (by kernel_rfl) rfl pureL pureI (n:=20) rfl (rs:=[.tmp 2]) rfl ?_
 simp only[go_sem]
 intro _
 refine loop_frX [3,5,9,10,11,12,13,14,15,16,17] (fun m C=>∃ i:Nat,i≤e.subs.length∧m=e.subs.length-i∧C=[(9,.raw (.int .i64 (i:Nat))),(3,.raw (.int .i64 (depthL (e.subs.take i):Nat)))]) e.subs.length _ ⟨0,by omega,by omega,rfl⟩ (.cons rfl (.cons (by simp[depthL]) .nil)) ?_
 rintro m C j r ⟨i,hi,rfl,rfl⟩
 simp only[go_sem]
 refine brK_dec (fun hlt=>?_) (fun hge=>?_)
 ·
  simp only[go_sem]
  refine elemMap (by omega) (by omega) (fun x hx=>?_)
  have hx':e.subs[i]?=some x:=by simpa using hx
  simp only[go_sem]
  refine PCall.call (ih x (List.mem_of_getElem? hx') (sub_small (List.mem_of_getElem? hx') hl)) ?_
  simp only[go_sem,max_step hx']
  exact loopFrX _ (by omega) _ ⟨i+1,by omega,rfl,rfl⟩ (.next rfl (by omega) (.cons rfl .nil)) rfl (by first|rfl|(simp only[List.append_assoc,List.cons_append,List.nil_append];rfl))
 ·
  have hie:i=e.subs.length:=by omega
  subst hie
  have hd:=depth_le e
  rw[depthE_eq] at hd ⊢
  rw[List.take_length]
  simp only[go_sem]
  rw[wrap_in _ (by omega) (by omega)]
  exact⟨_,rfl,false,.refl _⟩
theorem right16 (e:Ex) (ho:okE e):PCall Tryz.prog 134 [e.enc] (.b (rightE e)):=by
 have hb:(parts e).length≤100000:=by have:=ho.1;omega
 refine pcall_of_vc tabOK Tryz.func134 (by kernel_rfl) rfl (by first|exact pureL|exact pureI) (.raw _) (n:=18) rfl (rs:=[.cell 2 4]) rfl ?_
 unfold rightE
 simp only[go_sem]
 refine PCall.call (size20 e hb) ?_
 by_cases h1:(parts e).length≤60∧depthE e≤12
 ·
  rw[decide_eq_true h1.1,decide_eq_true h1.2]
  simp only[go_sem]
  refine gK_dec (fun _=>by exfalso;omega) (fun _=>?_)
  simp only[go_sem]
  refine PCall.call (depth22 e hb) ?_
  simp only[go_sem]
  refine brK_dec (fun _=>by exfalso;omega) (fun _=>?_)
  simp only[go_sem]
  refine each28 e ?_
  simp only[go_sem]
  intro l
  refine each_range e 3 2 0 (fun n=>∀ y∈(parts e).take n,partE y=true) (fun n=>[exBx e,.cells 4 [.b false],exBx e]) (fun _=>[]) (fun h=>(parts e).all partE=false∧h=[exBx e,.cells 4 [.b false],exBx e]) (fun _=>rfl) (fun _=>rfl) (fun _ h=>by rw[h.2];rfl) rfl rfl rfl rfl (by simp) (fun n z r K hz hi hK1 hK2=>?_) (fun r hi=>?_) (fun n h' r hs=>?_)
  ·
   have hzm:=List.mem_of_getElem? hz
   have hoz:=ho.2 z hzm
   simp only[go_sem,setPs,roundA]
   try refine⟨rfl,?_⟩
   try simp only[go_sem]
   refine PCall.call (part46 z (by omega)) ?_
   rw[part_same]
   cases hp:partE z with
   | true =>
    have hk:=hK1 (take_all hi hz hp) [exBx z]
    simp only[go_sem,roundB]
    first|exact hk|(simpa using hk)|(refine⟨rfl,?_⟩;simpa using hk)
   | false =>
    have hk:=hK2 [exBx e,.cells 4 [.b false],exBx e] [exBx z] ⟨List.all_eq_false.2 ⟨z,hzm,by simp[hp]⟩,rfl⟩
    simp only[go_sem,roundB]
    first|exact hk|(simpa using hk)|(refine⟨rfl,?_⟩;simpa using hk)
  ·
   rw[List.take_length] at hi
   rw[List.all_eq_true.2 hi]
   simp only[go_sem]
   exact⟨_,rfl,false,.refl _⟩
  ·
   obtain⟨hs,rfl⟩:=hs
   simp only[go_sem]
   rw[hs]
   exact⟨_,rfl,false,.refl _⟩
 ·
  have hf:(decide ((parts e).length≤60)&&decide (depthE e≤12))=false:=by
   by_cases q:(parts e).length≤60
   ·
    have:¬ depthE e≤12:=fun q'=>h1 ⟨q,q'⟩
    simp[this]
   ·
    simp[q]
  rw[hf,Bool.false_and]
  repeat' first
   | (exfalso;exact h1 ⟨by omega,by omega⟩)
   | simp only[go_sem]
   | refine brK_dec (fun _=>?_) (fun _=>?_)
   | refine gK_dec (fun _=>?_) (fun _=>?_)
   | refine PCall.call (depth22 e hb) ?_
   | exact⟨_,rfl,false,.refl _⟩
theorem indexEn {l:List DEnum} {p:DEnum→Bool} {g:Nat} {first capt:List AV} {h:List Blk} {K:AV→List Blk→Prop} (hp:∀ x∈l,∀ K:AV→List Blk→Prop,K (.b (p x)) h→ACall Tryz.prog g (first++DEnum.enc x::capt) h K)
  (hK:K (.i (idxOf p l)) h):ACall Tryz.prog 325 [.lst 2 (l.map (DEnum.enc)) none,.fn (.func g) first capt] h K:=by
 refine acall_of_vc tabOK Tryz.func325 (by kernel_rfl) rfl (n:=19) rfl (rs:=[.tmp 4]) rfl ?_
 simp only[go_sem]
 intro hlen
 refine loop_frH [5,8,9,10,11,12,13,14,15,16,18] (fun n C=>∃(i:Nat),i≤l.length∧n=l.length-i∧(∀ x∈l.take i,p x=false)∧C=[(8,.raw (.int .i64 (i:Nat)))]) l.length _ ⟨0,by omega,by omega,by simp,rfl⟩ (.cons rfl .nil) ?_
 rintro n C j ⟨i,hi,rfl,hp0,rfl⟩
 simp only[go_sem]
 refine brK_dec (fun hlt=>?_) (fun hge=>?_)
 ·
  simp only[go_sem]
  refine elemMap (by omega) (by omega) (fun x hx=>?_)
  simp only[go_sem]
  refine hp x (List.mem_of_getElem? hx) _ ?_
  simp only[go_sem]
  cases hb:p x with
  | true =>
   simp only[go_sem]
   rw[idxOf_at hp0 hx hb] at hK
   exact finH1 rfl (.raw _) hK
  | false =>
   simp only[go_sem]
   exact loopFrH (l.length-(i+1)) (by omega) ⟨i+1,by omega,rfl,take_all hp0 (by rw[Int.toNat_natCast] at hx;exact hx) hb,rfl⟩ (.next rfl (by omega) .nil) rfl
 ·
  simp only[go_sem]
  rw[idxOf_none (take_full hp0 (by omega))] at hK
  exact finH1 rfl (.raw _) hK
theorem containsEn {l:List DEnum} {p:DEnum→Bool} {g:Nat} {first capt:List AV} {h:List Blk} {K:AV→List Blk→Prop} (hp:∀ x∈l,∀ K:AV→List Blk→Prop,K (.b (p x)) h→ACall Tryz.prog g (first++DEnum.enc x::capt) h K)
  (hK:K (.b (l.any p)) h):ACall Tryz.prog 312 [.lst 2 (l.map (DEnum.enc)) none,.fn (.func g) first capt] h K:=by
 refine acall_of_vc tabOK Tryz.func312 (by kernel_rfl) rfl (n:=9) rfl (rs:=[.tmp 4]) rfl ?_
 simp only[go_sem]
 refine indexEn hp ?_
 simp only[go_sem]
 rw[idx_any]
 exact finH1 rfl (.raw _) hK
theorem containsDe {l:List DDecl} {p:DDecl→Bool} {g:Nat} {first capt:List AV} {h:List Blk} {K:AV→List Blk→Prop} (hp:∀ x∈l,∀ K:AV→List Blk→Prop,K (.b (p x)) h→ACall Tryz.prog g (first++DDecl.enc x::capt) h K)
  (hK:K (.b (l.any p)) h):ACall Tryz.prog 288 [.lst 6 (l.map (DDecl.enc)) none,.fn (.func g) first capt] h K:=by
 refine acall_of_vc tabOK Tryz.func288 (by kernel_rfl) rfl (n:=9) rfl (rs:=[.tmp 4]) rfl ?_
 simp only[go_sem]
 refine indexDecl hp ?_
 simp only[go_sem]
 rw[idx_any]
 exact finH1 rfl (.raw _) hK
theorem containsNo {l:List DNode} {p:DNode→Bool} {g:Nat} {first capt:List AV} {h:List Blk} {K:AV→List Blk→Prop} (hp:∀ x∈l,∀ K:AV→List Blk→Prop,K (.b (p x)) h→ACall Tryz.prog g (first++DNode.enc x::capt) h K)
  (hK:K (.b (l.any p)) h):ACall Tryz.prog 285 [.lst 5 (l.map (DNode.enc)) none,.fn (.func g) first capt] h K:=by
 refine acall_of_vc tabOK Tryz.func285 (by kernel_rfl) rfl (n:=9) rfl (rs:=[.tmp 4]) rfl ?_
 simp only[go_sem]
 refine indexNode hp ?_
 simp only[go_sem]
 rw[idx_any]
 exact finH1 rfl (.raw _) hK
theorem finHb {T:TypeId→TI} {s:List AV} {h:List Blk} {rs:List ResultVar} {K:AV→List Blk→Prop} {b c:Bool} (junk:List Blk) (hl:resAV T s (h++junk) rs=some [.b b]) (hK:K (.b c) h) (he:b=c):FinH T rs h K s (h++junk):=finH0 junk hl (.raw _) (he▸hK)
theorem great74 (l:List DEnum):PCall Tryz.prog 284 [.lst 2 (l.map DEnum.enc) none] (.b (greatE l)):=by
 refine pcall_of_vc tabOK Tryz.func284 (by kernel_rfl) rfl pureL pureI (n:=10) rfl (rs:=[.tmp 2]) rfl ?_
 repeat' first
  | (exfalso;omega)
  | simp only[go_sem]
  | (intro _)
  | refine gK_dec (fun _=>?_) (fun _=>?_)
  | (refine containsEn (p:=fun e=>decide (e.Ctors.length>6)) (fun x hx K hK=>?_) ?_
     ·
      refine acall_of_vc tabOK Tryz.func313 (by kernel_rfl) rfl (n:=7) rfl (rs:=[.tmp 2]) rfl ?_
      simp only[go_sem]
      (try intro _)
      refine finHb _ rfl hK ?_
      exact decide_eq_decide.2 (by omega))
  | (refine finBq rfl ?_;unfold greatE;(try rw[decide_eq_true (p:=l.length>4) (by omega)]);(try rw[decide_eq_false (p:=l.length>4) (by omega)]);simp;done)
theorem rightTyP (l:List DEnum) (t:DTy):PCall Tryz.prog 315 [.lst 2 (l.map DEnum.enc) none,t.enc] (.b (rightTyF l.length t)):=by
 refine pcall_of_vc tabOK Tryz.func315 (by kernel_rfl) rfl pureL pureI (n:=33) rfl (rs:=[.tmp 4]) rfl ?_
 repeat' first
  | exact finB rfl
  | exact finI rfl
  | exact finP rfl
  | exact absurd rfl (by assumption)
  | simp only[go_sem]
  | (intro _)
  | refine brK_dec (fun _=>?_) (fun _=>?_)
  | refine brK_any ?_ ?_
  | refine gK_dec (fun _=>?_) (fun _=>?_)
  | refine gK_any ?_ ?_
  | refine gqK_dec (fun _=>?_) (fun _=>?_)
  | refine⟨by omega,?_⟩
  | refine elemHave (by omega) (by assumption) ?_
  | refine elemMap (by omega) (by omega) (fun x hx=>?_)
  | refine drawK mo (by kernel_rfl) ?_
  | (exfalso;omega)
  | (refine finBq rfl ?_;unfold rightTyF;exact(decide_eq_true (by omega)).symm)
  | (refine finBq rfl ?_;unfold rightTyF;exact(decide_eq_false (by omega)).symm)
  | (refine finBq rfl ?_;unfold rightTyF;exact decide_eq_decide.2 (by omega))
theorem armP (s:ByteArray):PCall Tryz.prog 316 [.s s] (.b (armE s)):=by
 refine pcall_of_vc tabOK Tryz.func316 (by kernel_rfl) rfl pureL pureI (n:=13) rfl (rs:=[.tmp 2]) rfl ?_
 unfold armE
 repeat' first
  | exact finB rfl
  | exact finI rfl
  | exact finP rfl
  | exact absurd rfl (by assumption)
  | simp only[go_sem]
  | (intro _)
  | refine brK_dec (fun _=>?_) (fun _=>?_)
  | refine brK_split (fun hb_=>?_) (fun hb_=>?_)
  | refine gK_dec (fun _=>?_) (fun _=>?_)
  | refine gK_split (fun hb_=>?_) (fun hb_=>?_)
  | refine gqK_dec (fun _=>?_) (fun _=>?_)
  | refine⟨by omega,?_⟩
  | refine elemHave (by omega) (by assumption) ?_
  | refine elemMap (by omega) (by omega) (fun x hx=>?_)
  | refine drawK mo (by kernel_rfl) ?_
  | (refine PCall.call (high8 s) ?_;generalize highF s=q;cases q)
  | (exact finBq rfl (by simp[*]))
theorem declared131 (L:List DEnum) (d:DDecl) {k:Nat} {h:List Blk} {K:AV→List Blk→Prop} (hk:h[k]?=some (.cells 22 [.lst 2 (L.map DEnum.enc) none])) (hK:K (.b (declaredF L.length d)) h):ACall Tryz.prog 314 [d.enc,.ptr k 0] h K:=by
 have hkl:=(List.getElem?_eq_some_iff.1 hk).1
 have hk1:∀ r,(h++r)[k]?=some (.cells 22 [.lst 2 (L.map DEnum.enc) none]):=fun r=>by rw[List.getElem?_append_left hkl];exact hk
 refine acall_of_vc tabOK Tryz.func314 (by kernel_rfl) rfl (n:=35) rfl (rs:=[.tmp 3]) rfl ?_
 repeat' first
  | simp only[go_sem,hk1]
  | refine brK_dec (fun _=>?_) (fun _=>?_)
  | refine gK_dec (fun _=>?_) (fun _=>?_)
  | refine brK_split (fun hb_=>?_) (fun hb_=>?_)
  | refine gK_split (fun hb_=>?_) (fun hb_=>?_)
  | ((fail_if_success (clear h1));refine PCall.call (low6 d.Name) ?_;generalize h1:lowF d.Name=q;cases q)
  | (refine PCall.call (low6 d.On) ?_;generalize h2:lowF d.On=q;cases q)
  | (refine PCall.call (rightTyP L d.Ty) ?_;generalize h3:rightTyF L.length d.Ty=q;cases q)
  | (refine PCall.call (armP d.Ctor) ?_;generalize h4:armE d.Ctor=q;cases q)
  | (refine finHb _ rfl hK ?_;first|(simp only[declaredF,bareF,h1,h2,h3,h4];simp[*];done)|(simp only[declaredF,bareF,h1,h2,h3];simp[*];done)|(simp only[declaredF,bareF,h1,h3];simp[*];done)|(simp only[declaredF,bareF,h1];simp[*];done))
theorem equationP (q:DEq) (hq:okEq q):PCall Tryz.prog 289 [q.enc] (.b (eqF q)):=by
 refine pcall_of_vc tabOK Tryz.func289 (by kernel_rfl) rfl pureL pureI (n:=29) rfl (rs:=[.tmp 2]) rfl ?_
 unfold eqF
 have hall:q.Names.all lowF=!(q.Names.any fun s=>!lowF s):=List.all_eq_not_any_not
 rw[hall]
 repeat' first
  | (exfalso;omega)
  | simp only[go_sem]
  | (intro _)
  | refine brK_dec (fun _=>?_) (fun _=>?_)
  | refine gK_dec (fun _=>?_) (fun _=>?_)
  | refine brK_split (fun hb_=>?_) (fun hb_=>?_)
  | refine gK_split (fun hb_=>?_) (fun hb_=>?_)
  | (refine PCall.call (right16 q.E hq.2.1) ?_;generalize rightE q.E=b;cases b)
  | (refine containsStrR (p:=fun s=>!lowF s) (fun s hs K hK=>?_) ?_
     ·
      refine acall_of_vc tabOK Tryz.func317 (by kernel_rfl) rfl (n:=6) rfl (rs:=[.tmp 2]) rfl ?_
      simp only[go_sem]
      refine PCall.call (low6 s) ?_
      simp only[go_sem]
      exact finH0 _ rfl (.raw _) hK
     generalize (q.Names.any fun s=>!lowF s)=b
     cases b)
  | (refine finBq rfl ?_;(try rw[decide_eq_true (p:=0<q.Names.length) (by omega)]);(try rw[decide_eq_false (p:=0<q.Names.length) (by omega)]);(try rw[decide_eq_true (p:=q.Names.length≤1) (by omega)]);(try rw[decide_eq_false (p:=q.Names.length≤1) (by omega)]);(try rw[decide_eq_true (p:=q.E.kind=13) (by omega)]);(try rw[decide_eq_false (p:=q.E.kind=13) (by omega)]);simp[*];done)
theorem bareP {l:List DDecl} {h:List Blk} {K:AV→List Blk→Prop} (hK:K (.b (l.any fun d=>!(decide (d.On=⟨#[]⟩)))) h):ACall Tryz.prog 288 [.lst 6 (l.map DDecl.enc) none,.fn (.func 287) [] []] h K:=by
 refine containsDe (p:=fun d=>!(decide (d.On=⟨#[]⟩))) (fun x hx K hK=>?_) hK
 refine acall_of_vc tabOK Tryz.func287 (by kernel_rfl) rfl (n:=6) rfl (rs:=[.tmp 2]) rfl ?_
 simp only[go_sem]
 refine finHb _ rfl hK ?_
 simp
theorem indexTy {l:List DTy} {p:DTy→Bool} {g:Nat} {first capt:List AV} {h:List Blk} {K:AV→List Blk→Prop} (hp:∀ x∈l,∀ K:AV→List Blk→Prop,K (.b (p x)) h→ACall Tryz.prog g (first++DTy.enc x::capt) h K)
  (hK:K (.i (idxOf p l)) h):ACall Tryz.prog 266 [.lst 3 (l.map (DTy.enc)) none,.fn (.func g) first capt] h K:=by
 refine acall_of_vc tabOK Tryz.func266 (by kernel_rfl) rfl (n:=19) rfl (rs:=[.tmp 4]) rfl ?_
 simp only[go_sem]
 intro hlen
 refine loop_frH [5,8,9,10,11,12,13,14,15,16,18] (fun n C=>∃(i:Nat),i≤l.length∧n=l.length-i∧(∀ x∈l.take i,p x=false)∧C=[(8,.raw (.int .i64 (i:Nat)))]) l.length _ ⟨0,by omega,by omega,by simp,rfl⟩ (.cons rfl .nil) ?_
 rintro n C j ⟨i,hi,rfl,hp0,rfl⟩
 simp only[go_sem]
 refine brK_dec (fun hlt=>?_) (fun hge=>?_)
 ·
  simp only[go_sem]
  refine elemMap (by omega) (by omega) (fun x hx=>?_)
  simp only[go_sem]
  refine hp x (List.mem_of_getElem? hx) _ ?_
  simp only[go_sem]
  cases hb:p x with
  | true =>
   simp only[go_sem]
   rw[idxOf_at hp0 hx hb] at hK
   exact finH1 rfl (.raw _) hK
  | false =>
   simp only[go_sem]
   exact loopFrH (l.length-(i+1)) (by omega) ⟨i+1,by omega,rfl,take_all hp0 (by rw[Int.toNat_natCast] at hx;exact hx) hb,rfl⟩ (.next rfl (by omega) .nil) rfl
 ·
  simp only[go_sem]
  rw[idxOf_none (take_full hp0 (by omega))] at hK
  exact finH1 rfl (.raw _) hK
theorem containsTy {l:List DTy} {p:DTy→Bool} {g:Nat} {first capt:List AV} {h:List Blk} {K:AV→List Blk→Prop} (hp:∀ x∈l,∀ K:AV→List Blk→Prop,K (.b (p x)) h→ACall Tryz.prog g (first++DTy.enc x::capt) h K)
  (hK:K (.b (l.any p)) h):ACall Tryz.prog 218 [.lst 3 (l.map (DTy.enc)) none,.fn (.func g) first capt] h K:=by
 refine acall_of_vc tabOK Tryz.func218 (by kernel_rfl) rfl (n:=9) rfl (rs:=[.tmp 4]) rfl ?_
 simp only[go_sem]
 refine indexTy hp ?_
 simp only[go_sem]
 rw[idx_any]
 exact finH1 rfl (.raw _) hK
theorem headD_at {l:List DTy} {x:DTy} (hx:l[((0:Int)).toNat]?=some x):l.headD ty0=x:=by
 match l with
 | y::l=>simp at hx;rw[hx];rfl
theorem same170 (l:List DTy) (t:DTy) (hl:l≠[]) {k:Nat} {h:List Blk} {K:AV→List Blk→Prop} (hk:h[k]?=some (.cells 191 [.lst 3 (l.map DTy.enc) none])) (hK:K (.b (!(decide (t=l.headD ty0)))) h):ACall Tryz.prog 219 [t.enc,.ptr k 0] h K:=by
 have hkl:=(List.getElem?_eq_some_iff.1 hk).1
 have hk1:∀ r,(h++r)[k]?=some (.cells 191 [.lst 3 (l.map DTy.enc) none]):=fun r=>by rw[List.getElem?_append_left hkl];exact hk
 have hl0:0<l.length:=List.length_pos_iff.2 hl
 refine acall_of_vc tabOK Tryz.func219 (by kernel_rfl) rfl (n:=9) rfl (rs:=[.tmp 3]) rfl ?_
 simp only[go_sem,hk1]
 refine drawK mo (by kernel_rfl) ?_
 simp only[go_sem,hk1]
 refine elemMap (by omega) (by omega) (fun x hx=>?_)
 have hh:=headD_at hx
 simp only[go_sem]
 refine finHb _ rfl hK ?_
 rw[hh]
 simp
theorem sameP (l:List DTy):PCall Tryz.prog 173 [.lst 3 (l.map DTy.enc) none] (.b (sameT l)):=by
 refine pcall_of_vc tabOK Tryz.func173 (by kernel_rfl) rfl pureL pureI (n:=7) rfl (rs:=[.tmp 2]) rfl ?_
 simp only[go_sem]
 refine containsTy (p:=fun t=>!(decide (t=l.headD ty0))) (fun t ht K hK=>same170 l t (List.ne_nil_of_mem ht) (k:=0) rfl hK) ?_
 simp only[go_sem]
 refine finBq rfl ?_
 unfold sameT
 rw[List.all_eq_not_any_not]
 simp
theorem allX (l:List DTy):PCall Tryz.prog 181 [.lst 3 (l.map DTy.enc) none] (.b (sameT l)):=by
 refine pcall_of_vc tabOK Tryz.func181 (by kernel_rfl) rfl pureL pureI (n:=18) rfl (rs:=[.tmp 2]) rfl ?_
 simp only[go_sem]
 refine loop_frH [2,3,4,5,6,7,8,9,10,11,12,13,14,15,16,17] (fun m C=>∃ i:Nat,1≤i∧(i≤l.length∨(l=[]∧i=1))∧m=l.length+1-i∧(∀ t∈l.take i,t=l.headD ty0)∧C=[(3,.raw (.int .i64 (i:Nat)))]) (l.length+1-1) _ ⟨1,by omega,by cases l<;>simp,by omega,by cases l<;>simp,rfl⟩ (.cons rfl .nil) ?_
 rintro m C ja ⟨i,hi1,hi,rfl,hp,rfl⟩
 simp only[go_sem]
 intro _
 refine brK_dec (fun hlt=>?_) (fun hge=>?_)
 ·
  obtain⟨x,hx⟩:∃ x,l[i]?=some x:=⟨_,List.getElem?_eq_getElem (by omega)⟩
  obtain⟨u,hu⟩:∃ u,l[0]?=some u:=⟨_,List.getElem?_eq_getElem (by omega)⟩
  have hh:=headD_at (l:=l) (x:=u) (by simpa using hu)
  repeat' first
   | simp only[go_sem]
   | refine drawK mo (by kernel_rfl) ?_
   | refine elemHave (x:=x) (by omega) (by simpa using hx) ?_
   | refine elemHave (x:=u) (by omega) (by simpa using hu) ?_
  refine brK_dec (fun he=>?_) (fun he=>?_)
  ·
   simp only[go_sem]
   exact finBq rfl (by unfold sameT;rw[List.all_eq_false.2 ⟨x,List.mem_of_getElem? hx,by rw[hh];simpa using he⟩])
  ·
   simp only[go_sem]
   exact loopFrH _ (by omega) ⟨i+1,by omega,.inl (by omega),rfl,take_all hp hx (by rw[hh];exact Classical.not_not.1 he),rfl⟩ (.next rfl (by omega) .nil) rfl
 ·
  simp only[go_sem]
  exact finBq rfl (by unfold sameT;rw[List.all_eq_true.2 fun t ht=>decide_eq_true (take_full hp (by omega) t ht)])
def n0:List Ex→Int
 | []=>0
 | x::_=>x.n
theorem n0_at {l:List Ex} {x:Ex} (hx:l[((0:Int)).toNat]?=some x):n0 l=x.n:=by
 match l with
 | y::l=>simp at hx;rw[hx];rfl
def litT (L:List DEnum) (e:Ex):Int × DTy × Bool :=
 if e.kind=1 then(e.n,tyI,true) else if e.kind=2 then(e.n,tyB,true) else if e.kind=5 then(IntKind.i64.wrap (0-n0 e.subs),tyI,true)
 else((armF L e.name).2.1,(armF L e.name).1,(armF L e.name).2.2)
abbrev litA (q:Int × DTy × Bool):AV:=.tup [.i q.1,q.2.1.enc,.b q.2.2]
theorem pure_litA (q:Int × DTy × Bool):Go.Abs.Pure (litA q):=.tup _ (pure_cons (.raw _) (pure_cons (DTy.pure _) (pure_cons (.raw _) pure_nil)))
theorem finLit {T:TypeId→TI} {rs:List ResultVar} {s:List AV} {h:List Blk} {q:Int × DTy × Bool} {v a b c:Int} {ok:Bool} (hr:resAV T s h rs=some [.i v,.agg [.i a,.i b,.i c],.b ok]) (hp:q=(v,⟨a,b,c⟩,ok)):Go.Abs.Fin T rs (litA q) s h:=by
 subst hp
 exact⟨_,hr,false,by rw[show litA (v,⟨a,b,c⟩,ok)=.tup [.i v,.agg [.i a,.i b,.i c],.b ok] by show AV.tup [_,DTy.enc _,_]=_;rw[DTy.enc_eq]];exact .refl _⟩
theorem litP (L:List DEnum) (e:Ex) (h5:e.kind=5→0<e.subs.length):PCall Tryz.prog 172 [.lst 2 (L.map DEnum.enc) none,e.enc] (litA (litT L e)):=by
 refine pcall_of_vc tabOK Tryz.func172 (by kernel_rfl) rfl (by first|exact pureL|exact pureI) (pure_litA _) (n:=42) rfl (rs:=[.tmp 4,.cell 5 42,.tmp 6]) rfl ?_
 repeat' first
  | exact finB rfl
  | exact finI rfl
  | exact finP rfl
  | exact absurd rfl (by assumption)
  | simp only[go_sem]
  | (intro _)
  | refine brK_dec (fun _=>?_) (fun _=>?_)
  | refine brK_any ?_ ?_
  | refine gK_dec (fun _=>?_) (fun _=>?_)
  | refine gK_any ?_ ?_
  | refine gqK_dec (fun _=>?_) (fun _=>?_)
  | refine⟨by omega,?_⟩
  | refine elemHave (by omega) (by assumption) ?_
  | refine elemMap (by omega) (by omega) (fun x hx=>?_)
  | refine drawC [1] mo (by kernel_rfl) ?_
  | (exfalso;omega)
  | (refine PCall.call (arm146 L e.name) ?_;generalize hq:armF L e.name=q;obtain⟨t,v,ok⟩:=q)
  | (have hk5:e.kind=5:=(by omega);have hk6:=h5 hk5;refine elemMap (by omega) (by omega) (fun x hx=>?_))
  | (have hn:=n0_at hx;exact finLit rfl (by simp[litT, *]))
  | (exact finLit rfl (by simp[litT, *]))
theorem litX (L:List DEnum) (e:Ex) (h5:e.kind=5→0<e.subs.length):PCall Tryz.prog 179 [.lst 2 (L.map DEnum.enc) none,e.enc] (litA (litT L e)):=by
 refine pcall_of_vc tabOK Tryz.func179 (by kernel_rfl) rfl (by first|exact pureL|exact pureI) (pure_litA _) (n:=42) rfl (rs:=[.tmp 4,.cell 5 42,.tmp 6]) rfl ?_
 repeat' first
  | exact finB rfl
  | exact finI rfl
  | exact finP rfl
  | exact absurd rfl (by assumption)
  | simp only[go_sem]
  | (intro _)
  | refine brK_dec (fun _=>?_) (fun _=>?_)
  | refine brK_any ?_ ?_
  | refine gK_dec (fun _=>?_) (fun _=>?_)
  | refine gK_any ?_ ?_
  | refine gqK_dec (fun _=>?_) (fun _=>?_)
  | refine⟨by omega,?_⟩
  | refine elemHave (by omega) (by assumption) ?_
  | refine elemMap (by omega) (by omega) (fun x hx=>?_)
  | refine drawC [1] mo (by kernel_rfl) ?_
  | (exfalso;omega)
  | (refine PCall.call (arm91 L e.name) ?_;generalize hq:armF L e.name=q;obtain⟨t,v,ok⟩:=q)
  | (have hk5:e.kind=5:=(by omega);have hk6:=h5 hk5;refine elemMap (by omega) (by omega) (fun x hx=>?_))
  | (have hn:=n0_at hx;exact finLit rfl (by simp[litT, *]))
  | (exact finLit rfl (by simp[litT, *]))
end Go.Proofs.YtpamokpmlplopaaGreatDoor
