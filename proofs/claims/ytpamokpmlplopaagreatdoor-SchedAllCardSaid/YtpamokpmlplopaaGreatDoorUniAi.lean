/-
  IdX, IdX2, AbsU, AbsT, Once: put together.
-/
import Derived.Test.YtpamokpmlplopaaGreatDoorUniAd
import Derived.Test.YtpamokpmlplopaaGreatDoorUniAf
import Derived.Test.YtpamokpmlplopaaGreatDoorUniAg
import Derived.Test.YtpamokpmlplopaaGreatDoorUniAh
namespace Go.Proofs.YtpamokpmlplopaaGreatDoor
open Go.Abs
set_option maxRecDepth 20000
set_option linter.unusedSimpArgs false
set_option linter.unusedVariables false
set_option maxHeartbeats 1000000
attribute [local irreducible] vc vcOps vcStep vcGuard prK hrK gK gsK brK callK ElemK SeqK BlockK ScopeK OpsK CallK LoopK LoopGo finPost ACall PCall PCallE BCall vqOps vqStep vqGuard qrK heK pcK gqK gqsK QOpsK qcallK DrawK
theorem moX:Tryz.prog.follows .mixedOrders=true:=by kernel_rfl
theorem in_x (x a b:Int):PCall Tryz.prog 323 [.raw (.int .u8 x),.raw (.int .u8 a),.raw (.int .u8 b)] (.b (inB a b x)):=by
 refine pcall_of_vc tabOK Tryz.func323 (by kernel_rfl) rfl pureL pureI (n:=15) rfl (rs:=[.tmp 6]) rfl ?_
 repeat' first
  | exact finB rfl
  | exact finI rfl
  | exact finP rfl
  | exact absurd rfl (by assumption)
  | simp only[go_sem]
  | (intro _)
  | refine brK_dec (fun _=>?_) (fun _=>?_)
  | refine brK_any ?_ ?_
  | refine gK_dec (fun _=>?_) (fun _=>?_)
  | refine gK_any ?_ ?_
  | refine gqK_dec (fun _=>?_) (fun _=>?_)
  | refine⟨by omega,?_⟩
  | refine elemHave (by omega) (by assumption) ?_
  | refine elemMap (by omega) (by omega) (fun x hx=>?_)
  | refine drawK mo (by kernel_rfl) ?_
  | (refine finBq rfl ?_;unfold inB;simp;omega)
theorem bat {t:ByteArray} {i:Nat} {c:UInt8} (h:(bts t)[i]?=some c):(t.data.toList.getD ((i:Int)).toNat 0).toNat=c.toNat:=by
 rw[Int.toNat_natCast,List.getD_eq_getElem?_getD,show t.data.toList[i]?=some c from h]
 rfl
theorem bts_at {t:ByteArray} {i:Nat} (h:i<t.size):∃ c,(bts t)[i]?=some c:=⟨_,List.getElem?_eq_getElem (by rw[bts_len];exact h)⟩
theorem bts_cons {t:ByteArray} {c:UInt8} (h:(bts t)[0]?=some c):∃ l,bts t=c::l:=by
 cases hb:bts t with
 | nil=>rw[hb] at h;cases h
 | cons x l=>rw[hb] at h;cases h;exact⟨l,rfl⟩
theorem all_no {t:ByteArray} {i:Nat} {c:UInt8} {p:UInt8→Bool} (h:(bts t)[i]?=some c) (hp:p c=false):(bts t).all p=false:=by
 rw[List.all_eq_false]
 exact⟨c,List.mem_of_getElem? h,by simp[hp]⟩
theorem all_yes {t:ByteArray} {i:Nat} {p:UInt8→Bool} (h:∀ c∈(bts t).take i,p c=true) (hi:t.size≤i):(bts t).all p=true :=
 List.all_eq_true.2 fun c hc=>by
  rw[List.take_of_length_le (by rw[bts_len];exact hi)] at h
  exact h c hc
theorem name_x (t:ByteArray) (a b:Int):PCall Tryz.prog 308 [.s t,.raw (.int .u8 a),.raw (.int .u8 b)] (.b (nameG (inB a b) t)):=by
 refine pcall_of_vc tabOK Tryz.func308 (by kernel_rfl) rfl pureL pureI (n:=55) rfl (rs:=[.tmp 6]) rfl ?_
 by_cases h1:1≤t.size∧t.size≤12
 ·
  obtain⟨c0,hc0⟩:=bts_at (t:=t) (i:=0) (by omega)
  obtain⟨l0,hl0⟩:=bts_cons hc0
  have hn:nameG (inB a b) t=(inB a b c0.toNat&&(bts t).all fun c=>okB c.toNat):=by
   unfold nameG
   rw[decide_eq_true h1.1,decide_eq_true h1.2,Bool.true_and,Bool.true_and]
   rw[hl0];rfl
  rw[hn]
  have hb0:(t.data.toList.getD 0 0).toNat=c0.toNat:=by have:=bat hc0;simpa using this
  repeat' first
  | exact finB rfl
  | exact finI rfl
  | exact finP rfl
  | exact absurd rfl (by assumption)
  | simp only[go_sem]
  | (intro _)
  | refine brK_dec (fun _=>?_) (fun _=>?_)
  | refine brK_split (fun hb_=>?_) (fun hb_=>?_)
  | refine gK_dec (fun _=>?_) (fun _=>?_)
  | refine gK_split (fun hb_=>?_) (fun hb_=>?_)
  | refine gqK_dec (fun _=>?_) (fun _=>?_)
  | refine⟨by omega,?_⟩
  | refine elemHave (by omega) (by assumption) ?_
  | refine elemMap (by omega) (by omega) (fun x hx=>?_)
  | refine drawK mo (by kernel_rfl) ?_
  | (exfalso;omega)
  | (rw[hb0];refine PCall.call (in_x _ a b) ?_;generalize hq0:inB a b (c0.toNat:Nat)=q0;cases q0)
  | ((fail_if_success (clear hcc));have hlt_:i<t.size:=(by omega);have hcx:=bts_at hlt_;obtain⟨c,hcc⟩:=hcx;have hbi:=bat hcc)
  | (rw[hbi])
  | (refine PCall.call (in_x _ _ _) ?_)
  | (exact finP rfl)
  | (refine finBq rfl ?_;first|(rw[all_yes hpi (by omega)])|(rw[all_no (p:=fun c=>okB c.toNat) hcc (by simp_all [okB]<;>omega)]))
  | exact loopFrH _ (by omega) ⟨i+1,by omega,rfl,take_all hpi hcc (by simp_all [okB]<;>omega),rfl⟩ (.next rfl (by omega) .nil) rfl
  | (refine loop_frH [6,7,24,25,26,27,28,29,30,31,32,33,34,35,36,37,38,39,40,41,42,43,44,45,46,47,48,49,50,51,52,53,54] (fun mm_ CC_=>∃(i:Nat),i≤t.size∧mm_=t.size-i∧(∀ c∈(bts t).take i,okB c.toNat=true)∧CC_=[(7,.raw (.int .i64 ((i:Nat):Int)))]) (t.size) _ ⟨0,by omega,by omega,by simp,rfl⟩ (.cons rfl .nil) ?_;rintro mm_ CC_ ji ⟨i,hi,rfl,hpi,rfl⟩)
 ·
  have hn:nameG (inB a b) t=false:=by
   unfold nameG
   rcases Classical.em (1≤t.size) with q|q
   ·
    have:¬ t.size≤12:=fun q'=>h1 ⟨q,q'⟩
    simp[this]
   ·
    simp[q]
  rw[hn]
  repeat' first
  | exact finB rfl
  | exact finI rfl
  | exact finP rfl
  | exact absurd rfl (by assumption)
  | simp only[go_sem]
  | (intro _)
  | refine brK_dec (fun _=>?_) (fun _=>?_)
  | refine brK_any ?_ ?_
  | refine gK_dec (fun _=>?_) (fun _=>?_)
  | refine gK_any ?_ ?_
  | refine gqK_dec (fun _=>?_) (fun _=>?_)
  | refine⟨by omega,?_⟩
  | refine elemHave (by omega) (by assumption) ?_
  | refine elemMap (by omega) (by omega) (fun x hx=>?_)
  | refine drawK mo (by kernel_rfl) ?_
  | (exfalso;omega)
  | (exact finP rfl)
theorem words_x:PCall Tryz.prog 324 [] (.lst 1 (words.map AV.s) none):=by
 refine pcall_of_vc tabOK Tryz.func324 (by kernel_rfl) rfl pure_nil (pure_strs _) (n:=2) rfl (rs:=[.tmp 0]) rfl ?_
 simp only[go_sem]
 exact⟨_,rfl,false,.tok _ _ _⟩
theorem word_no {t:ByteArray} {i:Nat} (h:∀ w∈words.take i,¬ w=t) (hi:words.length≤i):wordF t=false:=by
 unfold wordF
 rw[List.any_eq_false]
 intro w hw
 rw[List.take_of_length_le hi] at h
 simpa using fun e=>h w hw e.symm
theorem word_yes {t w:ByteArray} (h:w∈words) (e:w=t):wordF t=true:=by
 unfold wordF
 rw[List.any_eq_true]
 exact⟨w,h,by simp[e]⟩
theorem word_x (t:ByteArray):PCall Tryz.prog 309 [.s t] (.b (wordF t)):=by
 refine pcall_of_vc tabOK Tryz.func309 (by kernel_rfl) rfl pureL pureI (n:=18) rfl (rs:=[.tmp 2]) rfl ?_
 repeat' first
  | exact finB rfl
  | exact finI rfl
  | exact finP rfl
  | exact absurd rfl (by assumption)
  | simp only[go_sem]
  | (intro _)
  | refine brK_dec (fun _=>?_) (fun _=>?_)
  | refine brK_any ?_ ?_
  | refine gK_dec (fun _=>?_) (fun _=>?_)
  | refine gK_any ?_ ?_
  | refine gqK_dec (fun _=>?_) (fun _=>?_)
  | refine⟨by omega,?_⟩
  | refine elemHave (by omega) (by assumption) ?_
  | refine elemMap (by omega) (by omega) (fun x hx=>?_)
  | refine drawK mo (by kernel_rfl) ?_
  | (refine PCall.call words_x ?_)
  | (refine finBq rfl ?_;first|(rw[word_no hpi (by omega)])|(rw[word_yes (List.mem_of_getElem? hx) (by assumption)]))
  | exact loopFrH _ (by omega) ⟨i+1,by omega,rfl,take_all hpi (by simpa using hx) (by assumption),rfl⟩ (.next rfl (by omega) .nil) rfl
  | (refine loop_frH [2,4,6,7,8,9,10,11,12,13,14,15,16,17] (fun mm_ CC_=>∃(i:Nat),i≤words.length∧mm_=words.length-i∧(∀ w∈words.take i,¬ w=t)∧CC_=[(4,.raw (.int .i64 ((i:Nat):Int)))]) (words.length) _ ⟨0,by omega,by omega,by simp,rfl⟩ (.cons rfl .nil) ?_;rintro mm_ CC_ ji ⟨i,hi,rfl,hpi,rfl⟩)
theorem low_x (t:ByteArray):PCall Tryz.prog 278 [.s t] (.b (lowF t)):=by
 refine pcall_of_vc tabOK Tryz.func278 (by kernel_rfl) rfl pureL pureI (n:=10) rfl (rs:=[.tmp 2]) rfl ?_
 unfold lowF
 repeat' first
  | exact finB rfl
  | exact finI rfl
  | exact finP rfl
  | exact absurd rfl (by assumption)
  | simp only[go_sem]
  | (intro _)
  | refine brK_dec (fun _=>?_) (fun _=>?_)
  | refine brK_any ?_ ?_
  | refine gK_dec (fun _=>?_) (fun _=>?_)
  | refine gK_any ?_ ?_
  | refine gqK_dec (fun _=>?_) (fun _=>?_)
  | refine⟨by omega,?_⟩
  | refine elemHave (by omega) (by assumption) ?_
  | refine elemMap (by omega) (by omega) (fun x hx=>?_)
  | refine drawK mo (by kernel_rfl) ?_
  | (refine PCall.call (name_x _ _ _) ?_;generalize nameG (inB 97 122) t=q;cases q)
  | (refine PCall.call (word_x _) ?_)
  | (exact finBq rfl (by simp))
theorem high_x (t:ByteArray):PCall Tryz.prog 279 [.s t] (.b (highF t)):=by
 refine pcall_of_vc tabOK Tryz.func279 (by kernel_rfl) rfl pureL pureI (n:=5) rfl (rs:=[.tmp 2]) rfl ?_
 unfold highF
 repeat' first
  | exact finB rfl
  | exact finI rfl
  | exact finP rfl
  | exact absurd rfl (by assumption)
  | simp only[go_sem]
  | (intro _)
  | refine brK_dec (fun _=>?_) (fun _=>?_)
  | refine brK_any ?_ ?_
  | refine gK_dec (fun _=>?_) (fun _=>?_)
  | refine gK_any ?_ ?_
  | refine gqK_dec (fun _=>?_) (fun _=>?_)
  | refine⟨by omega,?_⟩
  | refine elemHave (by omega) (by assumption) ?_
  | refine elemMap (by omega) (by omega) (fun x hx=>?_)
  | refine drawK mo (by kernel_rfl) ?_
  | (refine PCall.call (name_x _ _ _) ?_)
  | (exact finBq rfl (by simp))
end Go.Proofs.YtpamokpmlplopaaGreatDoor
namespace Go.Proofs.YtpamokpmlplopaaGreatDoor
open Go.Abs
set_option maxRecDepth 20000
set_option linter.unusedSimpArgs false
set_option linter.unusedVariables false
set_option maxHeartbeats 1000000
attribute [local irreducible] vc vcOps vcStep vcGuard prK hrK gK gsK brK callK ElemK SeqK BlockK ScopeK OpsK CallK LoopK LoopGo finPost ACall PCall PCallE BCall vqOps vqStep vqGuard qrK heK pcK gqK gqsK QOpsK qcallK DrawK
theorem cut_x (t:ByteArray) (c:UInt8) (ht:t.size≤1000000):PCall Tryz.prog 322 [.s t,.raw (.int .u8 c.toNat)] (.lst 1 ((pieces c t).map AV.s) none):=by
 refine pcall_of_vc tabOK Tryz.func322 (by kernel_rfl) rfl (pure_cons (.raw _) (pure_cons (.raw _) pure_nil)) (pure_strs _) (n:=36) rfl (rs:=[.tmp 4]) rfl ?_
 simp only[go_sem]
 refine loop_rule (fun n s h=>∃(i fr:Nat) (D:List ByteArray) (rest:List Blk),i≤t.size+1∧fr≤i∧D.length≤i∧n=t.size+1-i∧(i≤t.size→D++pieces c (t.extract fr t.size)=pieces c t∧c ∉ ((bts t).take i).drop fr)∧(i=t.size+1→D=pieces c t) ∧
  Vis 36 [(7,.i i),(0,.s t),(1,.raw (.int .u8 c.toNat)),(5,.lst 1 (D.map AV.s) (some 0)),(6,.i fr)] s∧h=.tok 9 1 D.length::rest) (t.size+1) ?_ ?_
 ·
  refine⟨0,0,[],[],by omega,by omega,by simp,by omega,fun _=>⟨?_,by simp⟩,by omega,.cons rfl (.cons rfl (.cons rfl (.cons rfl (.cons rfl (.nil rfl))))),rfl⟩
  have:t.extract 0 t.size=t:=bts_inj (by rw[bts_from];rfl)
  rw[List.nil_append,this]
 rintro n s h ⟨i,fr,D,rest,hi,hfr,hl,rfl,hinv,hend,hv,rfl⟩
 obtain⟨j,rfl⟩:=hv.out
 repeat' first
  | exact finB rfl
  | exact finI rfl
  | exact finP rfl
  | exact absurd rfl (by assumption)
  | simp only[go_sem]
  | (intro _)
  | refine brK_dec (fun _=>?_) (fun _=>?_)
  | refine brK_any ?_ ?_
  | refine gK_dec (fun _=>?_) (fun _=>?_)
  | refine gK_any ?_ ?_
  | refine gqK_dec (fun _=>?_) (fun _=>?_)
  | refine⟨by omega,?_⟩
  | refine elemHave (by omega) (by assumption) ?_
  | refine elemMap (by omega) (by omega) (fun x hx=>?_)
  | refine drawK mo (by kernel_rfl) ?_
  | (exfalso;omega)
  | ((fail_if_success (clear hcc));have hlt_:i<t.size:=(by omega);have hcx:=bts_at hlt_;obtain⟨x,hcc⟩:=hcx;have hbi:=bat hcc)
  | (rw[hbi])
 ·
  have hie:i=t.size:=by omega
  obtain⟨h1,h2⟩:=hinv (by omega)
  rw[hie] at h2
  have hp:=pieces_last h2
  rw[hp] at h1
  exact loopGo (t.size+1-(i+1)) (by omega) ⟨i+1,i+1,D++[t.extract (fr:Int).toNat (i:Int).toNat],rest++[.tok 9 1 1],by omega,by omega,by simp;omega,rfl,fun h=>by omega,fun _=>by rw[← h1,hie,Int.toNat_natCast,Int.toNat_natCast],
   .next rfl (by omega) (.cons rfl (.cons rfl (.cons (by rw[List.map_append];rfl) (.next rfl (by omega) (.nil rfl))))),by simp⟩
 ·
  have hxc:x=c:=UInt8.toNat_inj.1 (by omega)
  subst hxc
  obtain⟨h1,h2⟩:=hinv (by omega)
  have hp:=pieces_step hfr hcc h2
  rw[hp] at h1
  exact loopGo (t.size+1-(i+1)) (by omega) ⟨i+1,i+1,D++[t.extract (fr:Int).toNat (i:Int).toNat],rest++[.tok 9 1 1],by omega,by omega,by simp;omega,rfl,fun _=>⟨by rw[Int.toNat_natCast,Int.toNat_natCast,List.append_assoc];exact h1,by simp⟩,fun h=>by omega,
   .next rfl (by omega) (.cons rfl (.cons rfl (.cons (by rw[List.map_append];rfl) (.next rfl (by omega) (.nil rfl))))),by simp⟩
 ·
  have hxc:¬ x=c:=fun e=>by subst e;omega
  obtain⟨h1,h2⟩:=hinv (by omega)
  exact loopGo (t.size+1-(i+1)) (by omega) ⟨i+1,fr,D,rest,by omega,by omega,by omega,rfl,fun _=>⟨h1,no_next hfr hcc hxc h2⟩,fun h=>by omega,
   .next rfl (by omega) (.cons rfl (.cons rfl (.cons rfl (.cons rfl (.nil rfl))))),rfl⟩
 ·
  rw[← hend (by omega)]
  exact⟨_,rfl,false,.tok _ _ _⟩
theorem numG_bad {t:ByteArray} (h:¬ (1≤t.size∧t.size≤3)):numG t=false:=by
 unfold numG
 rcases Classical.em (1≤t.size) with q|q
 ·
  have:¬ t.size≤3:=fun q'=>h ⟨q,q'⟩
  simp[this]
 ·
  simp[q]
theorem partF_one {t p:ByteArray} {l:List ByteArray} (hp:pieces 46 t=l) (hl:l.length=1) (h0:l[0]?=some p):partF t=lowF p:=by
 match l,hl with
 | [x],_=>simp at h0;subst h0;unfold partF;rw[hp]
theorem partF_two {t p q:ByteArray} {l:List ByteArray} (hp:pieces 46 t=l) (hl:l.length=2) (h0:l[0]?=some p) (h1:l[1]?=some q):partF t=(lowF p&&numG q):=by
 match l,hl with
 | [x,y],_=>simp at h0 h1;subst h0;subst h1;unfold partF;rw[hp]
theorem partF_more {t:ByteArray} {l:List ByteArray} (hp:pieces 46 t=l) (hl:2<l.length):partF t=false:=by
 match l,hl with
 | x::y::z::l,_=>unfold partF;rw[hp]
theorem partF_low0 {t p:ByteArray} {l:List ByteArray} (hp:pieces 46 t=l) (h0:l[0]?=some p) (h:lowF p=false):partF t=false:=by
 unfold partF
 rw[hp]
 match l with
 | []=>rfl
 | [x]=>simp at h0;subst h0;exact h
 | [x,y]=>simp at h0;subst h0;simp[h]
 | x::y::z::l=>rfl
theorem cut_x' (t:ByteArray) (c:UInt8) (k:Int) (hk:(c.toNat:Int)=k) (ht:t.size≤1000000):PCall Tryz.prog 322 [.s t,.raw (.int .u8 k)] (.lst 1 ((pieces c t).map AV.s) none):=hk▸cut_x t c ht
theorem numG_of {t:ByteArray} {b:Bool} {c:UInt8} (h1:1≤t.size) (h2:t.size≤3) (h0:(bts t)[0]?=some c) (h48:¬ c.toNat=48) (hb:((bts t).all fun c=>inB 48 57 c.toNat)=b):numG t=b:=by
 unfold numG
 obtain⟨l,hl⟩:=bts_cons h0
 rw[decide_eq_true h1,decide_eq_true h2,hb,hl]
 simp[firstNo0,h48]
theorem numG_48 {t:ByteArray} {c:UInt8} (h0:(bts t)[0]?=some c) (h48:c.toNat=48):numG t=false:=by
 unfold numG
 obtain⟨l,hl⟩:=bts_cons h0
 rw[hl]
 simp[firstNo0,h48]
theorem path_x (t:ByteArray) (ht:t.size≤1000000):PCall Tryz.prog 306 [.s t] (.b (pathF t)):=by
 refine pcall_of_vc tabOK Tryz.func306 (by kernel_rfl) rfl pureL pureI (n:=61) rfl (rs:=[.tmp 2]) rfl ?_
 unfold pathF
 simp only[go_sem]
 refine PCall.call (cut_x' t 47 47 rfl ht) ?_
 simp only[go_sem]
 refine loop_frH [2,4,5,6,7,10,11,12,13,14,15,16,17,18,19,20,21,22,23,24,25,26,27,28,29,30,31,32,33,34,35,36,37,38,39,40,41,42,43,44,45,46,47,48,49,50,51,52,53,54,55,56,57,58,59,60] (fun m C=>∃ i:Nat,i≤(pieces 47 t).length∧m=(pieces 47 t).length-i∧(∀ x∈(pieces 47 t).take i,partF x=true)∧C=[(4,.raw (.int .i64 (i:Nat)))]) (pieces 47 t).length _ ⟨0,by omega,by omega,by simp,rfl⟩ (.cons rfl .nil) ?_
 rintro m C j ⟨i,hi,rfl,hpi,rfl⟩
 simp only[go_sem]
 intro _
 refine brK_dec (fun hlt=>?_) (fun hge=>?_)
 ·
  simp only[go_sem]
  refine elemMap (by omega) (by omega) (fun x hx=>?_)
  have hx':(pieces 47 t)[i]?=some x:=by simpa using hx
  have hle:=pieces_le (List.mem_of_getElem? hx')
  have next:partF x=true→∀ y∈(pieces 47 t).take (i+1),partF y=true:=fun h=>take_all hpi hx' h
  have stop:partF x=false→false=(pieces 47 t).all partF:=fun h=>(List.all_eq_false.2 ⟨x,List.mem_of_getElem? hx',by simp[h]⟩).symm
  simp only[go_sem]
  refine PCall.call (cut_x' x 46 46 rfl (by omega)) ?_
  have hne:=pieces_ne 46 x
  generalize hp:pieces 46 x=l at hne ⊢
  have hl0:0<l.length:=List.length_pos_iff.2 hne
  obtain⟨p0,hp0⟩:∃ p0,l[0]?=some p0:=⟨_,List.getElem?_eq_getElem hl0⟩
  by_cases h2:l.length=2
  ·
   obtain⟨q,hq⟩:∃ q,l[1]?=some q:=⟨_,List.getElem?_eq_getElem (by omega)⟩
   have hpt:=partF_two hp h2 hp0 hq
   by_cases hsz:¬ (1≤q.size∧q.size≤3)
   ·
    have hbad:=numG_bad hsz
    repeat' first
     | (exfalso;omega)
     | simp only[go_sem]
     | (intro _)
     | refine brK_dec (fun _=>?_) (fun _=>?_)
     | refine gK_dec (fun _=>?_) (fun _=>?_)
     | refine elemHave (by omega) hp0 ?_
     | refine elemHave (by omega) hq ?_
     | (refine PCall.call (low_x p0) ?_;generalize hlo:lowF p0=lo;cases lo)
     | exact finBq rfl (stop (by rw[hpt,hbad];simp))
   ·
    have hsz:=Classical.not_not.1 hsz
    obtain⟨c0,hc0⟩:=bts_at (t:=q) (i:=0) (by omega)
    have hb0:(q.data.toList.getD 0 0).toNat=c0.toNat:=by have:=bat hc0;simpa using this
    (repeat' first
  | exact finB rfl
  | exact finI rfl
  | exact finP rfl
  | exact absurd rfl (by assumption)
  | simp only[go_sem]
  | (intro _)
  | refine brK_dec (fun _=>?_) (fun _=>?_)
  | refine brK_split (fun hb_=>?_) (fun hb_=>?_)
  | refine gK_dec (fun _=>?_) (fun _=>?_)
  | refine gK_split (fun hb_=>?_) (fun hb_=>?_)
  | refine gqK_dec (fun _=>?_) (fun _=>?_)
  | refine⟨by omega,?_⟩
  | refine elemHave (by omega) (by assumption) ?_
  | refine elemMap (by omega) (by omega) (fun x hx=>?_)
  | refine drawK mo (by kernel_rfl) ?_
  | (exfalso;omega)
  | (refine elemHave (by omega) hp0 ?_)
  | (refine elemHave (by omega) hq ?_)
  | (rw[hb0])
  | (refine PCall.call (low_x p0) ?_;generalize hlo:lowF p0=lo;cases lo)
  | ((fail_if_success (clear hcc));have hlt_:k<q.size:=(by omega);have hcx:=bts_at hlt_;obtain⟨c,hcc⟩:=hcx;have hbi:=bat hcc)
  | (rw[hbi])
  | (refine PCall.call (in_x _ _ _) ?_;generalize hin:inB 48 57 (c.toNat:Nat)=bb;cases bb)
  | (exact finBq rfl (stop (partF_low0 hp hp0 hlo)))
  | (have h48:c0.toNat=48:=(by omega);exact finBq rfl (stop (by rw[hpt,numG_48 hc0 h48];simp)))
  | (have hall:=all_no (p:=fun c=>inB 48 57 c.toNat) hcc hin;have h48:¬ c0.toNat=48:=(by omega);exact finBq rfl (stop (by rw[hpt,numG_of hsz.1 hsz.2 hc0 h48 hall];simp)))
  | exact loopFrH _ (by omega) ⟨k+1,by omega,rfl,take_all hpk hcc hin,rfl⟩ (.next rfl (by omega) .nil) rfl
  | (refine loop_frH [2,7,50,51,52,53,54,55,56,57,58,59,60] (fun mm_ CC_=>∃(k:Nat),k≤q.size∧mm_=q.size-k∧(∀ c∈(bts q).take k,inB 48 57 c.toNat=true)∧CC_=[(7,.raw (.int .i64 ((k:Nat):Int)))]) (q.size) _ ⟨0,by omega,by omega,by simp,rfl⟩ (.cons rfl .nil) ?_;rintro mm_ CC_ jk ⟨k,hk,rfl,hpk,rfl⟩)
  | (have hall:=all_yes (p:=fun c=>inB 48 57 c.toNat) hpk (by omega);have h48:¬ c0.toNat=48:=(by omega);exact loopFrH _ (by omega) ⟨i+1,by omega,rfl,next (by rw[hpt,hlo,numG_of hsz.1 hsz.2 hc0 h48 hall,Bool.and_self]),rfl⟩ (.next rfl (by omega) .nil) rfl))
  ·
   have h1:l.length=1∨2<l.length:=by omega
   repeat' first
    | (exfalso;omega)
    | simp only[go_sem]
    | (intro _)
    | refine brK_dec (fun _=>?_) (fun _=>?_)
    | refine gK_dec (fun _=>?_) (fun _=>?_)
    | refine elemHave (by omega) hp0 ?_
    | (refine PCall.call (low_x p0) ?_;generalize hlo:lowF p0=lo;cases lo)
    | (have h3:2<l.length:=(by omega);exact finBq rfl (stop (partF_more hp h3)))
    | exact finBq rfl (stop (partF_low0 hp hp0 hlo))
    | (have h3:l.length=1:=(by omega);exact loopFrH _ (by omega) ⟨i+1,by omega,rfl,next (by rw[partF_one hp h3 hp0,hlo]),rfl⟩ (.next rfl (by omega) .nil) rfl)
 ·
  simp only[go_sem]
  refine finBq rfl (List.all_eq_true.2 (take_full hpi (by omega))).symm
end Go.Proofs.YtpamokpmlplopaaGreatDoor
namespace Go.Abs
open Go
def cntL (s:ByteArray):List ByteArray→Nat
 | []=>0
 | x::l=>(if x=s then 1 else 0)+cntL s l
def opn (s:ByteArray):List (List ByteArray)→List Bool→Nat
 | ns::N,p::pl=>(if p=true then 0 else cntL s ns)+opn s N pl
 | _,_=>0
def waitsF (N:List (List ByteArray)) (pl:List Bool) (s:ByteArray):Bool:=decide (0<opn s N pl)
def readyF (N H:List (List ByteArray)) (pl:List Bool) (i:Nat):Bool:=!(pl.getD i true)&&(H.getD i []).all fun s=>!waitsF N pl s
def pickF (N H:List (List ByteArray)) (pl:List Bool):Nat→Nat→Option Nat
 | _,0=>none
 | i,n+1=>if readyF N H pl i=true then some i else pickF N H pl (i+1) n
def orderG (N H:List (List ByteArray)):Nat→List Bool→List Nat→List Nat × Bool
 | 0,_,out=>(out,true)
 | k+1,pl,out=>match pickF N H pl 0 N.length with
  | none=>(out,false)
  | some i=>orderG N H k (pl.set i true) (out++[i])
def orderF (N H:List (List ByteArray)):List Nat × Bool:=orderG N H N.length (List.replicate N.length false) []
theorem cntL_append (s:ByteArray) (l m:List ByteArray):cntL s (l++m)=cntL s l+cntL s m:=by
 induction l with
 | nil=>simp[cntL]
 | cons x l ih=>simp only[List.cons_append,cntL,ih];omega
theorem cntL_take {s:ByteArray} {l:List ByteArray} {k:Nat} (h:k<l.length):cntL s (l.take (k+1))=cntL s (l.take k)+(if l[k]=s then 1 else 0):=by
 rw[List.take_succ_eq_append_getElem h,cntL_append]
 simp[cntL]
theorem cntL_le (s:ByteArray) (l:List ByteArray):cntL s l≤l.length:=by
 induction l with
 | nil=>simp[cntL]
 | cons x l ih=>simp only[cntL,List.length_cons];split<;>omega
theorem cntL_take_le (s:ByteArray) (l:List ByteArray) (k:Nat):cntL s (l.take k)≤cntL s l:=by
 have:=cntL_append s (l.take k) (l.drop k)
 rw[List.take_append_drop] at this
 omega
theorem cntL_mem {s:ByteArray} {l:List ByteArray} (h:s∈l):0<cntL s l:=by
 induction l with
 | nil=>simp at h
 | cons x l ih =>
  simp only[cntL]
  rcases List.mem_cons.1 h with rfl|h
  ·
   simp;omega
  ·
   have:=ih h;omega
theorem cntL_zero {s:ByteArray} {l:List ByteArray} (h:s ∉ l):cntL s l=0:=by
 induction l with
 | nil=>simp[cntL]
 | cons x l ih =>
  simp only[cntL]
  rw[if_neg (fun e=>h (by rw[e];exact List.mem_cons_self)),ih (fun m=>h (List.mem_cons_of_mem _ m))]
theorem opn_set {s:ByteArray}:∀ {N:List (List ByteArray)} {pl:List Bool} {i:Nat} {ns:List ByteArray},N[i]?=some ns→pl[i]?=some false→opn s N pl=cntL s ns+opn s N (pl.set i true)
 | [],_,_,_,h,_=>by simp at h
 | _::_,[],_,_,_,h=>by simp at h
 | n::N,p::pl,0,ns,h,k=>by
  simp at h k
  subst h k
  simp[opn]
 | n::N,p::pl,i+1,ns,h,k=>by
  have:=opn_set (s:=s) (N:=N) (pl:=pl) (i:=i) (by simpa using h) (by simpa using k)
  simp only[List.set_cons_succ,opn,this]
  omega
theorem opn_pos {s:ByteArray} {N:List (List ByteArray)} {pl:List Bool} {i:Nat} {ns:List ByteArray} (h:N[i]?=some ns) (hp:pl[i]?=some false) (hs:s∈ns):0<opn s N pl:=by
 rw[opn_set h hp]
 have:=cntL_mem hs
 omega
theorem opn_zero {s:ByteArray}:∀ {N:List (List ByteArray)} {pl:List Bool},(∀(i:Nat) ns,N[i]?=some ns→pl[i]?=some false→s ∉ ns)→opn s N pl=0
 | [],_,_=>by simp[opn]
 | _::_,[],_=>by simp[opn]
 | n::N,p::pl,h=>by
  have:=opn_zero (s:=s) (N:=N) (pl:=pl) (fun i ns a b=>h (i+1) ns (by simpa using a) (by simpa using b))
  simp only[opn,this]
  cases p with
  | true=>simp
  | false=>simp[cntL_zero (h 0 n rfl rfl)]
theorem opn_all {s:ByteArray}:∀ {N:List (List ByteArray)},opn s N (List.replicate N.length false)=cntL s N.flatten
 | []=>by simp[opn,cntL]
 | n::N=>by
  simp only[List.length_cons,List.replicate_succ,opn,List.flatten_cons,cntL_append,opn_all (N:=N)]
  simp
theorem opn_le {s:ByteArray}:∀ {N:List (List ByteArray)} {pl:List Bool},opn s N pl≤N.flatten.length
 | [],_=>by simp[opn]
 | _::_,[]=>by simp[opn]
 | n::N,p::pl=>by
  have:=opn_le (s:=s) (N:=N) (pl:=pl)
  have:=cntL_le s n
  simp only[opn,List.flatten_cons,List.length_append]
  split<;>omega
theorem pick_none {N H:List (List ByteArray)} {pl:List Bool}:∀ {n i:Nat},(∀ j,i≤j→j<i+n→readyF N H pl j=false)→pickF N H pl i n=none
 | 0,_,_=>rfl
 | n+1,i,h=>by
  rw[pickF,h i (Nat.le_refl _) (by omega),if_neg (by simp)]
  exact pick_none fun j a b=>h j (by omega) (by omega)
theorem pick_some {N H:List (List ByteArray)} {pl:List Bool}:∀ {n i k:Nat},i≤k→k<i+n→(∀ j,i≤j→j<k→readyF N H pl j=false)→readyF N H pl k=true→pickF N H pl i n=some k
 | 0,i,k,h1,h2,_,_=>by omega
 | n+1,i,k,h1,h2,h3,h4=>by
  rw[pickF]
  by_cases e:i=k
  ·
   subst e;rw[if_pos h4]
  ·
   rw[h3 i (Nat.le_refl _) (by omega),if_neg (by simp)]
   exact pick_some (by omega) (by omega) (fun j a b=>h3 j (by omega) b) h4
theorem pick_lt {N H:List (List ByteArray)} {pl:List Bool}:∀ {n i k:Nat},pickF N H pl i n=some k→k<i+n∧readyF N H pl k=true
 | 0,_,_,h=>by simp[pickF] at h
 | n+1,i,k,h=>by
  rw[pickF] at h
  split at h
  ·
   cases h;exact⟨by omega,by assumption⟩
  ·
   have:=pick_lt h;exact⟨by omega,this.2⟩
theorem ready_not {N H:List (List ByteArray)} {pl:List Bool} {i:Nat} (h:pl[i]?=some true):readyF N H pl i=false:=by
 simp[readyF,List.getD_eq_getElem?_getD,h]
theorem ready_wait {N H:List (List ByteArray)} {pl:List Bool} {i:Nat} {hs:List ByteArray} {s:ByteArray} (h:H[i]?=some hs) (hm:s∈hs) (hw:waitsF N pl s=true):readyF N H pl i=false:=by
 simp only[readyF,List.getD_eq_getElem?_getD,h,Option.getD_some,Bool.and_eq_false_imp]
 intro _
 rw[Bool.eq_false_iff]
 intro hall
 have:=List.all_eq_true.1 hall s hm
 simp[hw] at this
theorem ready_yes {N H:List (List ByteArray)} {pl:List Bool} {i:Nat} {hs:List ByteArray} (hp:pl[i]?=some false) (h:H[i]?=some hs) (hw:∀ s∈hs,waitsF N pl s=false):readyF N H pl i=true:=by
 simp only[readyF,List.getD_eq_getElem?_getD,h,hp,Option.getD_some,Bool.not_false,Bool.true_and]
 exact List.all_eq_true.2 fun s hs=>by simp[hw s hs]
theorem ready_pl {N H:List (List ByteArray)} {pl:List Bool} {i:Nat} (h:readyF N H pl i=true):pl[i]?=some false:=by
 simp only[readyF,Bool.and_eq_true,List.getD_eq_getElem?_getD] at h
 cases hq:pl[i]? with
 | none=>rw[hq] at h;simp at h
 | some b=>rw[hq] at h;cases b<;>simp_all
def MapN (f:Value→Option AV) (g:ByteArray→Nat):Prop:=∀ s,orZ (f (.string s)) (.raw (.int .i64 0))=.raw (.int .i64 (g s))
theorem MapN.nil:MapN (fun _=>none) (fun _=>0):=fun _=>rfl
theorem MapN.cast {f:Value→Option AV} {g g':ByteArray→Nat} (h:MapN f g) (e:∀ s,g s=g' s):MapN f g':=fun s=>by rw[h s,e]
theorem mput_same (f:Value→Option AV) (k:ByteArray) (v:AV):mput f (.string k) v (.string k)=some v:=by simp[mput,keyEq]
theorem mput_other (f:Value→Option AV) {k s:ByteArray} (v:AV) (h:¬ s=k):mput f (.string k) v (.string s)=f (.string s):=by
 unfold mput
 have:keyEq (.string s) (.string k)=false:=by
  rw[Bool.eq_false_iff];intro e;exact h (by have:=(keyEq_iff (kk:=.str) (a:=.string s) (b:=.string k) rfl rfl).1 e;cases this;rfl)
 rw[this]
theorem MapN.put {f:Value→Option AV} {g:ByteArray→Nat} (h:MapN f g) (k:ByteArray) (n:Nat) (g':ByteArray→Nat) (h1:g' k=n) (h2:∀ s,¬ s=k→g' s=g s):MapN (mput f (.string k) (.raw (.int .i64 (n:Int)))) g':=by
 intro s
 by_cases e:s=k
 ·
  subst e;rw[mput_same,h1];rfl
 ·
  rw[mput_other _ _ e,h s,h2 s e]
theorem dropB {pl:List Bool} {i:Nat} {b:Bool} (h:pl[i]?=some b):(pl.map AV.b).drop i=AV.b b::(pl.map AV.b).drop (i+1):=by
 obtain⟨hi,rfl⟩:=List.getElem?_eq_some_iff.1 h
 rw[List.drop_eq_getElem_cons (by simpa using hi)]
 simp
theorem at_old {h r:List Blk} {k:Nat} {x:Blk} (hk:h[k]?=some x):(h++r)[k]?=some x:=by
 rw[List.getElem?_append_left (by obtain⟨a,_⟩:=List.getElem?_eq_some_iff.1 hk;exact a)]
 exact hk
end Go.Abs
namespace Go.Abs
open Go
theorem blk_at {h:List Blk} {k:Nat} {cs:List AV} (hb:blkCells h k=some cs):∃ t,h[k]?=some (.cells t cs):=by
 unfold blkCells at hb
 split at hb
 ·
  cases hb;exact⟨_,by assumption⟩
 ·
  cases hb
def NoW (N:List (List ByteArray)) (pl:List Bool) (s:ByteArray) (i:Nat):Prop:=∀(j:Nat) ns,j<i→N[j]?=some ns→pl[j]?=some false→s ∉ ns
theorem NoW.zero {N:List (List ByteArray)} {pl:List Bool} {s:ByteArray}:NoW N pl s 0:=fun j _ h=>by omega
theorem NoW.step {N:List (List ByteArray)} {pl:List Bool} {s:ByteArray} {i:Nat} {ns:List ByteArray} (h:NoW N pl s i) (hN:N[i]?=some ns) (hp:pl[i]?=some false→s ∉ ns):NoW N pl s (i+1):=by
 intro j ms hj hm hq
 by_cases e:j=i
 ·
  subst e
  rw[hN] at hm
  cases hm
  exact hp hq
 ·
  exact h j ms (by omega) hm hq
theorem NoW.done {N:List (List ByteArray)} {pl:List Bool} {s:ByteArray} {i:Nat} (h:NoW N pl s i) (hi:N.length≤i):waitsF N pl s=false:=by
 simp only[waitsF,decide_eq_false_iff_not]
 rw[opn_zero fun j ns hn hp=>h j ns (by obtain⟨a,_⟩:=List.getElem?_eq_some_iff.1 hn;omega) hn hp]
 omega
theorem waits_yes {N:List (List ByteArray)} {pl:List Bool} {s:ByteArray} {i:Nat} {ns:List ByteArray} (hN:N[i]?=some ns) (hp:pl[i]?=some false) (hs:s∈ns):waitsF N pl s=true:=by
 simp only[waitsF,decide_eq_true_eq]
 exact opn_pos hN hp hs
theorem not_take {s:ByteArray} {ns:List ByteArray} {j:Nat} {p:Prop} (h:p→s ∉ ns.take j) (hj:ns.length≤j):p→s ∉ ns:=by rw[List.take_of_length_le hj] at h;exact h
theorem not_step {s x:ByteArray} {ns:List ByteArray} {j:Nat} {p:Prop} (h:p→s ∉ ns.take j) (hx:ns[j]?=some x) (hn:p→¬ x=s):p→s ∉ ns.take (j+1):=by
 intro hp hm
 obtain⟨hj,rfl⟩:=List.getElem?_eq_some_iff.1 hx
 rw[List.take_succ_eq_append_getElem hj] at hm
 rcases List.mem_append.1 hm with q|q
 ·
  exact h hp q
 ·
  simp at q
  exact hn hp q.symm
theorem map_some {α β:Type} {f:α→β} {l:List α} {i:Nat} {x:α} (h:l[i]?=some x):(l.map f)[i]?=some (f x):=by rw[List.getElem?_map,h];rfl
end Go.Abs
namespace Go.Abs
open Go
theorem take_mapS {α β:Type} {f:α→β} {l:List α} {i:Nat} {x:α} (hx:l[((i:Nat):Int).toNat]?=some x):(l.take (i+1)).map f=(l.take i).map f++[f x]:=by
 rw[Int.toNat_natCast] at hx
 obtain⟨hi,rfl⟩:=List.getElem?_eq_some_iff.1 hx
 rw[List.take_succ_eq_append_getElem hi,List.map_append]
 rfl
theorem take_filtT {α:Type} {p:α→Bool} {l:List α} {i:Nat} {x:α} (hx:l[((i:Nat):Int).toNat]?=some x) (hp:p x=true):(l.take (i+1)).filter p=(l.take i).filter p++[x]:=by
 rw[Int.toNat_natCast] at hx
 obtain⟨hi,rfl⟩:=List.getElem?_eq_some_iff.1 hx
 rw[List.take_succ_eq_append_getElem hi,List.filter_append]
 simp[hp]
theorem take_filtF {α:Type} {p:α→Bool} {l:List α} {i:Nat} {x:α} (hx:l[((i:Nat):Int).toNat]?=some x) (hp:p x=false):(l.take (i+1)).filter p=(l.take i).filter p:=by
 rw[Int.toNat_natCast] at hx
 obtain⟨hi,rfl⟩:=List.getElem?_eq_some_iff.1 hx
 rw[List.take_succ_eq_append_getElem hi,List.filter_append]
 simp[hp]
theorem map_snoc (l:List ByteArray) (x:ByteArray):l.map AV.s++[AV.s x]=(l++[x]).map AV.s:=by simp
def argsP (q:DPlain):List ByteArray:=if q.Kind=5 then [] else q.Args.map DAtom.Var
def rawP (q:DPlain):List ByteArray:=argsP q++((if q.Reset=true then [q.Every.Var] else [])++q.On.map DCond.Var)
def readsP (q:DPlain):List ByteArray:=(rawP q).filter fun s=>decide (¬ s=⟨#[]⟩)
theorem args_le (q:DPlain):(argsP q).length≤q.Args.length:=by unfold argsP;split<;>simp
theorem raw_le (q:DPlain):(rawP q).length≤q.Args.length+q.On.length+1:=by
 have:=args_le q
 unfold rawP
 simp only[List.length_append,List.length_map]
 split<;>simp<;>omega
end Go.Abs
namespace Go.Abs
open Go
theorem MapN.up {f:Value→Option AV} {a:ByteArray→Nat} {l:List ByteArray} {k:Nat} {x:ByteArray} (h:MapN f (fun s=>a s+cntL s (l.take k))) (hx:l[((k:Nat):Int).toNat]?=some x):MapN (mput f (.string x) (.raw (.int .i64 ((a x+cntL x (l.take k)+1:Nat):Int)))) (fun s=>a s+cntL s (l.take (k+1))):=by
 rw[Int.toNat_natCast] at hx
 obtain⟨hi,rfl⟩:=List.getElem?_eq_some_iff.1 hx
 refine h.put _ _ _ ?_ fun s hs=>?_
 ·
  simp only[cntL_take hi,if_true,Nat.add_assoc]
 ·
  have:¬ l[k]=s:=fun e=>hs e.symm
  simp only[cntL_take hi,if_neg this,Nat.add_zero]
theorem MapN.upW {f:Value→Option AV} {a:ByteArray→Nat} {l:List ByteArray} {k:Nat} {x:ByteArray} (h:MapN f (fun s=>a s+cntL s (l.take k))) (hx:l[((k:Nat):Int).toNat]?=some x) (hb:a x+cntL x (l.take k)≤1000000) :
  MapN (mput f (.string x) (.raw (.int .i64 (IntKind.i64.wrap (((a x+cntL x (l.take k):Nat):Int)+1))))) (fun s=>a s+cntL s (l.take (k+1))):=by
 rw[wrap_in _ (by omega) (by omega)]
 exact h.up hx
theorem MapN.down {f:Value→Option AV} {g b:ByteArray→Nat} {l:List ByteArray} {k:Nat} {x:ByteArray} (h:MapN f g) (hg:∀ s,g s+cntL s (l.take k)=b s) (hb:∀ s,cntL s l≤b s) (hx:l[((k:Nat):Int).toNat]?=some x) :
  1≤g x∧∃ g',MapN (mput f (.string x) (.raw (.int .i64 ((g x:Int)-1)))) g'∧∀ s,g' s+cntL s (l.take (k+1))=b s:=by
 rw[Int.toNat_natCast] at hx
 obtain⟨hi,rfl⟩:=List.getElem?_eq_some_iff.1 hx
 have h1:=hg l[k]
 have h2:=hb l[k]
 have h3:=cntL_take (s:=l[k]) hi
 have h4:=cntL_take_le l[k] l (k+1)
 rw[if_pos rfl] at h3
 have h5:1≤g l[k]:=by omega
 refine⟨h5,fun s=>if s=l[k] then g l[k]-1 else g s,?_,fun s=>?_⟩
 ·
  have:=h.put l[k] (g l[k]-1) (fun s=>if s=l[k] then g l[k]-1 else g s) (by simp) (fun s hs=>by simp[hs])
  have e:((g l[k]-1:Nat):Int)=(g l[k]:Int)-1:=by omega
  rw[e] at this
  exact this
 ·
  have h6:=hg s
  by_cases e:s=l[k]
  ·
   subst e
   simp only[if_true]
   omega
  ·
   have:¬ l[k]=s:=fun q=>e q.symm
   simp only[if_neg e,cntL_take hi,if_neg this]
   omega
theorem MapN.downW {f:Value→Option AV} {g b:ByteArray→Nat} {l:List ByteArray} {k:Nat} {x:ByteArray} (h:MapN f g) (hg:∀ s,g s+cntL s (l.take k)=b s) (hb:∀ s,cntL s l≤b s) (hx:l[((k:Nat):Int).toNat]?=some x) (hn:b x≤1000000) :
  ∃ g',MapN (mput f (.string x) (.raw (.int .i64 (IntKind.i64.wrap ((g x:Int)-1))))) g'∧∀ s,g' s+cntL s (l.take (k+1))=b s:=by
 obtain⟨h1,h2⟩:=h.down hg hb hx
 have:=hg x
 rw[wrap_in _ (by omega) (by omega)]
 exact h2
theorem cnt_bnd {N:List (List ByteArray)} {i:Nat} {q:List ByteArray} (hq:N[i]?=some q) (s:ByteArray) (j:Nat):cntL s (N.take i).flatten+cntL s (q.take j)≤N.flatten.length:=by
 obtain⟨hi,rfl⟩:=List.getElem?_eq_some_iff.1 hq
 have h1:=take_flatten_le N (i+1)
 rw[List.take_succ_eq_append_getElem hi] at h1
 simp only[List.flatten_append,List.length_append,List.flatten_cons,List.flatten_nil,List.append_nil] at h1
 have h2:=cntL_le s (N.take i).flatten
 have h3:=cntL_take_le s N[i] j
 have h4:=cntL_le s N[i]
 omega
theorem cnt_step {N:List (List ByteArray)} {i:Nat} {q:List ByteArray} (hq:N[i]?=some q) {j:Nat} (hj:q.length≤j) (s:ByteArray):cntL s (N.take i).flatten+cntL s (q.take j)=cntL s (N.take (i+1)).flatten:=by
 obtain⟨hi,rfl⟩:=List.getElem?_eq_some_iff.1 hq
 rw[List.take_of_length_le hj,List.take_succ_eq_append_getElem hi,List.flatten_append,cntL_append]
 simp
theorem cnt_all {N:List (List ByteArray)} {i:Nat} (hi:N.length≤i) (s:ByteArray):cntL s (N.take i).flatten=opn s N (List.replicate N.length false):=by
 rw[List.take_of_length_le hi,opn_all]
theorem MapN.at {f:Value→Option AV} {g:ByteArray→Nat} (h:MapN f g) (s:ByteArray):orZ (f (.string s)) (.raw (.int .i64 0))=.raw (.int .i64 (g s)):=h s
theorem idx_any {α:Type} (p:α→Bool) (l:List α):decide (idxOf p l≥0)=l.any p:=by
 rcases idxOf_cases p l with ⟨h1,h2⟩|⟨i,x,h1,h2,h3,h4,_⟩
 ·
  rw[h1]
  have:l.any p=false:=by
   rw[Bool.eq_false_iff]
   intro e
   obtain⟨x,hx,hp⟩:=List.any_eq_true.1 e
   have:=List.find?_eq_none.1 h2 x hx
   contradiction
  rw[this];decide
 ·
  rw[h1]
  have:l.any p=true:=List.any_eq_true.2 ⟨x,List.mem_of_getElem? h2,h4⟩
  rw[this,decide_eq_true_eq];omega
end Go.Abs
namespace Go.Proofs.YtpamokpmlplopaaGreatDoor
open Go.Abs
set_option maxRecDepth 20000
set_option linter.unusedSimpArgs false
set_option linter.unusedVariables false
set_option maxHeartbeats 1000000
attribute [local irreducible] vc vcOps vcStep vcGuard prK hrK gK gsK brK callK ElemK SeqK BlockK ScopeK OpsK CallK LoopK LoopGo finPost ACall PCall PCallE BCall vqOps vqStep vqGuard qrK heK pcK gqK gqsK QOpsK qcallK DrawK
noncomputable def onceB (l:List ByteArray):Bool:=@decide l.Nodup (Classical.propDecidable _)
theorem onceB_yes {l:List ByteArray} (h:l.Nodup):onceB l=true:=by unfold onceB;simp[h]
theorem onceB_no {l:List ByteArray} (h:¬ l.Nodup):onceB l=false:=by unfold onceB;simp[h]
attribute [irreducible] onceB
theorem nodup_step {l:List ByteArray} {i:Nat} {x:ByteArray} (h:(l.take i).Nodup) (hx:l[i]?=some x) (hn:x ∉ l.take i):(l.take (i+1)).Nodup:=by
 obtain⟨hi,rfl⟩:=List.getElem?_eq_some_iff.1 hx
 rw[List.take_succ_eq_append_getElem hi,List.nodup_append]
 refine⟨h,by simp,fun a ha b hb e=>?_⟩
 rw[List.mem_singleton.1 hb] at e
 exact hn (e▸ha)
theorem nodup_bad {l:List ByteArray} {i:Nat} {x:ByteArray} (hx:l[i]?=some x) (hm:x∈l.take i):¬ l.Nodup:=by
 intro h
 obtain⟨hi,rfl⟩:=List.getElem?_eq_some_iff.1 hx
 have h':(l.take i++l[i]::l.drop (i+1)).Nodup:=by rw[← List.drop_eq_getElem_cons hi,List.take_append_drop];exact h
 rw[List.nodup_append] at h'
 exact h'.2.2 l[i] hm l[i] List.mem_cons_self rfl
theorem nodup_all {l:List ByteArray} {i:Nat} (h:(l.take i).Nodup) (hi:l.length≤i):onceB l=true:=onceB_yes (by rwa[List.take_of_length_le hi] at h)
theorem mem_take {l:List ByteArray} {k i:Nat} {x y:ByteArray} (hk:l[((k:Int)).toNat]?=some y) (hlt:k<i) (e:y=x):x∈l.take i:=by
 rw[Int.toNat_natCast] at hk
 rw[List.mem_take_iff_getElem]
 obtain⟨hi,he⟩:=List.getElem?_eq_some_iff.1 hk
 exact⟨k,by omega,by rw[he,e]⟩
theorem ostep {l:List ByteArray} {i k:Nat} {x y:ByteArray} (h:∀ x,l[i]?=some x→x ∉ l.take k) (hx:l[((i:Int)).toNat]?=some x) (hy:l[((k:Int)).toNat]?=some y) (hn:¬ y=x):∀ x,l[i]?=some x→x ∉ l.take (k+1):=by
 rw[Int.toNat_natCast] at hx hy
 intro z hz
 rw[hx] at hz
 cases hz
 exact not_step (p:=True) (fun _=>h x hx) hy (fun _=>hn) trivial
theorem oend {l:List ByteArray} {i k:Nat} (hN:(l.take i).Nodup) (h:∀ x,l[i]?=some x→x ∉ l.take k) (hk:k=i) (hi:i<l.length):(l.take (i+1)).Nodup:=by
 subst hk
 exact nodup_step hN (List.getElem?_eq_getElem hi) (h _ (List.getElem?_eq_getElem hi))
theorem once_x (l:List ByteArray):PCall Tryz.prog 231 [.lst 1 (l.map AV.s) none] (.b (onceB l)):=by
 refine pcall_of_vc tabOK Tryz.func231 (by kernel_rfl) rfl pureL pureI (n:=25) rfl (rs:=[.tmp 2]) rfl ?_
 repeat' first
  | exact finB rfl
  | exact finI rfl
  | exact finP rfl
  | exact absurd rfl (by assumption)
  | simp only[go_sem]
  | (intro _)
  | refine brK_dec (fun _=>?_) (fun _=>?_)
  | refine brK_any ?_ ?_
  | refine gK_dec (fun _=>?_) (fun _=>?_)
  | refine gK_any ?_ ?_
  | refine gqK_dec (fun _=>?_) (fun _=>?_)
  | refine⟨by omega,?_⟩
  | refine elemHave (by omega) (by assumption) ?_
  | ((fail_if_success (clear hy));refine elemMap (by omega) (by omega) (fun y hy=>?_))
  | refine elemMap (by omega) (by omega) (fun x hx=>?_)
  | refine drawK mo (by kernel_rfl) ?_
  | (exfalso;omega)
  | (rw[hy] at hx;cases hx)
  | (refine finBq rfl ?_;first|(rw[nodup_all hpi (by omega)])|(rw[onceB_no];exact nodup_bad (by simpa using hx) (mem_take hy (by omega) (by assumption))))
  | exact loopFrH _ (by omega) ⟨k+1,by omega,rfl,ostep hpk hx hy (by assumption),rfl⟩ (.next rfl (by omega) .nil) rfl
  | (refine loop_frH [2,4,11,12,13,14,15,16,17,18,19,20,21,22,23,24] (fun mm_ CC_=>∃(k:Nat),k≤i∧mm_=i-k∧(∀ x,l[i]?=some x→x ∉ l.take k)∧CC_=[(4,.raw (.int .i64 ((k:Nat):Int)))]) (i) _ ⟨0,by omega,by omega,by simp,rfl⟩ (.cons rfl .nil) ?_;rintro mm_ CC_ jk ⟨k,hk,rfl,hpk,rfl⟩)
  | exact loopFrH _ (by omega) ⟨i+1,by omega,rfl,oend hpi hpk (by omega) (by omega),rfl⟩ (.next rfl (by omega) .nil) rfl
  | (refine loop_frH [2,3,4,5,6,7,8,9,10,11,12,13,14,15,16,17,18,19,20,21,22,23,24] (fun mm_ CC_=>∃(i:Nat),i≤l.length∧mm_=l.length-i∧((l.take i).Nodup)∧CC_=[(3,.raw (.int .i64 ((i:Nat):Int)))]) (l.length) _ ⟨0,by omega,by omega,by simp,rfl⟩ (.cons rfl .nil) ?_;rintro mm_ CC_ ji ⟨i,hi,rfl,hpi,rfl⟩)
end Go.Proofs.YtpamokpmlplopaaGreatDoor
