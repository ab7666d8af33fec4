/-
  Same1, IdP, Lib2, Lib3, IdP2, Once2, FirstF: put together.
-/
import Derived.Test.YtpamokpmlplopaaGreatDoorUniAf
import Derived.Test.YtpamokpmlplopaaGreatDoorUniAg
import Derived.Test.YtpamokpmlplopaaGreatDoorUniAi
import Derived.Test.YtpamokpmlplopaaGreatDoorUniAj
namespace Go.Proofs.YtpamokpmlplopaaGreatDoor
open Go.Abs
set_option maxRecDepth 20000
set_option linter.unusedSimpArgs false
set_option linter.unusedVariables false
set_option maxHeartbeats 1000000
attribute [local irreducible] vc vcOps vcStep vcGuard prK hrK gK gsK brK callK ElemK SeqK BlockK ScopeK OpsK CallK LoopK LoopGo finPost ACall PCall PCallE BCall vqOps vqStep vqGuard qrK heK pcK gqK gqsK QOpsK qcallK DrawK
noncomputable def eqB {α:Type} (x y:α):Bool:=@decide (x=y) (Classical.propDecidable _)
theorem eqB_eq {α:Type} {x y:α} (h:x=y):eqB x y=true:=by unfold eqB;simp[h]
theorem eqB_ne {α:Type} {x y:α} (h:¬ x=y):eqB x y=false:=by unfold eqB;simp[h]
theorem eqB_t {α:Type} {x y:α} (h:eqB x y=true):x=y:=by unfold eqB at h;simpa using h
theorem eqB_f {α:Type} {x y:α} (h:eqB x y=false):¬ x=y:=by unfold eqB at h;simpa using h
attribute [irreducible] eqB
theorem len_ne {α:Type} {l m:List α} (h:¬ l.length=m.length):¬ l=m:=fun e=>h (congrArg List.length e)
theorem at_ne' {α:Type} {l m:List α} {i:Nat} {x y:α} (hx:l[((i:Int)).toNat]?=some x) (hy:m[((i:Int)).toNat]?=some y) (h:¬ x=y):¬ l=m:=by
 rintro rfl
 rw[hx] at hy
 exact h (Option.some.inj hy)
theorem at_ne {α:Type} {l m:List α} {i:Nat} {x y:α} (hx:l[((i:Int)).toNat]?=some x) (hy:m[((i:Int)).toNat]?=some y) (h:x≠y):¬ l=m:=at_ne' hx hy h
theorem take_eq_step' {α:Type} {l m:List α} {i:Nat} {x y:α} (hp:l.take i=m.take i) (hx:l[((i:Int)).toNat]?=some x) (hy:m[((i:Int)).toNat]?=some y) (h:x=y):l.take (i+1)=m.take (i+1):=by
 subst h
 rw[Int.toNat_natCast] at hx hy
 rw[List.take_add_one,List.take_add_one,hp,hx,hy]
theorem take_eq_step {α:Type} {l m:List α} {i:Nat} {x y:α} (hp:l.take i=m.take i) (hx:l[((i:Int)).toNat]?=some x) (hy:m[((i:Int)).toNat]?=some y) (h:¬ x≠y):l.take (i+1)=m.take (i+1):=take_eq_step' hp hx hy (Classical.not_not.1 h)
theorem take_eq_full {α:Type} {l m:List α} {i:Nat} (h:l.length=m.length) (hp:l.take i=m.take i) (hi:l.length≤i):l=m:=by
 rw[List.take_of_length_le hi,List.take_of_length_le (by omega)] at hp
 exact hp
theorem equalStr (l m:List ByteArray):PCall Tryz.prog 70 [.lst 1 (l.map (AV.s)) none,.lst 1 (m.map (AV.s)) none] (.b (eqB l m)):=by
 refine pcall_of_vc tabOK Tryz.func70 (by kernel_rfl) rfl pureL pureI (n:=26) rfl (rs:=[.tmp 4]) rfl ?_
 repeat' first
  | exact finB rfl
  | exact finI rfl
  | exact finP rfl
  | exact absurd rfl (by assumption)
  | simp only[go_sem]
  | (intro _)
  | refine brK_dec (fun _=>?_) (fun _=>?_)
  | refine brK_any ?_ ?_
  | refine gK_dec (fun _=>?_) (fun _=>?_)
  | refine gK_any ?_ ?_
  | refine gqK_dec (fun _=>?_) (fun _=>?_)
  | refine⟨by omega,?_⟩
  | refine elemHave (by omega) (by assumption) ?_
  | refine elemMap (by omega) (by omega) (fun x hx=>?_)
  | refine drawK mo (by kernel_rfl) ?_
  | (rw[eqB_ne (len_ne (l:=l) (m:=m) (by omega))];exact⟨_,rfl,false,.refl _⟩)
  | (rw[eqB_ne (at_ne (l:=l) (m:=m) (i:=i) (by assumption) (by assumption) (by assumption))];exact⟨_,rfl,false,.refl _⟩)
  | (rw[eqB_eq (take_eq_full (l:=l) (m:=m) (i:=i) (by omega) hpi (by omega))];exact⟨_,rfl,false,.refl _⟩)
  | exact loopFrH _ (by omega) ⟨i+1,by omega,rfl,take_eq_step hpi (by assumption) (by assumption) (by assumption),rfl⟩ (.next rfl (by omega) .nil) rfl
  | (refine loop_frH [4,5,13,14,15,16,17,18,19,20,21,22,23,24,25] (fun mm_ CC_=>∃(i:Nat),i≤l.length∧mm_=l.length-i∧(l.take i=m.take i)∧CC_=[(13,.raw (.int .i64 ((i:Nat):Int)))]) (l.length) _ ⟨0,by omega,by omega,rfl,rfl⟩ (.cons rfl .nil) ?_;rintro mm_ CC_ ji ⟨i,hi,rfl,hpi,rfl⟩)
theorem namesStr (l m:List ByteArray):PCall Tryz.prog 19 [.lst 1 (l.map (AV.s)) none,.lst 1 (m.map (AV.s)) none] (.b (eqB l m)):=by
 refine pcall_of_vc tabOK Tryz.func19 (by kernel_rfl) rfl pureL pureI (n:=26) rfl (rs:=[.tmp 4]) rfl ?_
 repeat' first
  | exact finB rfl
  | exact finI rfl
  | exact finP rfl
  | exact absurd rfl (by assumption)
  | simp only[go_sem]
  | (intro _)
  | refine brK_dec (fun _=>?_) (fun _=>?_)
  | refine brK_any ?_ ?_
  | refine gK_dec (fun _=>?_) (fun _=>?_)
  | refine gK_any ?_ ?_
  | refine gqK_dec (fun _=>?_) (fun _=>?_)
  | refine⟨by omega,?_⟩
  | refine elemHave (by omega) (by assumption) ?_
  | refine elemMap (by omega) (by omega) (fun x hx=>?_)
  | refine drawK mo (by kernel_rfl) ?_
  | (rw[eqB_ne (len_ne (l:=l) (m:=m) (by omega))];exact⟨_,rfl,false,.refl _⟩)
  | (rw[eqB_ne (at_ne (l:=l) (m:=m) (i:=i) (by assumption) (by assumption) (by assumption))];exact⟨_,rfl,false,.refl _⟩)
  | (rw[eqB_eq (take_eq_full (l:=l) (m:=m) (i:=i) (by omega) hpi (by omega))];exact⟨_,rfl,false,.refl _⟩)
  | exact loopFrH _ (by omega) ⟨i+1,by omega,rfl,take_eq_step hpi (by assumption) (by assumption) (by assumption),rfl⟩ (.next rfl (by omega) .nil) rfl
  | (refine loop_frH [4,5,11,12,13,14,15,16,17,18,19,20,21,22,23,24,25] (fun mm_ CC_=>∃(i:Nat),i≤l.length∧mm_=l.length-i∧(l.take i=m.take i)∧CC_=[(5,.raw (.int .i64 ((i:Nat):Int)))]) (l.length) _ ⟨0,by omega,by omega,rfl,rfl⟩ (.cons rfl .nil) ?_;rintro mm_ CC_ ji ⟨i,hi,rfl,hpi,rfl⟩)
theorem equalEnum (l m:List DEnum) {g:Nat} (hp:∀ x∈l,∀ y∈m,PCall Tryz.prog g [DEnum.enc x,DEnum.enc y] (.b (eqB x y))):PCall Tryz.prog 39 [.lst 2 (l.map (DEnum.enc)) none,.lst 2 (m.map (DEnum.enc)) none,.fn (.func g) [] []] (.b (eqB l m)):=by
 refine pcall_of_vc tabOK Tryz.func39 (by kernel_rfl) rfl pureL pureI (n:=32) rfl (rs:=[.tmp 6]) rfl ?_
 repeat' first
  | exact finB rfl
  | exact finI rfl
  | exact finP rfl
  | exact absurd rfl (by assumption)
  | simp only[go_sem]
  | (intro _)
  | refine brK_dec (fun _=>?_) (fun _=>?_)
  | refine brK_any ?_ ?_
  | refine gK_dec (fun _=>?_) (fun _=>?_)
  | refine gK_any ?_ ?_
  | refine gqK_dec (fun _=>?_) (fun _=>?_)
  | refine⟨by omega,?_⟩
  | refine elemHave (by omega) (by assumption) ?_
  | refine elemMap (by omega) (by omega) (fun x hx=>?_)
  | refine drawK mo (by kernel_rfl) ?_
  | (rw[eqB_ne (len_ne (l:=l) (m:=m) (by omega))];exact⟨_,rfl,false,.refl _⟩)
  | (rw[eqB_ne (at_ne' (l:=l) (m:=m) (i:=i) (by assumption) (by assumption) (by assumption))];exact⟨_,rfl,false,.refl _⟩)
  | (rw[eqB_eq (take_eq_full (l:=l) (m:=m) (i:=i) (by omega) hpi (by omega))];exact⟨_,rfl,false,.refl _⟩)
  | (refine PCall.call (hp _ (List.mem_of_getElem? (by assumption)) _ (List.mem_of_getElem? (by assumption))) ?_;generalize he:eqB (α:=DEnum) _ _=b;cases b<;>first|replace he:=eqB_t he|replace he:=eqB_f he)
  | exact loopFrX _ (by omega) _ ⟨i+1,by omega,rfl,take_eq_step' hpi (by assumption) (by assumption) (by assumption),rfl⟩ (.next rfl (by omega) .nil) rfl (by first|rfl|(simp only[List.append_assoc,List.cons_append,List.nil_append];rfl))
  | (refine loop_frX [6,7,8,9,17,18,19,20,21,22,23,24,25,26,27,28,29,30,31] (fun mm_ CC_=>∃(i:Nat),i≤l.length∧mm_=l.length-i∧(l.take i=m.take i)∧CC_=[(17,.raw (.int .i64 ((i:Nat):Int)))]) (l.length) _ ⟨0,by omega,by omega,rfl,rfl⟩ (.cons rfl .nil) ?_;rintro mm_ CC_ ji ri ⟨i,hi,rfl,hpi,rfl⟩)
theorem small14 (c:Int):PCall Tryz.prog 300 [.raw (.int .i32 c)] (.b (inB 97 122 c)):=by
 refine pcall_of_vc tabOK Tryz.func300 (by kernel_rfl) rfl pureL pureI (n:=9) rfl (rs:=[.tmp 2]) rfl ?_
 repeat' first
  | exact finB rfl
  | exact finI rfl
  | exact finP rfl
  | exact absurd rfl (by assumption)
  | simp only[go_sem]
  | (intro _)
  | refine brK_dec (fun _=>?_) (fun _=>?_)
  | refine brK_any ?_ ?_
  | refine gK_dec (fun _=>?_) (fun _=>?_)
  | refine gK_any ?_ ?_
  | refine gqK_dec (fun _=>?_) (fun _=>?_)
  | refine⟨by omega,?_⟩
  | refine elemHave (by omega) (by assumption) ?_
  | refine elemMap (by omega) (by omega) (fun x hx=>?_)
  | refine drawK mo (by kernel_rfl) ?_
  | (refine finBq rfl ?_;unfold inB;simp;omega)
theorem great16 (c:Int):PCall Tryz.prog 302 [.raw (.int .i32 c)] (.b (inB 65 90 c)):=by
 refine pcall_of_vc tabOK Tryz.func302 (by kernel_rfl) rfl pureL pureI (n:=9) rfl (rs:=[.tmp 2]) rfl ?_
 repeat' first
  | exact finB rfl
  | exact finI rfl
  | exact finP rfl
  | exact absurd rfl (by assumption)
  | simp only[go_sem]
  | (intro _)
  | refine brK_dec (fun _=>?_) (fun _=>?_)
  | refine brK_any ?_ ?_
  | refine gK_dec (fun _=>?_) (fun _=>?_)
  | refine gK_any ?_ ?_
  | refine gqK_dec (fun _=>?_) (fun _=>?_)
  | refine⟨by omega,?_⟩
  | refine elemHave (by omega) (by assumption) ?_
  | refine elemMap (by omega) (by omega) (fun x hx=>?_)
  | refine drawK mo (by kernel_rfl) ?_
  | (refine finBq rfl ?_;unfold inB;simp;omega)
theorem digit20 (c:Int):PCall Tryz.prog 321 [.raw (.int .i32 c)] (.b (inB 48 57 c)):=by
 refine pcall_of_vc tabOK Tryz.func321 (by kernel_rfl) rfl pureL pureI (n:=9) rfl (rs:=[.tmp 2]) rfl ?_
 repeat' first
  | exact finB rfl
  | exact finI rfl
  | exact finP rfl
  | exact absurd rfl (by assumption)
  | simp only[go_sem]
  | (intro _)
  | refine brK_dec (fun _=>?_) (fun _=>?_)
  | refine brK_any ?_ ?_
  | refine gK_dec (fun _=>?_) (fun _=>?_)
  | refine gK_any ?_ ?_
  | refine gqK_dec (fun _=>?_) (fun _=>?_)
  | refine⟨by omega,?_⟩
  | refine elemHave (by omega) (by assumption) ?_
  | refine elemMap (by omega) (by omega) (fun x hx=>?_)
  | refine drawK mo (by kernel_rfl) ?_
  | (refine finBq rfl ?_;unfold inB;simp;omega)
theorem inB_hi {a b c:Int} (hb:b<128) (hc:128≤c):inB a b c=false:=by unfold inB;simp;omega
theorem nameG_all {F:Int→Bool} {t:ByteArray} (h:(bts t).all (fun c=>okB c.toNat)=false):nameG F t=false:=by unfold nameG;rw[h];simp
theorem nameG_first {F:Int→Bool} {t:ByteArray} (h:firstB F (bts t)=false):nameG F t=false:=by unfold nameG;rw[h];simp
theorem firstB_at {F:Int→Bool} {t:ByteArray} {p:Nat} {c:UInt8} (hc:(bts t)[p]?=some c) (hp:(p:Int)=0):firstB F (bts t)=F c.toNat:=by
 have:p=0:=by omega
 subst this
 obtain⟨l,hl⟩:=bts_cons hc
 rw[hl];rfl
theorem okB_hi {c:Nat} (h:¬ c<128):okB c=false:=by unfold okB inB;simp;omega
theorem name13 (t:ByteArray) (g:Nat) (F:Int→Bool) (hg:∀ c:Int,PCall Tryz.prog g [.raw (.int .i32 c)] (.b (F c))):PCall Tryz.prog 299 [.s t,.fn (.func g) [] []] (.b (nameG F t)):=by
 refine pcall_of_vc tabOK Tryz.func299 (by kernel_rfl) rfl (pure_cons (.raw _) (pure_cons (.fn _ _ _ pure_nil pure_nil) pure_nil)) (.raw _) (n:=48) rfl (rs:=[.tmp 4]) rfl ?_
 simp only[go_sem]
 refine loop_fr [4,5,6,9,10,11,12,13,14,15,16,17,18,19,20,21,22,23,24,25,26,27,28,29,30,31,32,33,34,35,36,37,38,39] (fun m C hh=>∃ p:Nat,p≤t.size∧m=t.size-p∧(∀ c∈(bts t).take p,okB c.toNat=true)∧(0<p→firstB F (bts t)=true)∧C=[]∧hh=[.it t p]) t.size _ ⟨0,by omega,by omega,by simp,by omega,rfl,rfl⟩ .nil ?_
 rintro m C j hh ⟨p,hp,rfl,hpi,hf,rfl,rfl⟩
 rcases Nat.lt_or_ge p t.size with hlt|hge
 ·
  obtain⟨c,hcc⟩:=bts_at hlt
  have hd:decide (p<t.size)=true:=decide_eq_true hlt
  by_cases hlo:c.toNat<128
  ·
   simp only[go_sem,hd,decode_lo hcc hlo]
   repeat' first
    | (exfalso;omega)
    | simp only[go_sem]
    | refine brK_dec (fun _=>?_) (fun _=>?_)
    | refine gK_dec (fun _=>?_) (fun _=>?_)
    | (refine PCall.call (hg _) ?_;generalize hF:F (c.toNat:Nat)=q;cases q)
    | (refine PCall.call (small14 _) ?_;generalize hs:inB 97 122 (c.toNat:Nat)=q;cases q)
    | (refine PCall.call (great16 _) ?_;generalize hgr:inB 65 90 (c.toNat:Nat)=q;cases q)
    | (refine PCall.call (digit20 _) ?_;generalize hdi:inB 48 57 (c.toNat:Nat)=q;cases q)
    | (refine finBq rfl ?_;first
      | (have hp0:(p:Int)=0:=(by assumption);have hno:firstB F (bts t)=false:=(by rw[firstB_at hcc hp0];assumption);rw[nameG_first hno])
      | (have hno:okB c.toNat=false:=(by simp[okB, *];done);rw[nameG_all (all_no (p:=fun c=>okB c.toNat) hcc hno)]))
    | exact loopFr _ (by omega) ⟨p+1,by omega,rfl,take_all hpi hcc (by simp[okB, *]<;>omega),fun _=>by first|exact hf (by omega)|(rw[firstB_at hcc (by assumption)];assumption),rfl,rfl⟩ .nil rfl
  ·
   have hhi:=decode_hi hcc (by omega)
   simp only[go_sem,hd]
   generalize Utf8.decode t p=r at hhi ⊢
   obtain⟨r,wd⟩:=r
   dsimp only at hhi
   have h1:inB 97 122 (r:Int)=false:=inB_hi (by omega) (by omega)
   have h2:inB 65 90 (r:Int)=false:=inB_hi (by omega) (by omega)
   have h3:inB 48 57 (r:Int)=false:=inB_hi (by omega) (by omega)
   repeat' first
    | (exfalso;omega)
    | simp only[go_sem]
    | refine brK_dec (fun _=>?_) (fun _=>?_)
    | refine gK_dec (fun _=>?_) (fun _=>?_)
    | (refine PCall.call (hg _) ?_;generalize hF:F (r:Nat)=q;cases q)
    | (refine PCall.call (small14 _) ?_;rw[h1])
    | (refine PCall.call (great16 _) ?_;rw[h2])
    | (refine PCall.call (digit20 _) ?_;rw[h3])
    | (refine finBq rfl ?_;rw[nameG_all (all_no (p:=fun c=>okB c.toNat) hcc (okB_hi hlo))])
 ·
  have hd:decide (p<t.size)=false:=decide_eq_false (by omega)
  simp only[go_sem,hd]
  have hall:=all_yes (p:=fun c=>okB c.toNat) hpi hge
  repeat' first
   | (exfalso;omega)
   | simp only[go_sem]
   | refine brK_dec (fun _=>?_) (fun _=>?_)
   | refine gK_dec (fun _=>?_) (fun _=>?_)
   | (refine finBq rfl ?_;unfold nameG;rw[hall];first|(have h0:0<p:=(by omega);have h1:1≤t.size:=(by omega);rw[hf h0,decide_eq_true h1];by_cases q:t.size≤12<;>simp[q]<;>omega)|(have h1:¬ 1≤t.size:=(by omega);simp[h1];done))
theorem word10 (t:ByteArray):PCall Tryz.prog 301 [.s t] (.b (wordF t)):=by
 refine pcall_of_vc tabOK Tryz.func301 (by kernel_rfl) rfl pureL pureI (n:=30) rfl (rs:=[.tmp 2]) rfl ?_
 unfold wordF words
 repeat' first
  | exact finB rfl
  | exact finI rfl
  | exact finP rfl
  | exact absurd rfl (by assumption)
  | simp only[go_sem]
  | (intro _)
  | refine brK_dec (fun _=>?_) (fun _=>?_)
  | refine brK_any ?_ ?_
  | refine gK_dec (fun _=>?_) (fun _=>?_)
  | refine gK_any ?_ ?_
  | refine gqK_dec (fun _=>?_) (fun _=>?_)
  | refine⟨by omega,?_⟩
  | refine elemHave (by omega) (by assumption) ?_
  | refine elemMap (by omega) (by omega) (fun x hx=>?_)
  | refine drawK mo (by kernel_rfl) ?_
  | (refine finBq rfl ?_;simp[*];done)
theorem low6 (t:ByteArray):PCall Tryz.prog 264 [.s t] (.b (lowF t)):=by
 refine pcall_of_vc tabOK Tryz.func264 (by kernel_rfl) rfl pureL pureI (n:=10) rfl (rs:=[.tmp 2]) rfl ?_
 unfold lowF
 repeat' first
  | exact finB rfl
  | exact finI rfl
  | exact finP rfl
  | exact absurd rfl (by assumption)
  | simp only[go_sem]
  | (intro _)
  | refine brK_dec (fun _=>?_) (fun _=>?_)
  | refine brK_any ?_ ?_
  | refine gK_dec (fun _=>?_) (fun _=>?_)
  | refine gK_any ?_ ?_
  | refine gqK_dec (fun _=>?_) (fun _=>?_)
  | refine⟨by omega,?_⟩
  | refine elemHave (by omega) (by assumption) ?_
  | refine elemMap (by omega) (by omega) (fun x hx=>?_)
  | refine drawK mo (by kernel_rfl) ?_
  | (refine PCall.call (name13 _ _ _ small14) ?_;generalize nameG (inB 97 122) t=q;cases q)
  | (refine PCall.call (word10 _) ?_)
  | (exact finBq rfl (by simp))
theorem high8 (t:ByteArray):PCall Tryz.prog 265 [.s t] (.b (highF t)):=by
 refine pcall_of_vc tabOK Tryz.func265 (by kernel_rfl) rfl pureL pureI (n:=5) rfl (rs:=[.tmp 2]) rfl ?_
 unfold highF
 repeat' first
  | exact finB rfl
  | exact finI rfl
  | exact finP rfl
  | exact absurd rfl (by assumption)
  | simp only[go_sem]
  | (intro _)
  | refine brK_dec (fun _=>?_) (fun _=>?_)
  | refine brK_any ?_ ?_
  | refine gK_dec (fun _=>?_) (fun _=>?_)
  | refine gK_any ?_ ?_
  | refine gqK_dec (fun _=>?_) (fun _=>?_)
  | refine⟨by omega,?_⟩
  | refine elemHave (by omega) (by assumption) ?_
  | refine elemMap (by omega) (by omega) (fun x hx=>?_)
  | refine drawK mo (by kernel_rfl) ?_
  | (refine PCall.call (name13 _ _ _ great16) ?_)
  | (exact finBq rfl (by simp))
theorem moL:Tryz.prog.follows .mixedOrders=true:=by kernel_rfl
theorem idxByte34 (t:ByteArray) (c:UInt8):PCall Tryz.prog 338 [.s t,.raw (.int .u8 c.toNat)] (.i (Lib.indexByte (bts t) c)) :=
 pcall_raw (vals:=[.string t,.int .u8 c.toNat]) (fun vs w=>run_callFunc Tryz.func338 (by kernel_rfl) rfl vs w) fun w=>by
  have:=Go.Proofs.Any.stringslite_IndexByte (ρ:=layS_ren) { layS with } t (c.toNat:Nat) w
  rw[show((c.toNat:Nat):Int).toNat.toUInt8=c by simp] at this
  exact this
theorem count26 (t:ByteArray) (c:UInt8):PCall Tryz.prog 330 [.s t,.s ⟨#[c]⟩] (.i ((bts t).count c:Nat)) :=
 pcall_raw (vals:=[.string t,.string ⟨#[c]⟩]) (fun vs w=>run_callFunc Tryz.func330 (by kernel_rfl) rfl vs w) fun w=>Go.Proofs.Any.strings_Count_one (ρ:=layS_ren) layS t c w
theorem one_ne (c:UInt8):¬ (⟨#[c]⟩:ByteArray)=⟨#[]⟩:=fun e=>by
 have:=congrArg ByteArray.size e
 rw[show(⟨#[c]⟩:ByteArray).size=1 from rfl] at this
 exact absurd this (by decide)
theorem one_size (c:UInt8):(⟨#[c]⟩:ByteArray).size=1:=rfl
theorem one_at (c:UInt8):(⟨#[c]⟩:ByteArray).data.toList.getD 0 0=c:=rfl
theorem idx_one {t:ByteArray} {c:UInt8} (h:(⟨#[c]⟩:ByteArray)=t):Lib.indexByte (bts t) c=0:=by subst h;simp[bts,Lib.indexByte]
theorem idx32 (t:ByteArray) (c:UInt8):PCall Tryz.prog 336 [.s t,.s ⟨#[c]⟩] (.i (Lib.indexByte (bts t) c)):=by
 refine pcall_of_vc tabOK Tryz.func336 (by kernel_rfl) rfl pureL pureI (n:=143) rfl (rs:=[.tmp 4]) rfl ?_
 repeat' first
  | (exfalso;omega)
  | simp only[go_sem,one_size,one_at]
  | (intro _)
  | refine⟨by omega,?_⟩
  | refine brK_dec (fun _=>?_) (fun _=>?_)
  | refine gK_dec (fun _=>?_) (fun _=>?_)
  | refine drawK moL (by kernel_rfl) ?_
  | (refine PCall.call (idxByte34 _ _) ?_)
  | exact finP rfl
  | (rw[idx_one (by assumption)];exact finP rfl)
theorem index27 (t:ByteArray) (c:UInt8):PCall Tryz.prog 331 [.s t,.s ⟨#[c]⟩] (.i (Lib.indexByte (bts t) c)):=by
 refine pcall_of_vc tabOK Tryz.func331 (by kernel_rfl) rfl pureL pureI (n:=8) rfl (rs:=[.tmp 4]) rfl ?_
 simp only[go_sem]
 refine PCall.call (idx32 _ _) ?_
 simp only[go_sem]
 exact finP rfl
abbrev cutA (t:ByteArray) (c:UInt8):AV:=.tup [.s (if c∈bts t then t.extract 0 (Lib.indexByte (bts t) c).toNat else t),.s (if c∈bts t then t.extract ((Lib.indexByte (bts t) c).toNat+1) t.size else⟨#[]⟩),.b (decide (c∈bts t))]
theorem pure_cutA (t:ByteArray) (c:UInt8):Go.Abs.Pure (cutA t c):=.tup _ (pure_cons (.raw _) (pure_cons (.raw _) (pure_cons (.raw _) pure_nil)))
theorem cut28 (t:ByteArray) (c:UInt8) (ht:t.size≤1000000000):PCall Tryz.prog 332 [.s t,.s ⟨#[c]⟩] (cutA t c):=by
 refine pcall_of_vc tabOK Tryz.func332 (by kernel_rfl) rfl (by first|exact pureL|exact pureI) (pure_cutA _ _) (n:=23) rfl (rs:=[.tmp 4,.tmp 5,.tmp 6]) rfl ?_
 simp only[go_sem]
 refine PCall.call (idx32 _ _) ?_
 by_cases hc:c∈bts t
 ·
  obtain⟨m,h1,h2,h3,h4⟩:=idx_at hc
  have hm:m<t.size:=by rw[← bts_len];exact h2
  unfold cutA
  rw[if_pos hc,if_pos hc,decide_eq_true hc,h1,Int.toNat_natCast]
  have hw:IntKind.i64.wrap ((m:Int)+((1:Nat):Int))=((m+1:Nat):Int):=by rw[wrap_in _ (by omega) (by omega)];omega
  repeat' first
   | (exfalso;omega)
   | simp only[go_sem,one_size,hw,Int.toNat_natCast]
   | (intro _)
   | refine⟨by omega,?_⟩
   | refine brK_dec (fun _=>?_) (fun _=>?_)
   | refine drawK moL (by kernel_rfl) ?_
   | exact⟨_,rfl,false,.refl _⟩
   | (refine⟨by simp only[hw];omega,?_⟩;simp only[hw,Int.toNat_natCast])
 ·
  unfold cutA
  rw[if_neg hc,if_neg hc,decide_eq_false hc,idx_no hc]
  repeat' first
   | (exfalso;omega)
   | simp only[go_sem]
   | (exact absurd ‹_› (by decide))
   | refine brK_dec (fun _=>?_) (fun _=>?_)
   | exact⟨_,rfl,false,.refl _⟩
theorem cut23 (t:ByteArray) (c:UInt8) (ht:t.size≤1000000000):PCall Tryz.prog 327 [.s t,.s ⟨#[c]⟩] (cutA t c):=by
 refine pcall_of_vc tabOK Tryz.func327 (by kernel_rfl) rfl (by first|exact pureL|exact pureI) (pure_cutA _ _) (n:=13) rfl (rs:=[.tmp 4,.tmp 5,.tmp 6]) rfl ?_
 simp only[go_sem]
 refine PCall.call (cut28 _ _ ht) ?_
 simp only[go_sem]
 exact⟨_,rfl,false,.refl _⟩
theorem take_set {X:List AV} {i:Nat} {v:AV} (h:i<X.length):(X.set i v).take (i+1)=X.take i++[v]:=by
 rw[List.take_succ_eq_append_getElem (by simpa using h),List.take_set_of_le (Nat.le_refl _)]
 simp
theorem one_set {X:List AV} {i:Nat} {v:AV} (h:X.all AV.one=true) (hv:v.one=true):(X.set i v).all AV.one=true:=by
 rw[List.all_eq_true] at h ⊢
 intro x hx
 rcases List.mem_or_eq_of_mem_set hx with q|q
 ·
  exact h x q
 ·
  rw[q];exact hv
theorem split22 (t:ByteArray) (c:UInt8) (ht:t.size≤1000000):PCall Tryz.prog 326 [.s t,.s ⟨#[c]⟩,.i 0,.i (-1)] (.lst 1 ((pieces c t).map AV.s) none):=by
 refine pcall_of_vc tabOK Tryz.func326 (by kernel_rfl) rfl (by first|exact pureL|exact pureI) (pure_strs _) (n:=66) rfl (rs:=[.tmp 8]) rfl ?_
 generalize hN:(bts t).count c=N
 have hNs:N≤t.size:=by rw[← hN,← bts_len];exact List.count_le_length
 have hw1:IntKind.i64.wrap ((N:Int)+1)=((N+1:Nat):Int):=by rw[wrap_in _ (by omega) (by omega)];omega
 have hw2:IntKind.i64.wrap ((t.size:Int)+1)=((t.size+1:Nat):Int):=by rw[wrap_in _ (by omega) (by omega)];omega
 have hmin:(if((t.size+1:Nat):Int)<((N+1:Nat):Int) then((t.size+1:Nat):Int) else((N+1:Nat):Int))=((N+1:Nat):Int):=if_neg (by omega)
 have hw3:IntKind.i64.wrap (((N+1:Nat):Int)-1)=((N:Nat):Int):=by rw[wrap_in _ (by omega) (by omega)];omega
 simp only[go_sem]
 refine brK_dec (fun h=>absurd h (one_ne c)) (fun _=>?_)
 simp only[go_sem]
 refine PCall.call (count26 t c) ?_
 rw[hN]
 simp only[go_sem,hw1,hw2,hmin,hw3,Int.toNat_natCast]
 refine⟨by omega,?_⟩
 refine loop_fr [0,10,11,34,35,36,37,38,39,40,41,42,43,44,45,46,47,48,49,50,51,52,53,54,55,56,57] (fun m C hh=>∃(i:Nat) (s:ByteArray) (D:List ByteArray) (X:List AV),D.length=i∧D++pieces c s=pieces c t∧i+(bts s).count c=N∧s.size≤t.size∧X.length=N+1∧X.take i=D.map AV.s∧X.all AV.one=true∧m=N-i∧C=[(10,.raw (.int .i64 (i:Nat))),(0,.s s)]∧hh=[.cells 9 X])
  N _ ⟨0,t,[],_,rfl,rfl,by omega,Nat.le_refl _,by simp,rfl,by simp[AV.one,Value.oneCell'],by omega,rfl,rfl⟩ (.cons rfl (.cons rfl .nil)) ?_
 rintro m C j hh ⟨i,s,D,X,hD,hp,hc,hs,hX,hXt,hXo,rfl,rfl,rfl⟩
 simp only[go_sem]
 refine brK_dec (fun hlt=>?_) (fun hge=>?_)
 ·
  have hcm:c∈bts s:=List.count_pos_iff.1 (by omega)
  obtain⟨m,h1,h2,h3,h4⟩:=idx_at hcm
  have hm:m<s.size:=by rw[← bts_len];exact h2
  have hw4:IntKind.i64.wrap ((m:Int)+0)=(m:Int):=by rw[wrap_in _ (by omega) (by omega)];omega
  have hw5:IntKind.i64.wrap ((m:Int)+((1:Nat):Int))=((m+1:Nat):Int):=by rw[wrap_in _ (by omega) (by omega)];omega
  simp only[go_sem]
  refine PCall.call (index27 s c) ?_
  rw[h1]
  simp only[go_sem]
  refine brK_dec (fun _=>by exfalso;omega) (fun _=>?_)
  have hd:decide (i+1≤X.length)=true:=decide_eq_true (by omega)
  simp only[go_sem,hw4,hw5,one_size,Int.toNat_natCast,hd,Nat.mul_one]
  refine⟨by omega,by omega,by omega,?_⟩
  have hpc:=pieces_at h2 h3 h4
  refine loopFr _ (by omega) ⟨i+1,s.extract (m+1) s.size,D++[s.extract 0 m],X.set i (.s (s.extract 0 m)),by simp[hD],by rw[List.append_assoc,← hp,hpc];rfl,?_,by rw[ByteArray.size_extract];omega,by simpa using hX,?_,one_set hXo rfl,rfl,rfl,rfl⟩ (.next rfl (by omega) (.cons rfl .nil)) rfl
  ·
   have e2:bts (s.extract (m+1) s.size)=(bts s).drop (m+1):=by rw[bts_extract,List.take_of_length_le (by rw[bts_len];exact Nat.le_refl _)]
   have e3:(bts s).count c=((bts s).drop (m+1)).count c+1:=by
    conv=>lhs;rw[h3]
    rw[List.count_append,List.count_eq_zero.2 h4,List.count_cons]
    simp
   rw[e2];omega
  ·
   rw[take_set (by omega),hXt,List.map_append];rfl
 ·
  have hi:i=N:=by omega
  have hz:c ∉ bts s:=fun hm=>by have:=List.count_pos_iff.2 hm;omega
  rw[pieces_no hz] at hp
  have hw6:IntKind.i64.wrap ((i:Int)+1)=((i+1:Nat):Int):=by rw[wrap_in _ (by omega) (by omega)];omega
  have hd:decide (i+1≤X.length)=true:=decide_eq_true (by omega)
  simp only[go_sem,hd,Nat.mul_one,Int.toNat_natCast,hw6]
  refine⟨by omega,by omega,?_⟩
  refine⟨_,rfl,true,?_⟩
  have hlen:(X.set i (.s s)).length=i+1:=by simp;omega
  have hall:X.set i (.s s)=(pieces c t).map AV.s:=by
   rw[← hp,List.map_append,← hXt]
   have:=take_set (X:=X) (i:=i) (v:=.s s) (by omega)
   rw[List.take_of_length_le (by rw[hlen];exact Nat.le_refl _)] at this
   exact this
  have hone:=one_set (i:=i) (v:=.s s) hXo rfl
  show Weak (frz [.cells 9 (X.set i (.s s))] (.sl 1 0 0 (i+1))) _
  rw[hall] at hlen hone ⊢
  simp only[frz,List.getElem?_cons_zero,decide_true,Nat.zero_add,hlen,Nat.le_refl,hone,List.drop_zero]
  rw[List.take_of_length_le (by rw[hlen];exact Nat.le_refl _)]
  exact .refl _
theorem split18 (t:ByteArray) (c:UInt8) (ht:t.size≤1000000):PCall Tryz.prog 319 [.s t,.s ⟨#[c]⟩] (.lst 1 ((pieces c t).map AV.s) none):=by
 refine pcall_of_vc tabOK Tryz.func319 (by kernel_rfl) rfl (by first|exact pureL|exact pureI) (pure_strs _) (n:=8) rfl (rs:=[.tmp 4]) rfl ?_
 simp only[go_sem]
 refine PCall.call (split22 t c ht) ?_
 simp only[go_sem]
 exact⟨_,rfl,false,.refl _⟩
theorem numG_all {t:ByteArray} (h:(bts t).all (fun c=>inB 48 57 c.toNat)=false):numG t=false:=by unfold numG;rw[h];simp
theorem numG_first {t:ByteArray} (h:firstNo0 (bts t)=false):numG t=false:=by unfold numG;rw[h];simp
theorem firstNo0_at {t:ByteArray} {p:Nat} {c:UInt8} (hc:(bts t)[p]?=some c) (hp:(p:Int)=0):firstNo0 (bts t)=!decide (c.toNat=48):=by
 have:p=0:=by omega
 subst this
 obtain⟨l,hl⟩:=bts_cons hc
 rw[hl];rfl
theorem number24 (t:ByteArray):PCall Tryz.prog 328 [.s t] (.b (numG t)):=by
 refine pcall_of_vc tabOK Tryz.func328 (by kernel_rfl) rfl (pure_cons (.raw _) pure_nil) (.raw _) (n:=30) rfl (rs:=[.tmp 2]) rfl ?_
 simp only[go_sem]
 refine loop_fr [2,3,4,7,8,9,10,11,12,13,14,15,16,17,18,19,20,21] (fun m C hh=>∃ p:Nat,p≤t.size∧m=t.size-p∧(∀ c∈(bts t).take p,inB 48 57 c.toNat=true)∧(0<p→firstNo0 (bts t)=true)∧C=[]∧hh=[.it t p]) t.size _ ⟨0,by omega,by omega,by simp,by omega,rfl,rfl⟩ .nil ?_
 rintro m C j hh ⟨p,hp,rfl,hpi,hf,rfl,rfl⟩
 rcases Nat.lt_or_ge p t.size with hlt|hge
 ·
  obtain⟨c,hcc⟩:=bts_at hlt
  have hd:decide (p<t.size)=true:=decide_eq_true hlt
  by_cases hlo:c.toNat<128
  ·
   simp only[go_sem,hd,decode_lo hcc hlo]
   repeat' first
    | (exfalso;omega)
    | simp only[go_sem]
    | refine brK_dec (fun _=>?_) (fun _=>?_)
    | refine gK_dec (fun _=>?_) (fun _=>?_)
    | (refine PCall.call (digit20 _) ?_;generalize hdi:inB 48 57 (c.toNat:Nat)=q;cases q)
    | (refine finBq rfl ?_;first
      | (rw[numG_all (all_no (p:=fun c=>inB 48 57 c.toNat) hcc hdi)])
      | (have hp0:(p:Int)=0:=(by assumption);have h48:c.toNat=48:=(by omega);have hno:firstNo0 (bts t)=false:=(by rw[firstNo0_at hcc hp0,h48];rfl);rw[numG_first hno]))
    | exact loopFr _ (by omega) ⟨p+1,by omega,rfl,take_all hpi hcc hdi,fun _=>by
      rcases Nat.eq_zero_or_pos p with h0|h0
      ·
       have h48:¬ c.toNat=48:=by omega
       rw[firstNo0_at hcc (by omega),decide_eq_false h48];rfl
      ·
       exact hf h0,rfl,rfl⟩ .nil rfl
  ·
   have hhi:=decode_hi hcc (by omega)
   simp only[go_sem,hd]
   generalize Utf8.decode t p=r at hhi ⊢
   obtain⟨r,wd⟩:=r
   dsimp only at hhi
   have h3:inB 48 57 (r:Int)=false:=inB_hi (by omega) (by omega)
   have hno:inB 48 57 (c.toNat:Nat)=false:=by unfold inB;simp;omega
   repeat' first
    | (exfalso;omega)
    | simp only[go_sem]
    | refine brK_dec (fun _=>?_) (fun _=>?_)
    | refine gK_dec (fun _=>?_) (fun _=>?_)
    | (refine PCall.call (digit20 _) ?_;rw[h3])
    | (refine finBq rfl ?_;rw[numG_all (all_no (p:=fun c=>inB 48 57 c.toNat) hcc hno)])
 ·
  have hd:decide (p<t.size)=false:=decide_eq_false (by omega)
  simp only[go_sem,hd]
  have hall:=all_yes (p:=fun c=>inB 48 57 c.toNat) hpi hge
  repeat' first
   | (exfalso;omega)
   | simp only[go_sem]
   | refine brK_dec (fun _=>?_) (fun _=>?_)
   | refine gK_dec (fun _=>?_) (fun _=>?_)
   | (refine finBq rfl ?_;unfold numG;rw[hall];first|(have h0:0<p:=(by omega);have h1:1≤t.size:=(by omega);rw[hf h0,decide_eq_true h1];by_cases q:t.size≤3<;>simp[q]<;>omega)|(have h1:¬ 1≤t.size:=(by omega);simp[h1];done))
theorem part19 (t:ByteArray) (ht:t.size≤1000000000):PCall Tryz.prog 320 [.s t] (.b (partF t)):=by
 refine pcall_of_vc tabOK Tryz.func320 (by kernel_rfl) rfl pureL pureI (n:=22) rfl (rs:=[.tmp 2]) rfl ?_
 simp only[go_sem]
 refine PCall.call (cut23 t 46 ht) ?_
 by_cases hc:(46:UInt8)∈bts t
 ·
  obtain⟨m,h1,h2,h3,h4⟩:=idx_at hc
  unfold cutA
  rw[if_pos hc,if_pos hc,decide_eq_true hc,h1,Int.toNat_natCast,partF_at h2 h3 h4]
  repeat' first
   | simp only[go_sem]
   | (refine PCall.call (low6 _) ?_;generalize lowF (t.extract 0 m)=q;cases q)
   | (refine PCall.call (number24 _) ?_)
   | exact finBq rfl (by simp)
   | refine gK_split (fun _=>?_) (fun _=>?_)
 ·
  unfold cutA
  rw[if_neg hc,if_neg hc,decide_eq_false hc,partF_no hc]
  repeat' first
   | simp only[go_sem]
   | (refine PCall.call (low6 _) ?_;generalize lowF t=q;cases q)
   | exact finBq rfl (by simp)
theorem path12 (t:ByteArray) (ht:t.size≤1000000):PCall Tryz.prog 298 [.s t] (.b (pathF t)):=by
 refine pcall_of_vc tabOK Tryz.func298 (by kernel_rfl) rfl pureL pureI (n:=16) rfl (rs:=[.tmp 2]) rfl ?_
 unfold pathF
 repeat' first
  | exact finB rfl
  | exact finI rfl
  | exact finP rfl
  | exact absurd rfl (by assumption)
  | simp only[go_sem]
  | (intro _)
  | refine brK_dec (fun _=>?_) (fun _=>?_)
  | refine brK_any ?_ ?_
  | refine gK_dec (fun _=>?_) (fun _=>?_)
  | refine gK_any ?_ ?_
  | refine gqK_dec (fun _=>?_) (fun _=>?_)
  | refine⟨by omega,?_⟩
  | refine elemHave (by omega) (by assumption) ?_
  | refine elemMap (by omega) (by omega) (fun x hx=>?_)
  | refine drawK mo (by kernel_rfl) ?_
  | (refine PCall.call (split18 t 47 ht) ?_)
  | (have hle:=pieces_le (List.mem_of_getElem? hx);refine PCall.call (part19 x (by omega)) ?_;generalize hpx:partF x=q;cases q)
  | (refine finBq rfl ?_;first|(rw[List.all_eq_true.2 (take_full hpi (by omega))])|(rw[List.all_eq_false.2 ⟨x,List.mem_of_getElem? hx,by simp[hpx]⟩]))
  | exact loopFrH _ (by omega) ⟨i+1,by omega,rfl,take_all hpi (by simpa using hx) hpx,rfl⟩ (.next rfl (by omega) .nil) rfl
  | (refine loop_frH [2,4,8,9,10,11,12,13,14,15] (fun mm_ CC_=>∃(i:Nat),i≤(pieces 47 t).length∧mm_=(pieces 47 t).length-i∧(∀ x∈(pieces 47 t).take i,partF x=true)∧CC_=[(8,.raw (.int .i64 ((i:Nat):Int)))]) ((pieces 47 t).length) _ ⟨0,by omega,by omega,by simp,rfl⟩ (.cons rfl .nil) ?_;rintro mm_ CC_ ji ⟨i,hi,rfl,hpi,rfl⟩)
theorem once12 (l:List ByteArray):PCall Tryz.prog 214 [.lst 1 (l.map AV.s) none] (.b (onceB l)):=by
 refine pcall_of_vc tabOK Tryz.func214 (by kernel_rfl) rfl (pure_cons (pure_strs _) pure_nil) (.raw _) (n:=22) rfl (rs:=[.tmp 2]) rfl ?_
 simp only[go_sem]
 intro _
 refine loop_fr [2,5,9,10,11,12,13,14,15,16,17,18,19,20,21] (fun m C hh=>∃(i n:Nat) (f:Value→Option AV),i≤l.length∧m=l.length-i∧(l.take i).Nodup∧MapN f (fun s=>0+cntL s (l.take i))∧C=[(9,.raw (.int .i64 (i:Nat)))]∧hh=[.mp .str n f]) l.length _ ⟨0,0,_,by omega,by omega,by simp,MapN.nil.cast (fun s=>by simp[cntL]),rfl,rfl⟩ (.cons rfl .nil) ?_
 rintro m C j hh ⟨i,n,f,hi,rfl,hN,hM,rfl,rfl⟩
 simp only[go_sem]
 refine brK_dec (fun hlt=>?_) (fun hge=>?_)
 ·
  simp only[go_sem]
  refine elemMap (by omega) (by omega) (fun x hx=>?_)
  have hx':l[i]?=some x:=by simpa using hx
  have hMx:=hM x
  have hle:=cntL_le x (l.take i)
  rw[List.length_take] at hle
  simp only[go_sem,hMx]
  refine brK_dec (fun hp=>?_) (fun hp=>?_)
  ·
   simp only[go_sem]
   refine finBq rfl ?_
   rw[onceB_no]
   refine nodup_bad hx' ?_
   by_cases hm:x∈l.take i
   ·
    exact hm
   ·
    have:=cntL_zero hm
    exfalso;omega
  ·
   simp only[go_sem,hMx]
   have hm:x ∉ l.take i:=fun hm=>by have:=cntL_mem hm;omega
   exact loopFr _ (by omega) ⟨i+1,_,_,by omega,rfl,nodup_step hN hx' hm,(by have h:=hM.upW hx (by omega);simpa only[Nat.zero_add] using h),rfl,rfl⟩ (.next rfl (by omega) .nil) rfl
 ·
  simp only[go_sem]
  exact finBq rfl (nodup_all hN (by omega)).symm
def firstF (f:Nat→DNode→DFault):Nat→List DNode→DFault
 | _,[]=>⟨0,0,0⟩
 | i,n::r=>if(f i n).Err=0 then firstF f (i+1) r else f i n
def firstE (a err:Int) (f:Nat→DEq→Bool):Nat→List DEq→DFault
 | _,[]=>⟨0,0,0⟩
 | k,q::r=>if f k q=true then firstE a err f (k+1) r else⟨a,(k:Int),err⟩
theorem first_next {f:Nat→DNode→DFault} {l:List DNode} {i:Nat} {n:DNode} {E:DFault} (hE:firstF f i (l.drop i)=E) (hx:l[i]?=some n) (h:(f i n).Err=0):firstF f (i+1) (l.drop (i+1))=E:=by
 obtain⟨hi,rfl⟩:=List.getElem?_eq_some_iff.1 hx
 rw[List.drop_eq_getElem_cons hi,firstF,if_pos h] at hE
 exact hE
theorem first_at {f:Nat→DNode→DFault} {l:List DNode} {i:Nat} {n:DNode} {E:DFault} (hE:firstF f i (l.drop i)=E) (hx:l[i]?=some n) (h:¬ (f i n).Err=0):E=f i n:=by
 obtain⟨hi,rfl⟩:=List.getElem?_eq_some_iff.1 hx
 rw[List.drop_eq_getElem_cons hi,firstF,if_neg h] at hE
 exact hE.symm
theorem first_0 {f:Nat→DNode→DFault} {l:List DNode} {i:Nat} {E:DFault} (hE:firstF f i (l.drop i)=E) (hi:l.length≤i):E=⟨0,0,0⟩:=by
 rw[List.drop_of_length_le hi,firstF] at hE
 exact hE.symm
theorem firstE_next {a err:Int} {f:Nat→DEq→Bool} {l:List DEq} {i:Nat} {q:DEq} {E:DFault} (hE:firstE a err f i (l.drop i)=E) (hx:l[i]?=some q) (h:f i q=true):firstE a err f (i+1) (l.drop (i+1))=E:=by
 obtain⟨hi,rfl⟩:=List.getElem?_eq_some_iff.1 hx
 rw[List.drop_eq_getElem_cons hi,firstE,if_pos h] at hE
 exact hE
theorem firstE_at {a err:Int} {f:Nat→DEq→Bool} {l:List DEq} {i:Nat} {q:DEq} {E:DFault} (hE:firstE a err f i (l.drop i)=E) (hx:l[i]?=some q) (h:f i q=false):E=⟨a,(i:Int),err⟩:=by
 obtain⟨hi,rfl⟩:=List.getElem?_eq_some_iff.1 hx
 rw[List.drop_eq_getElem_cons hi,firstE,if_neg (by rw[h];simp)] at hE
 exact hE.symm
theorem firstE_0 {a err:Int} {f:Nat→DEq→Bool} {l:List DEq} {i:Nat} {E:DFault} (hE:firstE a err f i (l.drop i)=E) (hi:l.length≤i):E=⟨0,0,0⟩:=by
 rw[List.drop_of_length_le hi,firstE] at hE
 exact hE.symm
theorem firstE_zero {a err:Int} {f:Nat→DEq→Bool} (he:¬ err=0):∀ {l:List DEq} {i:Nat},(firstE a err f i l).Err=0→firstE a err f i l=⟨0,0,0⟩∧∀(k:Nat) q,l[k]?=some q→f (i+k) q=true
 | [],i,_=>⟨rfl,fun k q h=>by simp at h⟩
 | q::r,i,h=>by
  rw[firstE] at h ⊢
  split at h
  ·
   rename_i hq
   obtain⟨h1,h2⟩:=firstE_zero he h
   refine⟨by rw[if_pos hq];exact h1,fun k x hk=>?_⟩
   match k with
   | 0=>simp at hk;subst hk;exact hq
   | k+1=>have:=h2 k x (by simpa using hk);rw[show i+(k+1)=i+1+k by omega];exact this
  ·
   exact absurd h he
theorem firstF_zero {f:Nat→DNode→DFault}:∀ {l:List DNode} {i:Nat},(firstF f i l).Err=0→firstF f i l=⟨0,0,0⟩∧∀(k:Nat) n,l[k]?=some n→(f (i+k) n).Err=0
 | [],i,_=>⟨rfl,fun k q h=>by simp at h⟩
 | n::r,i,h=>by
  rw[firstF] at h ⊢
  split at h
  ·
   rename_i hq
   obtain⟨h1,h2⟩:=firstF_zero h
   refine⟨by rw[if_pos hq];exact h1,fun k x hk=>?_⟩
   match k with
   | 0=>simp at hk;subst hk;exact hq
   | k+1=>have:=h2 k x (by simpa using hk);rw[show i+(k+1)=i+1+k by omega];exact this
  ·
   rename_i hq;exact absurd h hq
end Go.Proofs.YtpamokpmlplopaaGreatDoor
