/-
  Law12, Same2, NmEq: put together.
-/
import Derived.Test.YtpamokpmlplopaaGreatDoorUniAm
import Derived.Test.YtpamokpmlplopaaGreatDoorUniAo
import Derived.Test.YtpamokpmlplopaaGreatDoorUniAr
import Derived.Test.YtpamokpmlplopaaGreatDoorUniAx
namespace Go.Proofs.YtpamokpmlplopaaGreatDoor
open Go.Abs
set_option maxRecDepth 20000
set_option linter.unusedSimpArgs false
set_option linter.unusedVariables false
set_option maxHeartbeats 1000000
attribute [local irreducible] vc vcOps vcStep vcGuard prK hrK gK gsK brK callK ElemK SeqK BlockK ScopeK OpsK CallK LoopK LoopGo finPost ACall PCall PCallE BCall vqOps vqStep vqGuard qrK heK pcK gqK gqsK QOpsK qcallK DrawK
theorem ext_DEnum {x y:DEnum} (h0:x.Name=y.Name) (h1:x.Ctors=y.Ctors):x=y:=by cases x;cases y;simp_all
theorem enums78 (l m:List DEnum):PCall Tryz.prog 37 [.lst 2 (l.map DEnum.enc) none,.lst 2 (m.map DEnum.enc) none] (.b (eqB l m)):=by
 refine pcall_of_vc tabOK Tryz.func37 (by kernel_rfl) rfl pureL pureI (n:=42) rfl (rs:=[.tmp 4]) rfl ?_
 repeat' first
  | exact finB rfl
  | exact finI rfl
  | exact finP rfl
  | exact absurd rfl (by assumption)
  | simp only[go_sem]
  | (intro _)
  | refine brK_dec (fun _=>?_) (fun _=>?_)
  | refine brK_any ?_ ?_
  | refine gK_dec (fun _=>?_) (fun _=>?_)
  | refine gK_any ?_ ?_
  | refine gqK_dec (fun _=>?_) (fun _=>?_)
  | refine⟨by omega,?_⟩
  | refine elemHave (by omega) (by assumption) ?_
  | refine elemMap (by omega) (by omega) (fun x hx=>?_)
  | refine drawK mo (by kernel_rfl) ?_
  | (rw[eqB_ne (by rintro rfl;contradiction)];exact⟨_,rfl,false,.refl _⟩)
  | (rw[eqB_ne (at_ne' (l:=l) (m:=m) (i:=i) (by assumption) (by assumption) (by rintro rfl;contradiction))];exact⟨_,rfl,false,.refl _⟩)
  | (rw[eqB_eq (take_eq_full (i:=i) (by omega) hpi (by omega))];exact⟨_,rfl,false,.refl _⟩)
  | (refine pcK_of (namesStr _ _) ?_;generalize he:eqB (α:=List ByteArray) _ _=b;cases b<;>first|replace he:=eqB_t he|replace he:=eqB_f he)
  | exact loopFrH _ (by omega) ⟨i+1,by omega,rfl,take_eq_step' hpi (by assumption) (by assumption) (ext_DEnum (by first|assumption|exact Classical.not_not.1 (by assumption)) (by first|assumption|exact Classical.not_not.1 (by assumption))),rfl⟩ (.next rfl (by omega) .nil) rfl
  | (refine loop_frH [4,5,11,12,13,14,15,16,17,18,19,20,21,22,23,24,25,26,27,28,29,30,31,32,33,34,35,36,37,38,39,40,41] (fun mm_ CC_=>∃(i:Nat),i≤l.length∧mm_=l.length-i∧(l.take i=m.take i)∧CC_=[(5,.raw (.int .i64 ((i:Nat):Int)))]) (l.length) _ ⟨0,by omega,by omega,rfl,rfl⟩ (.cons rfl .nil) ?_;rintro mm_ CC_ ji ⟨i,hi,rfl,hpi,rfl⟩)
theorem ext_DFlows {x y:DFlows} (h0:x.Enums=y.Enums) (h1:x.Flows=y.Flows):x=y:=by cases x;cases y;simp_all
theorem equalAt (l m:List DAtom):PCall Tryz.prog 111 [.lst 2 (l.map (DAtom.enc)) none,.lst 2 (m.map (DAtom.enc)) none] (.b (eqB l m)):=by
 refine pcall_of_vc tabOK Tryz.func111 (by kernel_rfl) rfl pureL pureI (n:=26) rfl (rs:=[.tmp 4]) rfl ?_
 repeat' first
  | exact finB rfl
  | exact finI rfl
  | exact finP rfl
  | exact absurd rfl (by assumption)
  | simp only[go_sem]
  | (intro _)
  | refine brK_dec (fun _=>?_) (fun _=>?_)
  | refine brK_any ?_ ?_
  | refine gK_dec (fun _=>?_) (fun _=>?_)
  | refine gK_any ?_ ?_
  | refine gqK_dec (fun _=>?_) (fun _=>?_)
  | refine⟨by omega,?_⟩
  | refine elemHave (by omega) (by assumption) ?_
  | refine elemMap (by omega) (by omega) (fun x hx=>?_)
  | refine drawK mo (by kernel_rfl) ?_
  | (rw[eqB_ne (len_ne (l:=l) (m:=m) (by omega))];exact⟨_,rfl,false,.refl _⟩)
  | (rw[eqB_ne (at_ne (l:=l) (m:=m) (i:=i) (by assumption) (by assumption) (by assumption))];exact⟨_,rfl,false,.refl _⟩)
  | (rw[eqB_eq (take_eq_full (l:=l) (m:=m) (i:=i) (by omega) hpi (by omega))];exact⟨_,rfl,false,.refl _⟩)
  | exact loopFrH _ (by omega) ⟨i+1,by omega,rfl,take_eq_step hpi (by assumption) (by assumption) (by assumption),rfl⟩ (.next rfl (by omega) .nil) rfl
  | (refine loop_frH [4,5,13,14,15,16,17,18,19,20,21,22,23,24,25] (fun mm_ CC_=>∃(i:Nat),i≤l.length∧mm_=l.length-i∧(l.take i=m.take i)∧CC_=[(13,.raw (.int .i64 ((i:Nat):Int)))]) (l.length) _ ⟨0,by omega,by omega,rfl,rfl⟩ (.cons rfl .nil) ?_;rintro mm_ CC_ ji ⟨i,hi,rfl,hpi,rfl⟩)
theorem equalVal (l m:List Int):PCall Tryz.prog 112 [.lst 1 (l.map (AV.i)) none,.lst 1 (m.map (AV.i)) none] (.b (eqB l m)):=by
 refine pcall_of_vc tabOK Tryz.func112 (by kernel_rfl) rfl pureL pureI (n:=26) rfl (rs:=[.tmp 4]) rfl ?_
 repeat' first
  | exact finB rfl
  | exact finI rfl
  | exact finP rfl
  | exact absurd rfl (by assumption)
  | simp only[go_sem]
  | (intro _)
  | refine brK_dec (fun _=>?_) (fun _=>?_)
  | refine brK_any ?_ ?_
  | refine gK_dec (fun _=>?_) (fun _=>?_)
  | refine gK_any ?_ ?_
  | refine gqK_dec (fun _=>?_) (fun _=>?_)
  | refine⟨by omega,?_⟩
  | refine elemHave (by omega) (by assumption) ?_
  | refine elemMap (by omega) (by omega) (fun x hx=>?_)
  | refine drawK mo (by kernel_rfl) ?_
  | (rw[eqB_ne (len_ne (l:=l) (m:=m) (by omega))];exact⟨_,rfl,false,.refl _⟩)
  | (rw[eqB_ne (at_ne (l:=l) (m:=m) (i:=i) (by assumption) (by assumption) (by assumption))];exact⟨_,rfl,false,.refl _⟩)
  | (rw[eqB_eq (take_eq_full (l:=l) (m:=m) (i:=i) (by omega) hpi (by omega))];exact⟨_,rfl,false,.refl _⟩)
  | exact loopFrH _ (by omega) ⟨i+1,by omega,rfl,take_eq_step hpi (by assumption) (by assumption) (by assumption),rfl⟩ (.next rfl (by omega) .nil) rfl
  | (refine loop_frH [4,5,13,14,15,16,17,18,19,20,21,22,23,24,25] (fun mm_ CC_=>∃(i:Nat),i≤l.length∧mm_=l.length-i∧(l.take i=m.take i)∧CC_=[(13,.raw (.int .i64 ((i:Nat):Int)))]) (l.length) _ ⟨0,by omega,by omega,rfl,rfl⟩ (.cons rfl .nil) ?_;rintro mm_ CC_ ji ⟨i,hi,rfl,hpi,rfl⟩)
theorem equalVar (l m:List DVar) {g:Nat} (hp:∀ x∈l,∀ y∈m,PCall Tryz.prog g [DVar.enc x,DVar.enc y] (.b (eqB x y))):PCall Tryz.prog 71 [.lst 5 (l.map (DVar.enc)) none,.lst 5 (m.map (DVar.enc)) none,.fn (.func g) [] []] (.b (eqB l m)):=by
 refine pcall_of_vc tabOK Tryz.func71 (by kernel_rfl) rfl pureL pureI (n:=32) rfl (rs:=[.tmp 6]) rfl ?_
 repeat' first
  | exact finB rfl
  | exact finI rfl
  | exact finP rfl
  | exact absurd rfl (by assumption)
  | simp only[go_sem]
  | (intro _)
  | refine brK_dec (fun _=>?_) (fun _=>?_)
  | refine brK_any ?_ ?_
  | refine gK_dec (fun _=>?_) (fun _=>?_)
  | refine gK_any ?_ ?_
  | refine gqK_dec (fun _=>?_) (fun _=>?_)
  | refine⟨by omega,?_⟩
  | refine elemHave (by omega) (by assumption) ?_
  | refine elemMap (by omega) (by omega) (fun x hx=>?_)
  | refine drawK mo (by kernel_rfl) ?_
  | (rw[eqB_ne (len_ne (l:=l) (m:=m) (by omega))];exact⟨_,rfl,false,.refl _⟩)
  | (rw[eqB_ne (at_ne' (l:=l) (m:=m) (i:=i) (by assumption) (by assumption) (by assumption))];exact⟨_,rfl,false,.refl _⟩)
  | (rw[eqB_eq (take_eq_full (l:=l) (m:=m) (i:=i) (by omega) hpi (by omega))];exact⟨_,rfl,false,.refl _⟩)
  | (refine PCall.call (hp _ (List.mem_of_getElem? (by assumption)) _ (List.mem_of_getElem? (by assumption))) ?_;generalize he:eqB (α:=DVar) _ _=b;cases b<;>first|replace he:=eqB_t he|replace he:=eqB_f he)
  | exact loopFrX _ (by omega) _ ⟨i+1,by omega,rfl,take_eq_step' hpi (by assumption) (by assumption) (by assumption),rfl⟩ (.next rfl (by omega) .nil) rfl (by first|rfl|(simp only[List.append_assoc,List.cons_append,List.nil_append];rfl))
  | (refine loop_frX [6,7,8,9,17,18,19,20,21,22,23,24,25,26,27,28,29,30,31] (fun mm_ CC_=>∃(i:Nat),i≤l.length∧mm_=l.length-i∧(l.take i=m.take i)∧CC_=[(17,.raw (.int .i64 ((i:Nat):Int)))]) (l.length) _ ⟨0,by omega,by omega,rfl,rfl⟩ (.cons rfl .nil) ?_;rintro mm_ CC_ ji ri ⟨i,hi,rfl,hpi,rfl⟩)
theorem equalPl (l m:List DPlain) {g:Nat} (hp:∀ x∈l,∀ y∈m,PCall Tryz.prog g [DPlain.enc x,DPlain.enc y] (.b (eqB x y))):PCall Tryz.prog 73 [.lst 10 (l.map (DPlain.enc)) none,.lst 10 (m.map (DPlain.enc)) none,.fn (.func g) [] []] (.b (eqB l m)):=by
 refine pcall_of_vc tabOK Tryz.func73 (by kernel_rfl) rfl pureL pureI (n:=32) rfl (rs:=[.tmp 6]) rfl ?_
 repeat' first
  | exact finB rfl
  | exact finI rfl
  | exact finP rfl
  | exact absurd rfl (by assumption)
  | simp only[go_sem]
  | (intro _)
  | refine brK_dec (fun _=>?_) (fun _=>?_)
  | refine brK_any ?_ ?_
  | refine gK_dec (fun _=>?_) (fun _=>?_)
  | refine gK_any ?_ ?_
  | refine gqK_dec (fun _=>?_) (fun _=>?_)
  | refine⟨by omega,?_⟩
  | refine elemHave (by omega) (by assumption) ?_
  | refine elemMap (by omega) (by omega) (fun x hx=>?_)
  | refine drawK mo (by kernel_rfl) ?_
  | (rw[eqB_ne (len_ne (l:=l) (m:=m) (by omega))];exact⟨_,rfl,false,.refl _⟩)
  | (rw[eqB_ne (at_ne' (l:=l) (m:=m) (i:=i) (by assumption) (by assumption) (by assumption))];exact⟨_,rfl,false,.refl _⟩)
  | (rw[eqB_eq (take_eq_full (l:=l) (m:=m) (i:=i) (by omega) hpi (by omega))];exact⟨_,rfl,false,.refl _⟩)
  | (refine PCall.call (hp _ (List.mem_of_getElem? (by assumption)) _ (List.mem_of_getElem? (by assumption))) ?_;generalize he:eqB (α:=DPlain) _ _=b;cases b<;>first|replace he:=eqB_t he|replace he:=eqB_f he)
  | exact loopFrX _ (by omega) _ ⟨i+1,by omega,rfl,take_eq_step' hpi (by assumption) (by assumption) (by assumption),rfl⟩ (.next rfl (by omega) .nil) rfl (by first|rfl|(simp only[List.append_assoc,List.cons_append,List.nil_append];rfl))
  | (refine loop_frX [6,7,8,9,17,18,19,20,21,22,23,24,25,26,27,28,29,30,31] (fun mm_ CC_=>∃(i:Nat),i≤l.length∧mm_=l.length-i∧(l.take i=m.take i)∧CC_=[(17,.raw (.int .i64 ((i:Nat):Int)))]) (l.length) _ ⟨0,by omega,by omega,rfl,rfl⟩ (.cons rfl .nil) ?_;rintro mm_ CC_ ji ri ⟨i,hi,rfl,hpi,rfl⟩)
theorem equalFl (l m:List DFlow) {g:Nat} (hp:∀ x∈l,∀ y∈m,PCall Tryz.prog g [DFlow.enc x,DFlow.enc y] (.b (eqB x y))):PCall Tryz.prog 41 [.lst 5 (l.map (DFlow.enc)) none,.lst 5 (m.map (DFlow.enc)) none,.fn (.func g) [] []] (.b (eqB l m)):=by
 refine pcall_of_vc tabOK Tryz.func41 (by kernel_rfl) rfl pureL pureI (n:=32) rfl (rs:=[.tmp 6]) rfl ?_
 repeat' first
  | exact finB rfl
  | exact finI rfl
  | exact finP rfl
  | exact absurd rfl (by assumption)
  | simp only[go_sem]
  | (intro _)
  | refine brK_dec (fun _=>?_) (fun _=>?_)
  | refine brK_any ?_ ?_
  | refine gK_dec (fun _=>?_) (fun _=>?_)
  | refine gK_any ?_ ?_
  | refine gqK_dec (fun _=>?_) (fun _=>?_)
  | refine⟨by omega,?_⟩
  | refine elemHave (by omega) (by assumption) ?_
  | refine elemMap (by omega) (by omega) (fun x hx=>?_)
  | refine drawK mo (by kernel_rfl) ?_
  | (rw[eqB_ne (len_ne (l:=l) (m:=m) (by omega))];exact⟨_,rfl,false,.refl _⟩)
  | (rw[eqB_ne (at_ne' (l:=l) (m:=m) (i:=i) (by assumption) (by assumption) (by assumption))];exact⟨_,rfl,false,.refl _⟩)
  | (rw[eqB_eq (take_eq_full (l:=l) (m:=m) (i:=i) (by omega) hpi (by omega))];exact⟨_,rfl,false,.refl _⟩)
  | (refine PCall.call (hp _ (List.mem_of_getElem? (by assumption)) _ (List.mem_of_getElem? (by assumption))) ?_;generalize he:eqB (α:=DFlow) _ _=b;cases b<;>first|replace he:=eqB_t he|replace he:=eqB_f he)
  | exact loopFrX _ (by omega) _ ⟨i+1,by omega,rfl,take_eq_step' hpi (by assumption) (by assumption) (by assumption),rfl⟩ (.next rfl (by omega) .nil) rfl (by first|rfl|(simp only[List.append_assoc,List.cons_append,List.nil_append];rfl))
  | (refine loop_frX [6,7,8,9,17,18,19,20,21,22,23,24,25,26,27,28,29,30,31] (fun mm_ CC_=>∃(i:Nat),i≤l.length∧mm_=l.length-i∧(l.take i=m.take i)∧CC_=[(17,.raw (.int .i64 ((i:Nat):Int)))]) (l.length) _ ⟨0,by omega,by omega,rfl,rfl⟩ (.cons rfl .nil) ?_;rintro mm_ CC_ ji ri ⟨i,hi,rfl,hpi,rfl⟩)
theorem sameEnum40 (x y:DEnum):PCall Tryz.prog 40 [x.enc,y.enc] (.b (eqB x y)):=by
 refine pcall_of_vc tabOK Tryz.func40 (by kernel_rfl) rfl pureL pureI (n:=17) rfl (rs:=[.tmp 4]) rfl ?_
 repeat' first
  | exact finB rfl
  | exact finI rfl
  | exact finP rfl
  | exact absurd rfl (by assumption)
  | simp only[go_sem]
  | (intro _)
  | refine brK_dec (fun _=>?_) (fun _=>?_)
  | refine brK_split (fun hb_=>?_) (fun hb_=>?_)
  | refine gK_dec (fun _=>?_) (fun _=>?_)
  | refine gK_split (fun hb_=>?_) (fun hb_=>?_)
  | refine gqK_dec (fun _=>?_) (fun _=>?_)
  | refine⟨by omega,?_⟩
  | refine elemHave (by omega) (by assumption) ?_
  | refine elemMap (by omega) (by omega) (fun x hx=>?_)
  | refine drawK mo (by kernel_rfl) ?_
  | (rw[eqB_ne (by rintro rfl;first|contradiction|simp at hb_)];exact⟨_,rfl,false,.refl _⟩)
  | (rw[eqB_eq (ext_DEnum (by first|assumption|exact Classical.not_not.1 (by assumption)|exact eq_of_beq hb_) (by first|assumption|exact Classical.not_not.1 (by assumption)|exact eq_of_beq hb_))];exact⟨_,rfl,false,.refl _⟩)
  | (refine PCall.call (equalStr _ _) ?_;generalize he:eqB (α:=List ByteArray) _ _=b;cases b<;>first|replace he:=eqB_t he|replace he:=eqB_f he)
theorem sameVar72 (x y:DVar):PCall Tryz.prog 72 [x.enc,y.enc] (.b (eqB x y)):=by
 refine pcall_of_vc tabOK Tryz.func72 (by kernel_rfl) rfl pureL pureI (n:=24) rfl (rs:=[.tmp 4]) rfl ?_
 repeat' first
  | exact finB rfl
  | exact finI rfl
  | exact finP rfl
  | exact absurd rfl (by assumption)
  | simp only[go_sem]
  | (intro _)
  | refine brK_dec (fun _=>?_) (fun _=>?_)
  | refine brK_split (fun hb_=>?_) (fun hb_=>?_)
  | refine gK_dec (fun _=>?_) (fun _=>?_)
  | refine gK_split (fun hb_=>?_) (fun hb_=>?_)
  | refine gqK_dec (fun _=>?_) (fun _=>?_)
  | refine⟨by omega,?_⟩
  | refine elemHave (by omega) (by assumption) ?_
  | refine elemMap (by omega) (by omega) (fun x hx=>?_)
  | refine drawK mo (by kernel_rfl) ?_
  | (rw[eqB_ne (by rintro rfl;first|contradiction|simp at hb_)];exact⟨_,rfl,false,.refl _⟩)
  | (rw[eqB_eq (ext_DVar (by first|assumption|exact Classical.not_not.1 (by assumption)|exact eq_of_beq hb_) (by first|assumption|exact Classical.not_not.1 (by assumption)|exact eq_of_beq hb_) (by first|assumption|exact Classical.not_not.1 (by assumption)|exact eq_of_beq hb_))];exact⟨_,rfl,false,.refl _⟩)
  | (refine PCall.call (equalCs _ _) ?_;generalize he:eqB (α:=List DCond) _ _=b;cases b<;>first|replace he:=eqB_t he|replace he:=eqB_f he)
theorem samePlain74 (x y:DPlain):PCall Tryz.prog 74 [x.enc,y.enc] (.b (eqB x y)):=by
 refine pcall_of_vc tabOK Tryz.func74 (by kernel_rfl) rfl pureL pureI (n:=70) rfl (rs:=[.tmp 4]) rfl ?_
 repeat' first
  | exact finB rfl
  | exact finI rfl
  | exact finP rfl
  | exact absurd rfl (by assumption)
  | simp only[go_sem]
  | (intro _)
  | refine brK_dec (fun _=>?_) (fun _=>?_)
  | refine brK_split (fun hb_=>?_) (fun hb_=>?_)
  | refine gK_dec (fun _=>?_) (fun _=>?_)
  | refine gK_split (fun hb_=>?_) (fun hb_=>?_)
  | refine gqK_dec (fun _=>?_) (fun _=>?_)
  | refine⟨by omega,?_⟩
  | refine elemHave (by omega) (by assumption) ?_
  | refine elemMap (by omega) (by omega) (fun x hx=>?_)
  | refine drawK mo (by kernel_rfl) ?_
  | (rw[eqB_ne (by rintro rfl;first|contradiction|simp at hb_)];exact⟨_,rfl,false,.refl _⟩)
  | (rw[eqB_eq (ext_DPlain (by first|assumption|exact Classical.not_not.1 (by assumption)|exact eq_of_beq hb_) (by first|assumption|exact Classical.not_not.1 (by assumption)|exact eq_of_beq hb_) (by first|assumption|exact Classical.not_not.1 (by assumption)|exact eq_of_beq hb_) (by first|assumption|exact Classical.not_not.1 (by assumption)|exact eq_of_beq hb_) (by first|assumption|exact Classical.not_not.1 (by assumption)|exact eq_of_beq hb_) (by first|assumption|exact Classical.not_not.1 (by assumption)|exact eq_of_beq hb_) (by first|assumption|exact Classical.not_not.1 (by assumption)|exact eq_of_beq hb_) (by first|assumption|exact Classical.not_not.1 (by assumption)|exact eq_of_beq hb_) (by first|assumption|exact Classical.not_not.1 (by assumption)|exact eq_of_beq hb_))];exact⟨_,rfl,false,.refl _⟩)
  | (refine PCall.call (equalStr _ _) ?_;generalize he:eqB (α:=List ByteArray) _ _=b;cases b<;>first|replace he:=eqB_t he|replace he:=eqB_f he)
  | (refine PCall.call (equalAt _ _) ?_;generalize he:eqB (α:=List DAtom) _ _=b;cases b<;>first|replace he:=eqB_t he|replace he:=eqB_f he)
  | (refine PCall.call (equalVal _ _) ?_;generalize he:eqB (α:=List Int) _ _=b;cases b<;>first|replace he:=eqB_t he|replace he:=eqB_f he)
  | (refine PCall.call (equalCs _ _) ?_;generalize he:eqB (α:=List DCond) _ _=b;cases b<;>first|replace he:=eqB_t he|replace he:=eqB_f he)
theorem sameFlow42 (x y:DFlow):PCall Tryz.prog 42 [x.enc,y.enc] (.b (eqB x y)):=by
 refine pcall_of_vc tabOK Tryz.func42 (by kernel_rfl) rfl pureL pureI (n:=40) rfl (rs:=[.tmp 4]) rfl ?_
 repeat' first
  | exact finB rfl
  | exact finI rfl
  | exact finP rfl
  | exact absurd rfl (by assumption)
  | simp only[go_sem]
  | (intro _)
  | refine brK_dec (fun _=>?_) (fun _=>?_)
  | refine brK_split (fun hb_=>?_) (fun hb_=>?_)
  | refine gK_dec (fun _=>?_) (fun _=>?_)
  | refine gK_split (fun hb_=>?_) (fun hb_=>?_)
  | refine gqK_dec (fun _=>?_) (fun _=>?_)
  | refine⟨by omega,?_⟩
  | refine elemHave (by omega) (by assumption) ?_
  | refine elemMap (by omega) (by omega) (fun x hx=>?_)
  | refine drawK mo (by kernel_rfl) ?_
  | (rw[eqB_ne (by rintro rfl;first|contradiction|simp at hb_)];exact⟨_,rfl,false,.refl _⟩)
  | (rw[eqB_eq (ext_DFlow (by first|assumption|exact Classical.not_not.1 (by assumption)|exact eq_of_beq hb_) (by first|assumption|exact Classical.not_not.1 (by assumption)|exact eq_of_beq hb_) (by first|assumption|exact Classical.not_not.1 (by assumption)|exact eq_of_beq hb_) (by first|assumption|exact Classical.not_not.1 (by assumption)|exact eq_of_beq hb_) (by first|assumption|exact Classical.not_not.1 (by assumption)|exact eq_of_beq hb_))];exact⟨_,rfl,false,.refl _⟩)
  | (refine PCall.call (equalVar _ _ (fun x _ y _=>sameVar72 x y)) ?_;generalize he:eqB (α:=List DVar) _ _=b;cases b<;>first|replace he:=eqB_t he|replace he:=eqB_f he)
  | (refine PCall.call (equalPl _ _ (fun x _ y _=>samePlain74 x y)) ?_;generalize he:eqB (α:=List DPlain) _ _=b;cases b<;>first|replace he:=eqB_t he|replace he:=eqB_f he)
theorem same13 (x y:DFlows):PCall Tryz.prog 13 [x.enc,y.enc] (.b (eqB x y)):=by
 refine pcall_of_vc tabOK Tryz.func13 (by kernel_rfl) rfl pureL pureI (n:=17) rfl (rs:=[.tmp 4]) rfl ?_
 repeat' first
  | exact finB rfl
  | exact finI rfl
  | exact finP rfl
  | exact absurd rfl (by assumption)
  | simp only[go_sem]
  | (intro _)
  | refine brK_dec (fun _=>?_) (fun _=>?_)
  | refine brK_split (fun hb_=>?_) (fun hb_=>?_)
  | refine gK_dec (fun _=>?_) (fun _=>?_)
  | refine gK_split (fun hb_=>?_) (fun hb_=>?_)
  | refine gqK_dec (fun _=>?_) (fun _=>?_)
  | refine⟨by omega,?_⟩
  | refine elemHave (by omega) (by assumption) ?_
  | refine elemMap (by omega) (by omega) (fun x hx=>?_)
  | refine drawK mo (by kernel_rfl) ?_
  | (rw[eqB_ne (by rintro rfl;first|contradiction|simp at hb_)];exact⟨_,rfl,false,.refl _⟩)
  | (rw[eqB_eq (ext_DFlows (by first|assumption|exact Classical.not_not.1 (by assumption)|exact eq_of_beq hb_) (by first|assumption|exact Classical.not_not.1 (by assumption)|exact eq_of_beq hb_))];exact⟨_,rfl,false,.refl _⟩)
  | (refine PCall.call (equalEnum _ _ (fun x _ y _=>sameEnum40 x y)) ?_;generalize he:eqB (α:=List DEnum) _ _=b;cases b<;>first|replace he:=eqB_t he|replace he:=eqB_f he)
  | (refine PCall.call (equalFl _ _ (fun x _ y _=>sameFlow42 x y)) ?_;generalize he:eqB (α:=List DFlow) _ _=b;cases b<;>first|replace he:=eqB_t he|replace he:=eqB_f he)
theorem same12 (a b:DFlows):PCall Tryz.prog 12 [a.enc,b.enc] (.b (eqB a b)):=by
 refine pcall_of_vc tabOK Tryz.func12 (by kernel_rfl) rfl pureL pureI (n:=40) rfl (rs:=[.tmp 4]) rfl ?_
 repeat' first
  | exact finB rfl
  | exact finI rfl
  | exact finP rfl
  | exact absurd rfl (by assumption)
  | simp only[go_sem]
  | (intro _)
  | refine brK_dec (fun _=>?_) (fun _=>?_)
  | refine brK_split (fun hb_=>?_) (fun hb_=>?_)
  | refine gK_dec (fun _=>?_) (fun _=>?_)
  | refine gK_split (fun hb_=>?_) (fun hb_=>?_)
  | refine gqK_dec (fun _=>?_) (fun _=>?_)
  | refine⟨by omega,?_⟩
  | refine elemHave (by omega) (by assumption) ?_
  | ((fail_if_success (clear hq));refine elemMap (by omega) (by omega) (fun q hq=>?_))
  | refine elemMap (by omega) (by omega) (fun x hx=>?_)
  | refine drawK mo (by kernel_rfl) ?_
  | (rw[eqB_ne (by rintro rfl;first|contradiction|simp at hb_)];exact⟨_,rfl,false,.refl _⟩)
  | (rw[eqB_ne (fun h=>len_ne (by omega) (congrArg DFlows.Flows h))];exact⟨_,rfl,false,.refl _⟩)
  | (rw[eqB_ne (fun h=>at_ne' (l:=a.Flows) (m:=b.Flows) (i:=i) (by assumption) (by assumption) (by assumption) (congrArg DFlows.Flows h))];exact⟨_,rfl,false,.refl _⟩)
  | (rw[eqB_eq (ext_DFlows (by first|assumption|exact Classical.not_not.1 (by assumption)|exact eq_of_beq hb_) (take_eq_full (i:=i) (by omega) hpi (by omega)))];exact⟨_,rfl,false,.refl _⟩)
  | (refine PCall.call (enums78 _ _) ?_;generalize he:eqB (α:=List DEnum) _ _=b;cases b<;>first|replace he:=eqB_t he|replace he:=eqB_f he)
  | (refine pcK_of (sameFlow34 _ _) ?_;generalize he:eqB (α:=DFlow) _ _=b;cases b<;>first|replace he:=eqB_t he|replace he:=eqB_f he)
  | exact loopFrH _ (by omega) ⟨i+1,by omega,rfl,take_eq_step' hpi (by assumption) (by assumption) (by assumption),rfl⟩ (.next rfl (by omega) .nil) rfl
  | (refine loop_frH [4,5,21,22,23,24,25,26,27,28,29,30,31,32,33,34,35,36,37,38,39] (fun mm_ CC_=>∃(i:Nat),i≤a.Flows.length∧mm_=a.Flows.length-i∧(a.Flows.take i=b.Flows.take i)∧CC_=[(5,.raw (.int .i64 ((i:Nat):Int)))]) (a.Flows.length) _ ⟨0,by omega,by omega,rfl,rfl⟩ (.cons rfl .nil) ?_;rintro mm_ CC_ ji ⟨i,hi,rfl,hpi,rfl⟩)
end Go.Proofs.YtpamokpmlplopaaGreatDoor
