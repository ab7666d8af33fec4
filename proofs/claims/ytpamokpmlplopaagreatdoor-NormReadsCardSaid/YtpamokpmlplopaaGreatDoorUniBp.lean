/-
  NmVar, NmRL, AbsQW: put together.
-/
import Derived.Test.YtpamokpmlplopaaGreatDoorUniAd
import Derived.Test.YtpamokpmlplopaaGreatDoorUniAj
import Derived.Test.YtpamokpmlplopaaGreatDoorUniAl
import Derived.Test.YtpamokpmlplopaaGreatDoorUniAq
import Derived.Test.YtpamokpmlplopaaGreatDoorUniAx
import Derived.Test.YtpamokpmlplopaaGreatDoorUniBe
import Derived.Test.YtpamokpmlplopaaGreatDoorUniBh
import Derived.Handed
namespace Go.Proofs.YtpamokpmlplopaaGreatDoor
open Go.Abs
set_option maxRecDepth 20000
set_option linter.unusedSimpArgs false
set_option linter.unusedVariables false
set_option maxHeartbeats 1000000
attribute [local irreducible] vc vcOps vcStep vcGuard prK hrK gK gsK brK callK ElemK SeqK BlockK ScopeK OpsK CallK LoopK LoopGo finPost ACall PCall PCallE BCall vqOps vqStep vqGuard qrK heK pcK gqK gqsK QOpsK qcallK DrawK
section
open Go.RowKit
def growPostV (n:Nat) (w:World) (e:Ending) (w':World):Prop :=
 ∃(cap:Nat) (vs:Array Value),e=.returned (.slice (some ⟨w.heap.size,0,none⟩) 0 cap)∧n≤cap∧cap≤maxLen∧vs.size=cap * 5∧w'=(w.alloc (.cells vs 45)).drew
theorem grow_walkV (n:Nat) (h0:0<n) (hn:n≤4294967296) (w:World):Calls Tryz.prog 75 #[.slice none 0 0,.int .i64 (n:Int)] w (growPostV n w):=by
 have hb:Tryz.t45.bytes=64:=by kernel_rfl
 have hns:=nextslicecap_zero h0
 go_enter Tryz.func75,Tryz.ntmps75
 go_wp2
 all_goals first
  | (exfalso;simp only[hb,hns] at *;omega)
  | (go_ret
     have hge:=grownCap_ge w n 0 45
     have hcm:=grownCap_le_maxLen w n 0 45 (by simp only[maxLen];omega)
     exact⟨_,_,rfl,hge,hcm,by simp only[Array.size_append,zeroCells_size];show n * 5+(grownCap w n 0 45-n) * 5=grownCap w n 0 45 * 5;omega,rfl⟩)
theorem grow0_walkV (w:World):Calls Tryz.prog 75 #[.slice none 0 0,.int .i64 0] w fun e w'=>e=.returned (.slice none 0 0)∧w'=w:=by
 go_enter Tryz.func75,Tryz.ntmps75
 go_wp2
 go_ret
 exact⟨rfl,rfl⟩
theorem grow_callV {n:Nat} (hn:n≤4294967296) {h:List Blk} {K:AV→List Blk→Prop} (hK:K (.lst 5 [] (some h.length)) (h++[.tok 45 5 0])):ACall Tryz.prog 75 [.raw (.slice none 0 0),.i n] h K:=by
 refine acall_of fun S φ w vs hr hargs=>?_
 have hvs:vs=#[.slice none 0 0,.int .i64 n]:=by
  obtain⟨v0,h0,c0⟩:=hargs.at (i:=0) rfl
  obtain⟨v1,h1,c1⟩:=hargs.at (i:=1) rfl
  cases c0;cases c1
  have hl:=hargs.1
  apply Array.ext_getElem?
  intro i
  match i with
  | 0=>exact h0
  | 1=>exact h1
  | i+2=>simp at hl ⊢;omega
 subst hvs
 refine⟨run_callFunc Tryz.func75 (by kernel_rfl) rfl _ w,?_⟩
 rcases Nat.eq_zero_or_pos n with rfl|h0
 ·
  refine Calls.mono (grow0_walkV w) ?_
  rintro e w' ⟨rfl,rfl⟩
  obtain⟨k1,k2⟩:=hr.push (l:=.tok 0 (.slice none 0 0)) (x:=.tok 45 5 0) (S':=S) (w':=w') rfl rfl rfl (Nat.le_refl _) (fun _ _=>rfl) (fun _ h=>h) (fun _ h=>.inl h) hr.bnd
   ⟨_,upd_same _ _ _,.inl ⟨rfl,rfl⟩⟩ (fun b hb=>by simp[blockOf] at hb)
  exact⟨_,_,_,S,_,rfl,hK,.lstnil _ _ ⟨_,_,upd_same _ _ _,Nat.le_refl _,fun _=>rfl⟩,k1,k2⟩
 ·
  refine Calls.mono (grow_walkV n h0 hn w) ?_
  rintro e w' ⟨cap,us,rfl,hc,hm,hus,rfl⟩
  obtain⟨k1,k2⟩:=hr.push (l:=.tok 0 (.slice (some ⟨w.heap.size,0,none⟩) 0 cap)) (x:=.tok 45 5 0) (S':=S) (w':=(w.alloc (.cells us 45)).drew) rfl rfl rfl (by show _≤(w.heap.push _).size;simp) (fun b hb=>alloc_heap w _ _ hb) (fun _ h=>h) (fun _ h=>.inl h)
   (fun a ha=>by have:=hr.bnd a ha;show _<(w.heap.push _).size;simp;omega)
   ⟨_,upd_same _ _ _,.inr (.inr ⟨w.heap.size,cap,us,by omega,hm,rfl,heap_alloc_new w _,hus,fun a ha e=>by have:=hr.bnd a ha;omega⟩)⟩
   (fun b hb=>by simp only[blockOf] at hb;split at hb;cases hb;cases hb;exact Nat.le_refl _)
  refine⟨_,_,_,S,_,rfl,hK,?_,k1,k2⟩
  exact .lst _ [] _ _ _ _ (fun _=>undef) rfl (Nat.zero_le _) hm (by simp) (fun j c hj=>by simp[flat] at hj) (fun j c hj=>by simp[flat] at hj) (fun j c hj=>by simp[flat] at hj) ⟨_,_,upd_same _ _ _,Nat.le_refl _,fun _=>rfl⟩
def encsV (l:List DVar):AV:=.lst 5 (l.map (DVar.enc)) none
theorem encsV_eq (l:List DVar):encsV l=.lst 5 (l.map (DVar.enc)) none:=rfl
instance (ls:List (List DVar)):PureI (.lst 1 (ls.map encsV) none):=⟨pure_list (fun x=>DVar.pures x) _⟩
attribute [go_sem] encsV_eq
def lensV (ls:List (List DVar)):Nat:=ls.flatten.length
theorem concatV (ls:List (List DVar)) (hl:lensV ls≤4294967296):PCall Tryz.prog 44 [.lst 1 (ls.map encsV) none] (.lst 5 (ls.flatten.map (DVar.enc)) none):=by
 refine pcall_of_vc tabOK Tryz.func44 (by kernel_rfl) rfl pureL pureI (n:=36) rfl (rs:=[.tmp 2]) rfl ?_
 simp only[go_sem]
 intro hlen
 refine loop_frH [5,11,12,13,14,15,16,17,18,3,19,20,21,22] (fun n C=>∃(i:Nat),i≤ls.length∧n=ls.length-i∧C=[(11,.raw (.int .i64 (i:Nat))),(3,.i (lensV (ls.take i)))]) ls.length _ ⟨0,by omega,by omega,rfl⟩ (.cons rfl (.cons rfl .nil)) ?_
 rintro n C j ⟨i,hi,rfl,rfl⟩
 simp only[go_sem]
 refine brK_dec (fun hlt=>?_) (fun hge=>?_)
 ·
  simp only[go_sem]
  refine elemMap (by omega) (by omega) (fun x hx=>?_)
  rw[Int.toNat_natCast] at hx
  have ht:lensV (ls.take (i+1))=lensV (ls.take i)+x.length:=by
   unfold lensV
   rw[List.take_add_one,hx]
   simp
  have hle:lensV (ls.take (i+1))≤lensV ls:=take_flatten_le _ _
  simp only[go_sem]
  intro hxl
  rw[wrap_in _ (by omega) (by omega)]
  refine brK_dec (fun hneg=>?_) (fun _=>?_)
  ·
   omega
  ·
   simp only[go_sem]
   exact loopFrH (ls.length-(i+1)) (by omega) ⟨i+1,by omega,rfl,rfl⟩ (.next rfl (by omega) (.cons (by rw[ht];rfl) .nil)) rfl
 ·
  simp only[go_sem]
  rw[List.take_of_length_le (by omega)]
  refine grow_callV hl ?_
  simp only[go_sem]
  intro _
  refine loop_fr [8,27,28,29,30,31,32,33,6,34] (fun n C h=>∃(i:Nat),i≤ls.length∧n=ls.length-i∧C=[(27,.raw (.int .i64 (i:Nat))),(6,.lst 5 ((ls.take i).flatten.map (DVar.enc)) (some 0))]∧h=[.tok 45 5 (lensV (ls.take i))]) ls.length _ ⟨0,by omega,by omega,rfl,rfl⟩ (.cons rfl (.cons rfl .nil)) ?_
  rintro n C j' h ⟨i,hi,rfl,rfl,rfl⟩
  simp only[go_sem]
  refine brK_dec (fun hlt=>?_) (fun hge=>?_)
  ·
   simp only[go_sem]
   refine elemMap (by omega) (by omega) (fun x hx=>?_)
   rw[Int.toNat_natCast] at hx
   have ht:(ls.take (i+1)).flatten=(ls.take i).flatten++x:=by
    rw[List.take_add_one,hx]
    simp
   have hle:lensV (ls.take (i+1))≤lensV ls:=take_flatten_le _ _
   have hle':(ls.take i).flatten.length+x.length≤4294967296:=by
    have:lensV (ls.take (i+1))=(ls.take i).flatten.length+x.length:=by unfold lensV;rw[ht];simp
    omega
   simp only[go_sem]
   refine⟨⟨rfl,hle'⟩,?_⟩
   exact loopFr (ls.length-(i+1)) (by omega) ⟨i+1,by omega,rfl,rfl,by simp[lensV,ht]⟩ (.next rfl (by omega) (.cons (by rw[ht,List.map_append];rfl) .nil)) rfl
  ·
   simp only[go_sem]
   rw[List.take_of_length_le (by omega)]
   exact⟨_,rfl,false,.tok _ _ _⟩
theorem indexVar {l:List DVar} {p:DVar→Bool} {g:Nat} {first capt:List AV} {h:List Blk} {K:AV→List Blk→Prop} (hp:∀ x∈l,∀ K:AV→List Blk→Prop,K (.b (p x)) h→ACall Tryz.prog g (first++DVar.enc x::capt) h K)
  (hK:K (.i (idxOf p l)) h):ACall Tryz.prog 45 [.lst 5 (l.map (DVar.enc)) none,.fn (.func g) first capt] h K:=by
 refine acall_of_vc tabOK Tryz.func45 (by kernel_rfl) rfl (n:=19) rfl (rs:=[.tmp 4]) rfl ?_
 simp only[go_sem]
 intro hlen
 refine loop_frH [5,8,9,10,11,12,13,14,15,16,18] (fun n C=>∃(i:Nat),i≤l.length∧n=l.length-i∧(∀ x∈l.take i,p x=false)∧C=[(8,.raw (.int .i64 (i:Nat)))]) l.length _ ⟨0,by omega,by omega,by simp,rfl⟩ (.cons rfl .nil) ?_
 rintro n C j ⟨i,hi,rfl,hp0,rfl⟩
 simp only[go_sem]
 refine brK_dec (fun hlt=>?_) (fun hge=>?_)
 ·
  simp only[go_sem]
  refine elemMap (by omega) (by omega) (fun x hx=>?_)
  simp only[go_sem]
  refine hp x (List.mem_of_getElem? hx) _ ?_
  simp only[go_sem]
  cases hb:p x with
  | true =>
   simp only[go_sem]
   rw[idxOf_at hp0 hx hb] at hK
   exact finH1 rfl (.raw _) hK
  | false =>
   simp only[go_sem]
   exact loopFrH (l.length-(i+1)) (by omega) ⟨i+1,by omega,rfl,take_all hp0 (by rw[Int.toNat_natCast] at hx;exact hx) hb,rfl⟩ (.next rfl (by omega) .nil) rfl
 ·
  simp only[go_sem]
  rw[idxOf_none (take_full hp0 (by omega))] at hK
  exact finH1 rfl (.raw _) hK
abbrev allW (f:DFlow):List DVar:=[f.Ins,f.Outs,f.Vars].flatten
abbrev zeroV:DVar:=⟨⟨#[]⟩,⟨0,0,0⟩,[]⟩
def isVn (name:ByteArray) (d:DVar):Bool:=decide (d.Name=name)
def varF (name:ByteArray):List DVar→DVar × Bool
 | []=>(zeroV,false)
 | d::l=>if d.Name=name then(d,true) else varF name l
abbrev varA (p:DVar × Bool):AV:=.tup [p.1.enc,.b p.2]
theorem pure_varA (p:DVar × Bool):Go.Abs.Pure (varA p):=.tup _ (pure_cons (DVar.pure _) (pure_cons (.raw _) pure_nil))
theorem varF_eq (name:ByteArray) (l:List DVar):varF name l=match l.find? (isVn name) with|some d=>(d,true)|none=>(zeroV,false):=by
 induction l with
 | nil=>rfl
 | cons d l ih =>
  simp only[varF,List.find?_cons,isVn]
  by_cases h:d.Name=name
  ·
   simp[h]
  ·
   simp[h,ih,isVn]
theorem varF_next {name:ByteArray} {l:List DVar} {i:Nat} {x:DVar} (hx:l[((i:Int)).toNat]?=some x) (hn:¬ x.Name=name) {D:DVar × Bool} (hD:varF name (l.drop i)=D):varF name (l.drop (i+1))=D:=by
 rw[← hD]
 rw[Int.toNat_natCast] at hx
 obtain⟨hi,rfl⟩:=List.getElem?_eq_some_iff.1 hx
 rw[List.drop_eq_getElem_cons hi,varF,if_neg hn]
theorem varF_found {name:ByteArray} {l:List DVar} {i:Nat} {x:DVar} (hx:l[((i:Int)).toNat]?=some x) (hn:x.Name=name) {D:DVar × Bool} (hD:varF name (l.drop i)=D):D=(x,true):=by
 rw[← hD]
 rw[Int.toNat_natCast] at hx
 obtain⟨hi,rfl⟩:=List.getElem?_eq_some_iff.1 hx
 rw[List.drop_eq_getElem_cons hi,varF,if_pos hn]
theorem zero_varA {k:Option Nat}:Weak (.tup [.agg [.s ⟨#[]⟩,.i 0,.i 0,.i 0,.raw (.slice none 0 0)],.b false]) (varA (zeroV,false)):=by
 show Weak _ (.tup [zeroV.enc,.b false])
 rw[DVar.enc_eq]
 exact Weak.tups2 ⟨Weak.aggs ⟨.refl _,.refl _,.refl _,.refl _,.nil _,trivial⟩,.refl _,trivial⟩
theorem var18 (f:DFlow) (name:ByteArray) (hl:(allW f).length≤4294967296):PCall Tryz.prog 18 [f.enc,.s name] (varA (varF name (allW f))):=by
 refine pcall_of_vc tabOK Tryz.func18 (by kernel_rfl) rfl (by first|exact pureL|exact pureI) (pure_varA _) (n:=26) rfl (rs:=[.cell 4 45,.tmp 5]) rfl ?_
 simp only[go_sem]
 refine PCall.callW (concatV [f.Ins,f.Outs,f.Vars] hl) ⟨.tok _ _ _,trivial⟩ ?_
 simp only[go_sem]
 refine indexVar (p:=isVn name) (fun x hx K hK=>?_) ?_
 ·
  refine acall_of_vc tabOK Tryz.func46 (by kernel_rfl) rfl (n:=8) rfl (rs:=[.tmp 3]) rfl ?_
  simp only[go_sem]
  exact finH0 _ rfl (.raw _) hK
 have hd:=varF_eq name (allW f)
 rcases idxOf_cases (isVn name) (allW f) with ⟨h1,h2⟩|⟨i,x,h1,h2,h3,_,h4⟩
 ·
  rw[h1]
  rw[h2] at hd
  rw[hd]
  repeat' first
  | exact finB rfl
  | exact finI rfl
  | exact finP rfl
  | exact absurd rfl (by assumption)
  | simp only[go_sem]
  | (intro _)
  | refine brK_dec (fun _=>?_) (fun _=>?_)
  | refine brK_any ?_ ?_
  | refine gK_dec (fun _=>?_) (fun _=>?_)
  | refine gK_any ?_ ?_
  | refine gqK_dec (fun _=>?_) (fun _=>?_)
  | refine⟨by omega,?_⟩
  | refine elemHave (by omega) (by assumption) ?_
  | refine elemMap (by omega) (by omega) (fun x hx=>?_)
  | refine drawK mo (by kernel_rfl) ?_
  | omega
  | (exact⟨_,rfl,false,zero_varA (k:=none)⟩)
 ·
  rw[h1]
  rw[h3] at hd
  rw[hd]
  repeat' first
  | exact finB rfl
  | exact finI rfl
  | exact finP rfl
  | exact absurd rfl (by assumption)
  | simp only[go_sem]
  | (intro _)
  | refine brK_dec (fun _=>?_) (fun _=>?_)
  | refine brK_any ?_ ?_
  | refine gK_dec (fun _=>?_) (fun _=>?_)
  | refine gK_any ?_ ?_
  | refine gqK_dec (fun _=>?_) (fun _=>?_)
  | refine⟨by omega,?_⟩
  | refine elemHave (by omega) (by assumption) ?_
  | refine elemMap (by omega) (by omega) (fun x hx=>?_)
  | refine drawK mo (by kernel_rfl) ?_
  | exact⟨_,(by first|(simp only[go_sem];done)|(simp only[go_sem];exact rfl)|exact rfl),false,.refl _⟩
  | omega
  | (refine elemHave (by omega) (by rw[Int.toNat_natCast];exact h2) ?_)
theorem all14 (n:DFlow) (hl:(allW n).length≤4294967296):PCall Tryz.prog 14 [n.enc] (.lst 5 ((allW n).map DVar.enc) none):=by
 refine pcall_of_vc tabOK Tryz.func14 (by kernel_rfl) rfl pureL pureI (n:=13) rfl (rs:=[.tmp 2]) rfl ?_
 have hl':n.Ins.length+n.Outs.length+n.Vars.length≤4294967296:=by simpa[allW,Nat.add_assoc] using hl
 have e:(allW n).map DVar.enc=n.Ins.map DVar.enc++(n.Outs.map DVar.enc++n.Vars.map DVar.enc):=by simp[allW]
 repeat' first
  | exact finB rfl
  | exact finI rfl
  | exact finP rfl
  | exact absurd rfl (by assumption)
  | simp only[go_sem]
  | (intro _)
  | refine brK_dec (fun _=>?_) (fun _=>?_)
  | refine brK_any ?_ ?_
  | refine gK_dec (fun _=>?_) (fun _=>?_)
  | refine gK_any ?_ ?_
  | refine gqK_dec (fun _=>?_) (fun _=>?_)
  | refine⟨by omega,?_⟩
  | refine elemHave (by omega) (by assumption) ?_
  | refine elemMap (by omega) (by omega) (fun x hx=>?_)
  | refine drawK mo (by kernel_rfl) ?_
  | (refine⟨⟨by simp,by simp;omega⟩,?_⟩)
  | (rw[e];exact⟨_,rfl,false,.tok _ _ _⟩)
theorem var17 (n:DFlow) (name:ByteArray) (hl:(allW n).length≤4294967296):PCall Tryz.prog 17 [n.enc,.s name] (varA (varF name (allW n))):=by
 refine pcall_of_vc tabOK Tryz.func17 (by kernel_rfl) rfl (by first|exact pureL|exact pureI) (pure_varA _) (n:=28) rfl (rs:=[.cell 4 45,.tmp 5]) rfl ?_
 repeat' first
  | exact finB rfl
  | exact finI rfl
  | exact finP rfl
  | exact absurd rfl (by assumption)
  | simp only[go_sem]
  | (intro _)
  | refine brK_dec (fun _=>?_) (fun _=>?_)
  | refine brK_any ?_ ?_
  | refine gK_dec (fun _=>?_) (fun _=>?_)
  | refine gK_any ?_ ?_
  | refine gqK_dec (fun _=>?_) (fun _=>?_)
  | refine⟨by omega,?_⟩
  | refine elemHave (by omega) (by assumption) ?_
  | refine elemMap (by omega) (by omega) (fun x hx=>?_)
  | refine drawK mo (by kernel_rfl) ?_
  | (refine PCall.call (all14 n hl) ?_)
  | (rw[← hpi,List.drop_of_length_le (by omega)];simp only[varF];exact⟨_,rfl,false,zero_varA (k:=none)⟩)
  | (rw[varF_found (by assumption) (by assumption) hpi];exact⟨_,(by first|(simp only[go_sem];done)|(simp only[go_sem];exact rfl)|exact rfl),false,.refl _⟩)
  | exact loopFrH _ (by omega) ⟨i+1,by omega,rfl,varF_next (by assumption) (by assumption) hpi,rfl⟩ (.next rfl (by omega) .nil) rfl
  | (refine loop_frH [5,7,10,11,12,13,14,15,16,17,18,19,20,21,22,23,24,25,26] (fun mm_ CC_=>∃(i:Nat),i≤(allW n).length∧mm_=(allW n).length-i∧(varF name ((allW n).drop i)=varF name (allW n))∧CC_=[(7,.raw (.int .i64 ((i:Nat):Int)))]) ((allW n).length) _ ⟨0,by omega,by omega,rfl,rfl⟩ (.cons rfl .nil) ?_;rintro mm_ CC_ ji ⟨i,hi,rfl,hpi,rfl⟩)
end
end Go.Proofs.YtpamokpmlplopaaGreatDoor
namespace Go.Proofs.YtpamokpmlplopaaGreatDoor
open Go.Abs
set_option maxRecDepth 20000
set_option linter.unusedSimpArgs false
set_option linter.unusedVariables false
set_option maxHeartbeats 1000000
attribute [local irreducible] vc vcOps vcStep vcGuard prK hrK gK gsK brK callK ElemK SeqK BlockK ScopeK OpsK CallK LoopK LoopGo finPost ACall PCall PCallE BCall vqOps vqStep vqGuard qrK heK pcK gqK gqsK QOpsK qcallK DrawK
set_option maxHeartbeats 4000000 in
theorem law_reads21 (f:DFlow) (q:DPlain) (name:ByteArray) (h1:f.Ins.length≤140737488351232) (h2:f.Outs.length≤140737488351232) (h3:f.Vars.length≤140737488351232):PCall Tryz.prog 5 [f.enc,q.enc,.s name] (.b true):=by
 have hw1:IntKind.i64.wrap ((f.Ins.length:Int)+f.Outs.length)=(f.Ins.length:Int)+f.Outs.length:=wrap_in _ (by omega) (by omega)
 have hw2:IntKind.i64.wrap ((f.Ins.length:Int)+f.Outs.length+f.Vars.length)=(f.Ins.length:Int)+f.Outs.length+f.Vars.length:=wrap_in _ (by omega) (by omega)
 have hal:(allW f).length=f.Ins.length+(f.Outs.length+f.Vars.length):=by simp[allW]
 by_cases hg:q.Args.length≤30∧q.On.length≤30∧f.Ins.length+f.Outs.length+f.Vars.length≤100
 ·
  obtain⟨g1,g2,g3⟩:=hg
  have hv1:=var18 f name (by omega)
  have hv2:=var17 f name (by omega)
  generalize varF name (allW f)=V at hv1 hv2
  obtain⟨v,ok⟩:=V
  have hr1:=reads107 q (by omega)
  have hr2:=reads109 q (by omega)
  have hn:=namesStr (readsP q) (readsP q)
  have hc:=sameConds v.On v.On
  rw[eqB_eq rfl] at hn hc
  refine pcall_of_vc tabOK Tryz.func5 (by kernel_rfl) rfl (pure_cons (DFlow.pure _) (pure_cons (DPlain.pure _) (pure_cons (.raw _) pure_nil))) (.raw _) (n:=87) rfl (rs:=[.tmp 6]) rfl ?_
  cases ok<;>(repeat' first
   | simp only[go_sem,hw1,hw2]
   | (intro _)
   | simp only[beq_self_eq_true]
   | refine PCall.call live21 ?_
   | refine PCall.call hv1 ?_
   | refine PCall.call hv2 ?_
   | refine drawK mo (by kernel_rfl) ?_
   | refine pcK_of hr1 ?_
   | refine pcK_of hr2 ?_
   | refine pcK_of hn ?_
   | refine pcK_of hc ?_
   | refine pcK_of live21 ?_
   | refine gK_dec (fun _=>?_) (fun _=>?_)
   | refine gqK_dec (fun _=>?_) (fun _=>?_)
   | refine brK_dec (fun _=>?_) (fun _=>?_)
   | exact finBq rfl rfl
   | (exfalso;omega)
   | (exfalso;simp at *;done))
 ·
  refine pcall_of_vc tabOK Tryz.func5 (by kernel_rfl) rfl (pure_cons (DFlow.pure _) (pure_cons (DPlain.pure _) (pure_cons (.raw _) pure_nil))) (.raw _) (n:=87) rfl (rs:=[.tmp 6]) rfl ?_
  repeat' first
   | simp only[go_sem,hw1,hw2]
   | (intro _)
   | refine PCall.call live21 ?_
   | refine gK_dec (fun _=>?_) (fun _=>?_)
   | refine brK_dec (fun _=>?_) (fun _=>?_)
   | exact finBq rfl rfl
   | (exfalso;omega)
end Go.Proofs.YtpamokpmlplopaaGreatDoor
namespace Go.Abs
open Go.RowKit
section
variable {P:Program} {T:TypeId→TI} {H:Type} {enc:TypeId × Value→H} {w:World} {φ:Nat→Loc} {S:Addr→Prop}
def slBnd (M:Nat) (v:Value):Prop:=∀ a len cap,v=.slice a len cap→len≤M
theorem weightsEach_at:∀ {ts:List TypeId} {ds:List (DataW H)} {i:Nat} {t:TypeId} {d:DataW H},ts[i]?=some t→ds[i]?=some d→∀ x∈d.weights P t,x∈DataW.weightsEach P ts ds
 | [],_,_,_,_,h,_,_,_=>by simp at h
 | _::_,[],_,_,_,_,h,_,_=>by simp at h
 | t::ts,d::ds,0,_,_,h,h2,x,hx=>by
  simp at h h2
  subst h;subst h2
  rw[DataW.weightsEach]
  exact List.mem_append_left _ hx
 | t::ts,d::ds,i+1,_,_,h,h2,x,hx=>by
  rw[DataW.weightsEach]
  exact List.mem_append_right _ (weightsEach_at (by simpa using h) (by simpa using h2) x hx)
theorem slice_bnd {e t:TypeId} {base:Nat} {sp:Nat→Bool} {hd:Bool} {n:Nat} {v:Value} {x:DataW H × List MemPlace} (ht:P.underlying t=some (.slice e)) (h:DataW.trod enc P w base sp hd n t [v]=some x) (hb:0<P.bytesOf e)
  (hw:∀ y∈x.1.weights P t,y≤reachBytes):slBnd reachBytes v:=by
 rintro a len cap rfl
 cases n with
 | zero=>simp[DataW.trod] at h
 | succ n =>
  cases a with
  | none =>
   by_cases hz:len=0
   ·
    omega
   ·
    simp only[DataW.trod,ht] at h
    split at h<;>simp_all
  | some a =>
   simp only[DataW.trod,ht] at h
   split at h
   ·
    simp only[Option.bind_eq_some_iff] at h
    obtain⟨elems,hel,h⟩:=h
    obtain⟨hlen,_⟩:=mapM_at hel
    simp only[List.length_range] at hlen
    simp only[Option.map_eq_some_iff] at h
    obtain⟨rest,_,rfl⟩:=h
    have:=hw ((elems.length+rest.length) * P.bytesOf e) (by simp[DataW.weights,ht])
    have h2:elems.length * 1≤(elems.length+rest.length) * P.bytesOf e:=Nat.mul_le_mul (by omega) hb
    omega
   ·
    cases h
theorem struct_bnd {fs:Array Field} {t:TypeId} {base:Nat} {sp:Nat→Bool} {hd:Bool} {n:Nat} {cs:List Value} {x:DataW H × List MemPlace} (ht:P.underlying t=some (.struct fs)) (h:DataW.trod enc P w base sp hd n t cs=some x)
  (hw:∀ y∈x.1.weights P t,y≤reachBytes) {i:Nat} {f:Field} (hf:fs.toList[i]?=some f) {e:TypeId} (hfe:P.underlying f.type=some (.slice e)) (h1:P.cellsOf f.type=1) (hb:0<P.bytesOf e) {v:Value} (hv:cs[f.offset]?=some v):slBnd reachBytes v:=by
 cases n with
 | zero=>simp[DataW.trod] at h
 | succ n =>
  simp only[DataW.trod,ht] at h
  split at h
  ·
   simp only[Option.map_eq_some_iff] at h
   obtain⟨xs,hxs,rfl⟩:=h
   have key:∀(F:List Field) (xs:List (DataW H × List MemPlace)) (i:Nat),F.mapM (fun f=>DataW.trod enc P w base sp hd n f.type ((cs.drop f.offset).take (P.cellsOf f.type)))=some xs→F[i]?=some f→∃ y,xs[i]?=some y∧DataW.trod enc P w base sp hd n f.type ((cs.drop f.offset).take (P.cellsOf f.type))=some y:=by
    intro F
    induction F with
    | nil=>intro xs i _ hi;simp at hi
    | cons g F ih =>
     intro xs i hm hi
     rw[List.mapM_cons] at hm
     cases h0:DataW.trod enc P w base sp hd n g.type ((cs.drop g.offset).take (P.cellsOf g.type)) with
     | none=>simp[h0] at hm
     | some y =>
      cases h2:F.mapM (fun f=>DataW.trod enc P w base sp hd n f.type ((cs.drop f.offset).take (P.cellsOf f.type))) with
      | none=>simp[h0,h2] at hm
      | some ys =>
       simp[h0,h2] at hm
       subst hm
       cases i with
       | zero=>simp at hi;subst hi;exact⟨y,rfl,h0⟩
       | succ i =>
        obtain⟨z,z1,z2⟩:=ih ys i h2 (by simpa using hi)
        exact⟨z,by simpa using z1,z2⟩
   obtain⟨y,hy,hty⟩:=key _ _ _ hxs hf
   have hc:(cs.drop f.offset).take (P.cellsOf f.type)=[v]:=by
    rw[h1]
    obtain⟨hlt,rfl⟩:=List.getElem?_eq_some_iff.1 hv
    rw[List.drop_eq_getElem_cons hlt]
    rfl
   rw[hc] at hty
   refine slice_bnd hfe hty hb fun z hz=>hw z ?_
   simp only[DataW.weights,ht]
   exact weightsEach_at (i:=i) (by rw[List.getElem?_map,hf];rfl) (by rw[List.getElem?_map,hy];rfl) z hz
  ·
   cases h
theorem C.lst_len {sz:Nat} {es:List AV} {tok:Option Nat} {v:Value} (h:Go.Abs.C S w φ (.lst sz es tok) v) {M:Nat} (hb:slBnd M v):es.length≤M:=by
 cases h with
 | lst _ _ _ a len cap u hlen=>have:=hb _ _ _ rfl;omega
 | lstnil=>simp
def SzAll (P:Program) (T:TypeId→TI) (ts:List TypeId) (azs:List AV):Prop:=∀(j:Nat) t a,ts[j]?=some t→azs[j]?=some a→∀ fs,(T t).kind=.struct fs→∀(i off ft e:Nat),fs[i]?=some (off,ft)→(T ft).kind=.slice e→0<P.bytesOf e →
 ∀(sz:Nat) es tok,a.cells[off]?=some (.lst sz es tok)→es.length≤reachBytes
theorem trodAll_at {base:Nat} {sp:Nat→Bool} {hd:Bool}:∀ {us:List TypeId} {vs:List Value} {ds:List (DataW H)} {ps:List MemPlace} {j:Nat} {t:TypeId} {v:Value},DataW.TrodAll enc P w base sp hd us vs ds ps→us[j]?=some t→vs[j]?=some v→∃ d p,ds[j]?=some d∧DataW.Trod enc P w base sp hd t v d p
 | [],_,_,_,_,_,_,_,h,_=>by simp at h
 | u::us,vs,ds,ps,j,t,v,h,hu,hv=>by
  obtain⟨v1,vs1,d,ds1,a,b,rfl,rfl,rfl,h1,h2⟩:=ChangeShapes.trodAll_cons h
  cases j with
  | zero=>simp at hu hv;subst hu;subst hv;exact⟨d,a,rfl,h1⟩
  | succ j =>
   obtain⟨d',p',q1,q2⟩:=trodAll_at h2 (by simpa using hu) (by simpa using hv)
   exact⟨d',p',by simpa using q1,q2⟩
theorem tyAll_at:∀ {ts:List TypeId} {azs:List AV} {j:Nat} {t:TypeId} {a:AV},TyAll T ts azs→ts[j]?=some t→azs[j]?=some a→∃ n x,a=mkT (T t) x∧Ty T n t x
 | [],_,_,_,_,_,h,_=>by simp at h
 | u::us,azs,j,t,a,h,hu,hv=>by
  obtain⟨n,x,r,rfl,h1,h2⟩:=h
  cases j with
  | zero=>simp at hu hv;subst hu;subst hv;exact⟨n,x,rfl,h1⟩
  | succ j=>exact tyAll_at h2 (by simpa using hu) (by simpa using hv)
theorem sz_all (hT:TabOK P T) {ts:List TypeId} (hc:closedT T ts=true) {base:Nat} {sp:Nat→Bool} {hd:Bool} {us:List TypeId} {vs:List Value} {ds:List (DataW H)} {ps:List MemPlace} {azs:List AV} (hm:∀ t∈us,t∈ts)
  (h:DataW.TrodAll enc P w base sp hd us vs ds ps) (hty:TyAll T us azs) (hC:CAll S w φ azs vs.toArray) (hw:∀ y∈DataW.weightsEach P us ds,y≤reachBytes):SzAll P T us azs:=by
 intro j t a ht ha fs hfs i off ft e hf hft hb sz es tok hcell
 have htm:=hm t (List.mem_of_getElem? ht)
 have hct:=List.all_eq_true.1 hc t htm
 simp only[hfs,Bool.and_eq_true,List.all_eq_true,List.contains_iff_mem] at hct
 have hftm:=hct.1 _ (List.mem_of_getElem? hf)
 have hcf:=List.all_eq_true.1 hc ft hftm
 simp only[hft,Bool.and_eq_true,decide_eq_true_eq] at hcf
 obtain⟨v,hv,hCv⟩:=hC.at ha
 have hv':vs[j]?=some v:=by simpa using hv
 obtain⟨d,p,hd',n,htr⟩:=trodAll_at h ht hv'
 obtain⟨n',x,rfl,hx⟩:=tyAll_at hty ht ha
 have hagg:mkT (T t) x=.agg x:=by unfold mkT TI.agg;rw[hfs]
 obtain⟨i1,z1,_,_,_,_,_,_,_,_,_,hK⟩:=(hT t).known (by rw[hfs];simp)
 rw[hfs] at hK
 obtain⟨F,hF,hFf,_⟩:=hK
 obtain⟨f,hfi,hfo⟩:∃ f,F.toList[i]?=some f∧(f.offset,f.type)=(off,ft):=by
  rw[← hFf,List.getElem?_map] at hf
  cases hq:F.toList[i]? with
  | none=>rw[hq] at hf;cases hf
  | some f=>rw[hq] at hf;exact⟨f,rfl,Option.some.inj hf⟩
 cases hfo
 obtain⟨_,_,_,_,_,_,_,_,_,_,_,hK2⟩:=(hT f.type).known (by rw[hft];simp)
 rw[hft] at hK2
 have hcs:=hCv.cells (by rw[hagg];intro cs e;cases e)
 obtain⟨u,hu,hCu⟩:=hcs.at hcell
 refine C.lst_len hCu (struct_bnd hF htr (fun y hy=>hw y (weightsEach_at ht hd' y hy)) hfi hK2 ?_ hb (by simpa using hu))
 rw[cellsOf_eq hT (by rw[hft];simp)]
 exact hcf.2
theorem law_contractW {f:FuncId} {fn:Func} {s:ChangeSpec} {tb:TypeId} {ts:List TypeId} (hT:TabOK P T) (hc:closedT T ts=true) (hl:laidOutB P=true) (hpar:fn.params.toList.all (fun t=>ts.contains t&&P.readableRec t&&decide (t<P.types.size))=true)
  (hres:fn.resultTypes=#[tb]) (htb:P.underlying tb=some .bool) (hsv:s.vars=[]) (hs:∀ ds:List (DataW H),ds.length=fn.params.toList.length→(s.fn H ds).results=[.lit (.bool true)]∧(s.fn H ds).args=ds∧(s.fn H ds).vars=[])
  (hcall:∀ azs,TyAll T fn.params.toList azs→SzAll P T fn.params.toList azs→PCall P f azs (.raw (.bool true)))
  (W:World) (base:Nat) (args:Array Value) (ds gs:List (DataW H)) (before:List MemPlace) (hval:∀(j:Nat) t v,fn.params[j]?=some t→args[j]?=some v→Value.okWide P W .any base t v)
  (hW:DataW.Whole enc P fn.params.toList s.vars false W args.toList ds gs before) (hwt:(DataW.weightsEach P (fn.params.toList++s.plain.varTypes P) (ds++gs)).all (·≤reachBytes)=true) (htab:∀ x∈tabL,∃ cs t l,W.heap[x.1]?=some (.cells cs t l)∧x.2 cs) :
  Calls P f args W fun e W'=>∃ v,e=.returned v∧s.post enc P fn false true false false W args v W':=by
 have hW':=hW
 obtain⟨p,q,hA,hV,rfl,hfz,hnd⟩:=hW
 rw[hsv] at hV
 have hg:gs=[]∧q=[]:=by
  cases gs with
  | nil=>exact⟨rfl,hV⟩
  | cons g gs=>exact hV.elim
 obtain⟨rfl,rfl⟩:=hg
 have hm:∀ t∈fn.params.toList,t∈ts∧P.readableRec t=true∧t<P.types.size:=by
  intro t ht
  have:=List.all_eq_true.1 hpar t ht
  simp only[Bool.and_eq_true,List.contains_iff_mem,decide_eq_true_eq] at this
  exact⟨this.1.1,this.1.2,this.2⟩
 obtain⟨azs,k1,k2,k3⟩:=trodAll_vals (φ:=fun _=>.no) hT hc (fun t ht=>(hm t ht).1) (fun j t v hj hv=>hval j t v (by simpa using hj) (by simpa using hv)) hA
 have hws:∀ y∈DataW.weightsEach P fn.params.toList ds,y≤reachBytes:=by
  have key:∀(us vs:List TypeId) (ds:List (DataW H)),ds.length=us.length→∀ y∈DataW.weightsEach P us ds,y∈DataW.weightsEach P (us++vs) ds:=by
   intro us
   induction us with
   | nil=>intro vs ds hl y hy;simp[DataW.weightsEach] at hy
   | cons u us ih =>
    intro vs ds hl y hy
    cases ds with
    | nil=>simp at hl
    | cons d ds =>
     rw[List.cons_append,DataW.weightsEach]
     rw[DataW.weightsEach] at hy
     rcases List.mem_append.1 hy with hy|hy
     ·
      exact List.mem_append_left _ hy
     ·
      exact List.mem_append_right _ (ih vs ds (by simpa using hl) y hy)
  intro y hy
  rw[List.append_nil] at hwt
  exact of_decide_eq_true (List.all_eq_true.1 hwt y (key _ _ _ k3 y hy))
 obtain⟨_,_,h3⟩:=hcall azs k1 (sz_all hT hc (fun t ht=>(hm t ht).1) hA k1 k2 hws)
 obtain⟨_,hcalls⟩:=h3 (Old W) W args (fun a ha=>ha) (fun x hx=>⟨htab x hx,no_owns⟩) k2
 refine Calls.mono hcalls ?_
 rintro e W' ⟨v,S',rfl,hcv,hr,hx⟩
 cases hcv
 have hb:Below W.heap.size W W':=⟨hx.os,hx.tape,hx.output,hx.size,fun k hk=>hx.keep k hk no_owns⟩
 obtain⟨e1,e2,e3⟩:=hs ds k3
 refine⟨_,rfl,ds,[],_,[],p,[],hW',?_,?_,?_,hb.frame _,fun h=>by cases h⟩
 ·
  rw[List.append_nil,e1,hres]
  exact ChangeShapes.trodAll_mk1 (shut_bool htb true)
 ·
  rw[List.append_nil,e2]
  exact args_stay hl hb (fun t ht=>(hm t ht).2) (fun x hx=>hW'.lt x (by simp[hx])) hA
 ·
  rw[List.append_nil,e3,hsv]
  rfl
end
end Go.Abs
