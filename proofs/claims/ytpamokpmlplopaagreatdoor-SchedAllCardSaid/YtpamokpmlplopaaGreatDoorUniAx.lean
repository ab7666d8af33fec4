/-
  Sched2, Sched3, Sched4, Sched5, Sched8: put together.
-/
import Derived.Test.YtpamokpmlplopaaGreatDoorUniAh
import Derived.Test.YtpamokpmlplopaaGreatDoorUniAi
import Derived.Test.YtpamokpmlplopaaGreatDoorUniAl
import Derived.Test.YtpamokpmlplopaaGreatDoorUniAs
namespace Go.Proofs.YtpamokpmlplopaaGreatDoor
open Go.Abs
set_option maxRecDepth 20000
set_option linter.unusedSimpArgs false
set_option linter.unusedVariables false
set_option maxHeartbeats 1000000
attribute [local irreducible] vc vcOps vcStep vcGuard prK hrK gK gsK brK callK ElemK SeqK BlockK ScopeK OpsK CallK LoopK LoopGo finPost ACall PCall PCallE BCall vqOps vqStep vqGuard qrK heK pcK gqK gqsK QOpsK qcallK DrawK
def okArgs (q:DPlain) (i:Nat) (acc:List ByteArray):Prop:=acc=(if q.Kind=5 then [] else(q.Args.take i).map DAtom.Var)
theorem okArgs.zero {q:DPlain}:okArgs q 0 []:=by simp[okArgs]
theorem okArgs.next {q:DPlain} {i:Nat} {acc:List ByteArray} {x:DAtom} (h:okArgs q i acc) (hk:¬ q.Kind=5) (hx:q.Args[((i:Nat):Int).toNat]?=some x):okArgs q (i+1) (acc++[x.Var]):=by
 unfold okArgs at h ⊢
 rw[if_neg hk] at h ⊢
 rw[take_mapS hx,h]
theorem okArgs.done {q:DPlain} {i:Nat} {acc:List ByteArray} (h:okArgs q i acc) (hi:i≤q.Args.length) (he:¬ (i:Int)<q.Args.length∨¬ q.Kind≠5):acc=argsP q:=by
 unfold okArgs at h
 unfold argsP
 rw[h]
 by_cases e:q.Kind=5
 ·
  rw[if_pos e,if_pos e]
 ·
  rw[if_neg e,if_neg e,List.take_of_length_le (by omega)]
def okOn (q:DPlain) (i:Nat) (acc:List ByteArray):Prop:=acc=argsP q++((if q.Reset=true then [q.Every.Var] else [])++(q.On.take i).map DCond.Var)
theorem okOn.zeroT {q:DPlain} {i:Nat} {acc:List ByteArray} (h:okArgs q i acc) (hi:i≤q.Args.length) (he:¬ (i:Int)<q.Args.length∨¬ q.Kind≠5) (hr:q.Reset=true):okOn q 0 (acc++[q.Every.Var]):=by
 rw[okOn,h.done hi he,if_pos hr];simp
theorem okOn.zeroF {q:DPlain} {i:Nat} {acc:List ByteArray} (h:okArgs q i acc) (hi:i≤q.Args.length) (he:¬ (i:Int)<q.Args.length∨¬ q.Kind≠5) (hr:q.Reset=false):okOn q 0 acc:=by
 rw[okOn,h.done hi he,hr];simp
theorem okOn.next {q:DPlain} {i:Nat} {acc:List ByteArray} {x:DCond} (h:okOn q i acc) (hx:q.On[((i:Nat):Int).toNat]?=some x):okOn q (i+1) (acc++[x.Var]):=by
 unfold okOn at h ⊢
 rw[take_mapS hx,h]
 simp[List.append_assoc]
theorem okOn.done {q:DPlain} {i:Nat} {acc:List ByteArray} (h:okOn q i acc) (hi:¬ (i:Int)<q.On.length):acc=rawP q:=by
 rw[h,List.take_of_length_le (by omega)]
 rfl
def okF (l:List ByteArray) (k:Nat) (out:List ByteArray):Prop:=out=(l.take k).filter (fun s=>decide (¬ s=⟨#[]⟩))∧out.length≤k
theorem okF.zero {l:List ByteArray}:okF l 0 []:=⟨by simp,by simp⟩
theorem okF.next {l:List ByteArray} {k:Nat} {out:List ByteArray} {x:ByteArray} (h:okF l k out) (hx:l[((k:Nat):Int).toNat]?=some x) (hn:¬ x=⟨#[]⟩):okF l (k+1) (out++[x]) :=
 ⟨by rw[take_filtT hx (by simpa using hn),h.1],by have:=h.2;simp;omega⟩
theorem okF.skip {l:List ByteArray} {k:Nat} {out:List ByteArray} {x:ByteArray} (h:okF l k out) (hx:l[((k:Nat):Int).toNat]?=some x) (hn:¬ ¬ x=⟨#[]⟩):okF l (k+1) out :=
 ⟨by rw[take_filtF hx (by simpa using hn),h.1],by have:=h.2;omega⟩
theorem okF.done {l:List ByteArray} {k:Nat} {out:List ByteArray} {q:DPlain} (h:okF l k out) (hk:¬ (k:Int)<l.length) (hl:l=rawP q):readsP q=out:=by
 rw[h.1,List.take_of_length_le (by omega),hl]
 rfl
abbrev plainB (q:DPlain):Blk:=.cells 53 [.i q.Kind,.lst 1 (q.Names.map AV.s) none,.i q.Op,.lst 2 (q.Args.map DAtom.enc) none,.lst 1 (q.Init.map AV.i) none,.i q.Node,.b q.Reset,.s q.Every.Var,.i q.Every.N,.lst 2 (q.On.map DCond.enc) none]
theorem reads109 (q:DPlain) (hl:q.Args.length+q.On.length≤100000):PCall Tryz.prog 20 [q.enc] (.lst 1 ((readsP q).map AV.s) none):=by
 refine pcall_of_vc tabOK Tryz.func20 (by kernel_rfl) rfl pureL pureI (n:=74) rfl (rs:=[.tmp 2]) rfl ?_
 repeat' first
  | exact finB rfl
  | exact finI rfl
  | exact finP rfl
  | exact absurd rfl (by assumption)
  | simp only[go_sem]
  | (intro _)
  | refine brK_dec (fun _=>?_) (fun _=>?_)
  | refine brK_split (fun hb_=>?_) (fun hb_=>?_)
  | refine gK_dec (fun _=>?_) (fun _=>?_)
  | refine gK_split (fun hb_=>?_) (fun hb_=>?_)
  | refine gqK_dec (fun _=>?_) (fun _=>?_)
  | refine⟨by omega,?_⟩
  | refine elemHave (by omega) (by assumption) ?_
  | refine elemMap (by omega) (by omega) (fun x hx=>?_)
  | refine drawK mo (by kernel_rfl) ?_
  | (simp only[map_snoc])
  | (simp only[go_sem,at_app0,set_app0])
  | (refine⟨by first|omega|(simp only[List.length_append,List.length_map,List.length_cons,List.length_nil];omega),?_⟩)
  | ((fail_if_success (clear hraw));have hraw:=okOn.done hpj.1 (by assumption);have hrl:=raw_le q;rw[← hraw] at hrl)
  | exact loopFr _ (by omega) ⟨i+1,acc++[x.Var],_,by omega,rfl,⟨hpi.1.next (by assumption) (by assumption),by simp<;>omega⟩,rfl,(by first|rfl|(simp;done)|(simp;rfl))⟩ (.next rfl (by omega) (.cons (by first|rfl|(simp;done)|(simp;rfl)) .nil)) rfl
  | (refine loop_fr [3,4,9,10,11,12,13,14,15,16,17,18,19,20,21,22,23,24,25,26,27,28,29] (fun mm_ CC_ hh_=>∃(i:Nat) (acc:List ByteArray) (r_:List Blk),i≤q.Args.length∧mm_=q.Args.length-i∧(okArgs q i acc∧acc.length≤i)∧CC_=[(4,.raw (.int .i64 ((i:Nat):Int))),(3,.lst 1 (acc.map AV.s) (some 1))]∧hh_=plainB q::.tok 9 1 (acc.map AV.s).length::r_) (q.Args.length) _ ⟨0,[],_,by omega,by omega,⟨.zero,by simp⟩,rfl,(by first|rfl|(simp;done)|(simp;rfl))⟩ (.cons (by first|rfl|(simp;done)|(simp;rfl)) (.cons (by first|rfl|(simp;done)|(simp;rfl)) .nil)) ?_;rintro mm_ CC_ ji hh_ ⟨i,acc,ri,hi,rfl,hpi,rfl,rfl⟩)
  | exact loopFr _ (by omega) ⟨j+1,ac2++[x.Var],_,by omega,rfl,⟨hpj.1.next (by assumption),by simp<;>omega⟩,rfl,(by first|rfl|(simp;done)|(simp;rfl))⟩ (.next rfl (by omega) (.cons (by first|rfl|(simp;done)|(simp;rfl)) .nil)) rfl
  | (refine loop_fr [3,5,38,39,40,41,42,43,44,45,46,47,48,49,50,51,52,53] (fun mm_ CC_ hh_=>∃(j:Nat) (ac2:List ByteArray) (r_:List Blk),j≤q.On.length∧mm_=q.On.length-j∧(okOn q j ac2∧ac2.length≤q.Args.length+1+j)∧CC_=[(5,.raw (.int .i64 ((j:Nat):Int))),(3,.lst 1 (ac2.map AV.s) (some 1))]∧hh_=plainB q::.tok 9 1 (ac2.map AV.s).length::r_) (q.On.length) _ ⟨0,acc++[q.Every.Var],_,by omega,by omega,⟨.zeroT hpi.1 hi (by first|exact .inl (by assumption)|exact .inr (by assumption)) hb_,by simp<;>omega⟩,rfl,(by first|rfl|(simp;done)|(simp;rfl))⟩ (.cons (by first|rfl|(simp;done)|(simp;rfl)) (.cons (by first|rfl|(simp;done)|(simp;rfl)) .nil)) ?_;rintro mm_ CC_ jj hh_ ⟨j,ac2,rj,hj,rfl,hpj,rfl,rfl⟩)
  | exact loopFr _ (by omega) ⟨j+1,ac2++[x.Var],_,by omega,rfl,⟨hpj.1.next (by assumption),by simp<;>omega⟩,rfl,(by first|rfl|(simp;done)|(simp;rfl))⟩ (.next rfl (by omega) (.cons (by first|rfl|(simp;done)|(simp;rfl)) .nil)) rfl
  | (refine loop_fr [3,5,38,39,40,41,42,43,44,45,46,47,48,49,50,51,52,53] (fun mm_ CC_ hh_=>∃(j:Nat) (ac2:List ByteArray) (r_:List Blk),j≤q.On.length∧mm_=q.On.length-j∧(okOn q j ac2∧ac2.length≤q.Args.length+1+j)∧CC_=[(5,.raw (.int .i64 ((j:Nat):Int))),(3,.lst 1 (ac2.map AV.s) (some 1))]∧hh_=plainB q::.tok 9 1 (ac2.map AV.s).length::r_) (q.On.length) _ ⟨0,acc,_,by omega,by omega,⟨.zeroF hpi.1 hi (by first|exact .inl (by assumption)|exact .inr (by assumption)) hb_,by omega⟩,rfl,(by first|rfl|(simp;done)|(simp;rfl))⟩ (.cons (by first|rfl|(simp;done)|(simp;rfl)) (.cons (by first|rfl|(simp;done)|(simp;rfl)) .nil)) ?_;rintro mm_ CC_ jj hh_ ⟨j,ac2,rj,hj,rfl,hpj,rfl,rfl⟩)
  | (refine⟨by have:=hpk.2;omega,?_⟩)
  | (rw[hpk.done (by assumption) hraw];exact⟨_,rfl,false,.tok _ _ _⟩)
  | exact loopFr _ (by omega) ⟨k+1,out++[x],_,by omega,rfl,hpk.next (by assumption) (by assumption),rfl,(by first|rfl|(simp;done)|(simp;rfl))⟩ (.next rfl (by omega) (.cons (by first|rfl|(simp;done)|(simp;rfl)) .nil)) rfl
  | (refine loop_fr [6,7,55,56,57,58,59,60,61,62,63,64,65,66,67,68,69,70,71,72] (fun mm_ CC_ hh_=>∃(k:Nat) (out:List ByteArray) (r_:List Blk),k≤ac2.length∧mm_=ac2.length-k∧(okF ac2 k out)∧CC_=[(7,.raw (.int .i64 ((k:Nat):Int))),(6,.lst 1 (out.map AV.s) (some (rj.length+1+1)))]∧hh_=plainB q::.tok 9 1 (ac2.map AV.s).length::(rj++.tok 9 1 (out.map AV.s).length::r_)) (ac2.length) _ ⟨0,[],_,by omega,by omega,.zero,rfl,(by first|rfl|(simp;done)|(simp;rfl))⟩ (.cons (by first|rfl|(simp;done)|(simp;rfl)) (.cons (by first|rfl|(simp;done)|(simp;rfl)) .nil)) ?_;rintro mm_ CC_ jk hh_ ⟨k,out,rk,hk,rfl,hpk,rfl,rfl⟩)
  | exact loopFr _ (by omega) ⟨k+1,out,_,by omega,rfl,hpk.skip (by assumption) (by assumption),rfl,(by first|rfl|(simp;done)|(simp;rfl))⟩ (.next rfl (by omega) (.cons (by first|rfl|(simp;done)|(simp;rfl)) .nil)) rfl
  | (refine loop_fr [6,7,55,56,57,58,59,60,61,62,63,64,65,66,67,68,69,70,71,72] (fun mm_ CC_ hh_=>∃(k:Nat) (out:List ByteArray) (r_:List Blk),k≤ac2.length∧mm_=ac2.length-k∧(okF ac2 k out)∧CC_=[(7,.raw (.int .i64 ((k:Nat):Int))),(6,.lst 1 (out.map AV.s) (some (rj.length+1+1)))]∧hh_=plainB q::.tok 9 1 (ac2.map AV.s).length::(rj++.tok 9 1 (out.map AV.s).length::r_)) (ac2.length) _ ⟨0,[],_,by omega,by omega,.zero,rfl,(by first|rfl|(simp;done)|(simp;rfl))⟩ (.cons (by first|rfl|(simp;done)|(simp;rfl)) (.cons (by first|rfl|(simp;done)|(simp;rfl)) .nil)) ?_;rintro mm_ CC_ jk hh_ ⟨k,out,rk,hk,rfl,hpk,rfl,rfl⟩)
def addF (acc:List ByteArray) (m:ByteArray):List ByteArray:=if m=⟨#[]⟩ then acc else acc++[m]
theorem addF_filt (l:List ByteArray) (m:ByteArray):(l++[m]).filter (fun s=>decide (¬ s=⟨#[]⟩))=addF (l.filter (fun s=>decide (¬ s=⟨#[]⟩))) m:=by
 unfold addF
 rw[List.filter_append]
 by_cases e:m=⟨#[]⟩
 ·
  simp[e]
 ·
  simp[e]
theorem addF_le (l:List ByteArray) (m:ByteArray):(addF l m).length≤l.length+1:=by unfold addF;split<;>simp
def okN (q:DPlain) (i:Nat) (acc:List ByteArray):Prop:=acc=(if q.Kind=5 then [] else(q.Args.take i).map DAtom.Var).filter (fun s=>decide (¬ s=⟨#[]⟩))∧acc.length≤i
theorem okN.zero {q:DPlain}:okN q 0 []:=⟨by simp,by simp⟩
theorem okN.next {q:DPlain} {i:Nat} {acc:List ByteArray} {x:DAtom} (h:okN q i acc) (hk:¬ q.Kind=5) (hx:q.Args[((i:Nat):Int).toNat]?=some x):okN q (i+1) (addF acc x.Var):=by
 obtain⟨h1,h2⟩:=h
 refine⟨?_,by have:=addF_le acc x.Var;omega⟩
 rw[if_neg hk] at h1 ⊢
 rw[take_mapS hx,addF_filt,h1]
theorem okN.skip {q:DPlain} {i:Nat} {acc:List ByteArray} (h:okN q i acc) (hk:¬ q.Kind≠5):okN q (i+1) acc:=by
 obtain⟨h1,h2⟩:=h
 have hk':q.Kind=5:=by omega
 refine⟨?_,by omega⟩
 rw[if_pos hk'] at h1 ⊢
 exact h1
theorem okN.done {q:DPlain} {i:Nat} {acc:List ByteArray} (h:okN q i acc) (hi:¬ (i:Int)<q.Args.length):acc=(argsP q).filter (fun s=>decide (¬ s=⟨#[]⟩)):=by
 rw[h.1,List.take_of_length_le (by omega)]
 rfl
def okM (q:DPlain) (j:Nat) (acc:List ByteArray):Prop:=acc=(argsP q++((if q.Reset=true then [q.Every.Var] else [])++(q.On.take j).map DCond.Var)).filter (fun s=>decide (¬ s=⟨#[]⟩))∧acc.length≤q.Args.length+1+j
theorem okM.zeroT {q:DPlain} {i:Nat} {acc:List ByteArray} (h:okN q i acc) (hi:i≤q.Args.length) (he:¬ (i:Int)<q.Args.length) (hr:q.Reset=true):okM q 0 (addF acc q.Every.Var):=by
 refine⟨?_,by have:=addF_le acc q.Every.Var;have:=h.2;omega⟩
 rw[h.done he,if_pos hr,← addF_filt];simp
theorem okM.zeroF {q:DPlain} {i:Nat} {acc:List ByteArray} (h:okN q i acc) (hi:i≤q.Args.length) (he:¬ (i:Int)<q.Args.length) (hr:q.Reset=false):okM q 0 acc:=by
 refine⟨?_,by have:=h.2;omega⟩
 rw[h.done he,hr];simp
theorem okM.next {q:DPlain} {i:Nat} {acc:List ByteArray} {x:DCond} (h:okM q i acc) (hx:q.On[((i:Nat):Int).toNat]?=some x):okM q (i+1) (addF acc x.Var):=by
 refine⟨?_,by have:=addF_le acc x.Var;have:=h.2;omega⟩
 rw[take_mapS hx,h.1,← addF_filt]
 simp[List.append_assoc]
theorem okM.done {q:DPlain} {i:Nat} {acc:List ByteArray} (h:okM q i acc) (hi:¬ (i:Int)<q.On.length):readsP q=acc:=by
 rw[h.1,List.take_of_length_le (by omega)]
 rfl
abbrev accB (acc:List ByteArray):Blk:=.cells 46 [.lst 1 (acc.map AV.s) (some 2)]
theorem need140 (m:ByteArray) (b0:Blk) (acc:List ByteArray) (r:List Blk) {K:AV→List Blk→Prop} (hl:acc.length≤1000000) (hK:∀ r',K (.tup []) (b0::accB (addF acc m)::.tok 9 1 (addF acc m).length::r')) :
  ACall Tryz.prog 43 [.s m,.ptr 1 0] (b0::accB acc::.tok 9 1 acc.length::r) K:=by
 unfold addF at hK
 refine acallK_of_vc tabOK Tryz.func43 (by kernel_rfl) rfl (n:=9) rfl (rs:=[]) rfl ?_
 repeat' first
  | exact finB rfl
  | exact finI rfl
  | exact finP rfl
  | exact absurd rfl (by assumption)
  | simp only[go_sem]
  | (intro _)
  | refine brK_dec (fun _=>?_) (fun _=>?_)
  | refine brK_any ?_ ?_
  | refine gK_dec (fun _=>?_) (fun _=>?_)
  | refine gK_any ?_ ?_
  | refine gqK_dec (fun _=>?_) (fun _=>?_)
  | refine⟨by omega,?_⟩
  | refine elemHave (by omega) (by assumption) ?_
  | refine elemMap (by omega) (by omega) (fun x hx=>?_)
  | refine drawK mo (by kernel_rfl) ?_
  | (simp only[map_snoc])
  | (refine⟨⟨by simp,by simp;omega⟩,?_⟩)
  | (refine⟨by simp;omega,?_⟩)
  | (rw[if_neg (by assumption)] at hK;refine⟨[],rfl,.tup [],.refl _,?_⟩;have h9:=hK (r++[Blk.tok 9 1 1]);simpa[accB] using h9)
  | (rw[if_pos (Classical.not_not.1 (by assumption))] at hK;exact⟨[],rfl,.tup [],.refl _,hK _⟩)
theorem reads107 (q:DPlain) (hl:q.Args.length+q.On.length≤100000):PCall Tryz.prog 16 [q.enc] (.lst 1 ((readsP q).map AV.s) none):=by
 refine pcall_of_vc tabOK Tryz.func16 (by kernel_rfl) rfl pureL pureI (n:=45) rfl (rs:=[.tmp 2]) rfl ?_
 simp only[go_sem]
 intro _
 refine loop_ghost (ghost_cell (t:=46) (cs:=[.raw (.slice none 0 0)]) 1 0 9 1 (by rfl) (by rfl)) ?_
 repeat' first
  | exact finB rfl
  | exact finI rfl
  | exact finP rfl
  | exact absurd rfl (by assumption)
  | simp only[go_sem]
  | (intro _)
  | refine brK_dec (fun _=>?_) (fun _=>?_)
  | refine brK_split (fun hb_=>?_) (fun hb_=>?_)
  | refine gK_dec (fun _=>?_) (fun _=>?_)
  | refine gK_split (fun hb_=>?_) (fun hb_=>?_)
  | refine gqK_dec (fun _=>?_) (fun _=>?_)
  | refine⟨by omega,?_⟩
  | refine elemHave (by omega) (by assumption) ?_
  | refine elemMap (by omega) (by omega) (fun x hx=>?_)
  | refine drawK mo (by kernel_rfl) ?_
  | (rw[hpj.done (by assumption)];exact⟨_,rfl,false,.tok _ _ _⟩)
  | (refine need140 _ _ _ _ (by have:=hpi.2;omega) (fun r9=>?_))
  | (refine need140 _ _ _ _ (by have:=hpj.2;omega) (fun r9=>?_))
  | exact loopFr _ (by omega) ⟨i+1,addF acc x.Var,_,by omega,rfl,hpi.next (by assumption) (by assumption),rfl,(by first|rfl|(simp;done)|(simp;rfl))⟩ (.next rfl (by omega) .nil) rfl
  | (refine loop_fr [6,13,14,15,16,17,18,19,20,21,22,23,24] (fun mm_ CC_ hh_=>∃(i:Nat) (acc:List ByteArray) (r_:List Blk),i≤q.Args.length∧mm_=q.Args.length-i∧(okN q i acc)∧CC_=[(13,.raw (.int .i64 ((i:Nat):Int)))]∧hh_=plainB q::accB acc::.tok 9 1 acc.length::r_) (q.Args.length) _ ⟨0,[],_,by omega,by omega,.zero,rfl,(by first|rfl|(simp;done)|(simp;rfl))⟩ (.cons (by first|rfl|(simp;done)|(simp;rfl)) .nil) ?_;rintro mm_ CC_ ji hh_ ⟨i,acc,ri,hi,rfl,hpi,rfl,rfl⟩)
  | exact loopFr _ (by omega) ⟨i+1,acc,_,by omega,rfl,hpi.skip (by assumption),rfl,(by first|rfl|(simp;done)|(simp;rfl))⟩ (.next rfl (by omega) .nil) rfl
  | (refine loop_fr [6,13,14,15,16,17,18,19,20,21,22,23,24] (fun mm_ CC_ hh_=>∃(i:Nat) (acc:List ByteArray) (r_:List Blk),i≤q.Args.length∧mm_=q.Args.length-i∧(okN q i acc)∧CC_=[(13,.raw (.int .i64 ((i:Nat):Int)))]∧hh_=plainB q::accB acc::.tok 9 1 acc.length::r_) (q.Args.length) _ ⟨0,[],_,by omega,by omega,.zero,rfl,(by first|rfl|(simp;done)|(simp;rfl))⟩ (.cons (by first|rfl|(simp;done)|(simp;rfl)) .nil) ?_;rintro mm_ CC_ ji hh_ ⟨i,acc,ri,hi,rfl,hpi,rfl,rfl⟩)
  | exact loopFr _ (by omega) ⟨j+1,addF ac2 x.Var,_,by omega,rfl,hpj.next (by assumption),rfl,(by first|rfl|(simp;done)|(simp;rfl))⟩ (.next rfl (by omega) .nil) rfl
  | (refine loop_fr [8,35,36,37,38,39,40,41,42,43] (fun mm_ CC_ hh_=>∃(j:Nat) (ac2:List ByteArray) (r_:List Blk),j≤q.On.length∧mm_=q.On.length-j∧(okM q j ac2)∧CC_=[(35,.raw (.int .i64 ((j:Nat):Int)))]∧hh_=plainB q::accB ac2::.tok 9 1 ac2.length::r_) (q.On.length) _ ⟨0,addF acc q.Every.Var,_,by omega,by omega,.zeroT hpi hi (by assumption) hb_,rfl,(by first|rfl|(simp;done)|(simp;rfl))⟩ (.cons (by first|rfl|(simp;done)|(simp;rfl)) .nil) ?_;rintro mm_ CC_ jj hh_ ⟨j,ac2,rj,hj,rfl,hpj,rfl,rfl⟩)
  | exact loopFr _ (by omega) ⟨j+1,addF ac2 x.Var,_,by omega,rfl,hpj.next (by assumption),rfl,(by first|rfl|(simp;done)|(simp;rfl))⟩ (.next rfl (by omega) .nil) rfl
  | (refine loop_fr [8,35,36,37,38,39,40,41,42,43] (fun mm_ CC_ hh_=>∃(j:Nat) (ac2:List ByteArray) (r_:List Blk),j≤q.On.length∧mm_=q.On.length-j∧(okM q j ac2)∧CC_=[(35,.raw (.int .i64 ((j:Nat):Int)))]∧hh_=plainB q::accB ac2::.tok 9 1 ac2.length::r_) (q.On.length) _ ⟨0,acc,_,by omega,by omega,.zeroF hpi hi (by assumption) hb_,rfl,(by first|rfl|(simp;done)|(simp;rfl))⟩ (.cons (by first|rfl|(simp;done)|(simp;rfl)) .nil) ?_;rintro mm_ CC_ jj hh_ ⟨j,ac2,rj,hj,rfl,hpj,rfl,rfl⟩)
abbrev flowB (f:DFlow):Blk:=.cells 37 [.s f.Name,.lst 5 (f.Ins.map DVar.enc) none,.lst 5 (f.Outs.map DVar.enc) none,.lst 5 (f.Vars.map DVar.enc) none,.lst 10 (f.Eqs.map DPlain.enc) none]
theorem schedOf (f:DFlow) (hl:(namesP f).flatten.length≤100000) (b0:Blk) {K:AV→List Blk→Prop} (hK:∀ n m r,MapN m (fun s=>opn s (namesP f) (List.replicate (namesP f).length false))→K (.map 2) (b0::flowB f::.mp .str n m::r)) :
  ACall Tryz.prog 76 [f.enc] [b0] K:=by
 refine acallK_of_vc tabOK Tryz.func76 (by kernel_rfl) rfl (n:=30) rfl (rs:=[.tmp 2]) rfl ?_
 repeat' first
  | exact finB rfl
  | exact finI rfl
  | exact finP rfl
  | exact absurd rfl (by assumption)
  | simp only[go_sem]
  | (intro _)
  | refine brK_dec (fun _=>?_) (fun _=>?_)
  | refine brK_any ?_ ?_
  | refine gK_dec (fun _=>?_) (fun _=>?_)
  | refine gK_any ?_ ?_
  | refine gqK_dec (fun _=>?_) (fun _=>?_)
  | refine⟨by omega,?_⟩
  | refine elemHave (by omega) (by assumption) ?_
  | ((fail_if_success (clear hq));refine elemMap (by omega) (by omega) (fun q hq=>?_))
  | refine elemMap (by omega) (by omega) (fun x hx=>?_)
  | refine drawK mo (by kernel_rfl) ?_
  | (refine finK rfl (hK _ _ _ (hpi.cast fun s=>cnt_all (by rw[List.length_map];omega) s)))
  | (simp only[go_sem,hpj.at _])
  | exact loopFr _ (by omega) ⟨i+1,_,_,_,by omega,rfl,hpj.cast fun s=>cnt_step (map_some hq) (by omega) s,rfl,(by first|rfl|(simp;done)|(simp;rfl))⟩ (.next rfl (by omega) .nil) rfl
  | (refine loop_fr [5,7,12,13,14,15,16,17,18,19,20,21,22,23,24,25,26,27,28] (fun mm_ CC_ hh_=>∃(i:Nat) (n:Nat) (m:Value→Option AV) (r_:List Blk),i≤f.Eqs.length∧mm_=f.Eqs.length-i∧(MapN m (fun s=>cntL s ((namesP f).take i).flatten))∧CC_=[(12,.raw (.int .i64 ((i:Nat):Int)))]∧hh_=b0::flowB f::.mp .str n m::r_) (f.Eqs.length) _ ⟨0,_,_,_,by omega,by omega,MapN.nil,rfl,(by first|rfl|(simp;done)|(simp;rfl))⟩ (.cons (by first|rfl|(simp;done)|(simp;rfl)) .nil) ?_;rintro mm_ CC_ ji hh_ ⟨i,n,m,ri,hi,rfl,hpi,rfl,rfl⟩)
  | exact loopFr _ (by omega) ⟨j+1,_,_,_,by omega,rfl,hpj.upW (by assumption) (Nat.le_trans (cnt_bnd (map_some hq) _ _) (Nat.le_trans hl (by omega))),rfl,(by first|rfl|(simp;done)|(simp;rfl))⟩ (.next rfl (by omega) .nil) rfl
  | (refine loop_fr [7,19,20,21,22,23,24,25,26,27] (fun mm_ CC_ hh_=>∃(j:Nat) (n:Nat) (m:Value→Option AV) (r_:List Blk),j≤q.Names.length∧mm_=q.Names.length-j∧(MapN m (fun s=>cntL s ((namesP f).take i).flatten+cntL s (q.Names.take j)))∧CC_=[(19,.raw (.int .i64 ((j:Nat):Int)))]∧hh_=b0::flowB f::.mp .str n m::r_) (q.Names.length) _ ⟨0,_,_,_,by omega,by omega,hpi.cast fun s=>by simp[cntL],rfl,(by first|rfl|(simp;done)|(simp;rfl))⟩ (.cons (by first|rfl|(simp;done)|(simp;rfl)) .nil) ?_;rintro mm_ CC_ jj hh_ ⟨j,n,m,rj,hj,rfl,hpj,rfl,rfl⟩)
theorem ready69 (q:DPlain) (hl:q.Args.length+q.On.length≤100000) (b0 b1:Blk) (n:Nat) (m:Value→Option AV) (g:ByteArray→Nat) (hm:MapN m g) (r:List Blk) {K:AV→List Blk→Prop} (hK:K (.b (!(readsP q).any fun s=>decide ((g s:Int)>0))) (b0::b1::.mp .str n m::r)) :
  ACall Tryz.prog 77 [.map 2,q.enc] (b0::b1::.mp .str n m::r) K:=by
 refine acall_of_vc tabOK Tryz.func77 (by kernel_rfl) rfl (n:=10) rfl (rs:=[.tmp 4]) rfl ?_
 simp only[go_sem,at_app0]
 refine PCall.call (reads107 q hl) ?_
 simp only[go_sem,at_app0]
 refine contains106 (p:=fun s=>decide ((g s:Int)>0)) (fun x hx K hK=>?_) ?_
 ·
  refine acall_of_vc tabOK Tryz.func114 (by kernel_rfl) rfl (n:=8) rfl (rs:=[.tmp 3]) rfl ?_
  simp only[go_sem,at_app0,at_app,hm.at _]
  exact finH1 rfl (.raw _) hK
 ·
  simp only[go_sem,at_app0,at_app]
  exact finH0 (h:=b0::b1::.mp .str n m::r) _ rfl (.raw _) hK
theorem take_end {g b:ByteArray→Nat} {l:List ByteArray} {i:Nat} (h:∀ s,g s+cntL s (l.take i)=b s) (hi:¬ (i:Int)<l.length):∀ s,g s+cntL s l=b s:=by
 intro s
 have:=h s
 rw[List.take_of_length_le (by omega)] at this
 exact this
theorem place70 (q:DPlain) (b0 b1:Blk) (n:Nat) (m:Value→Option AV) (g:ByteArray→Nat) (hm:MapN m g) (hg:∀ s,cntL s q.Names≤g s) (hn:∀ s,g s≤1000000) (r:List Blk) {K:AV→List Blk→Prop}
  (hK:∀ n' m' g' r',MapN m' g'→(∀ s,g' s+cntL s q.Names=g s)→K (.tup []) (b0::b1::.mp .str n' m'::(r++r'))) :
  ACall Tryz.prog 78 [.map 2,q.enc] (b0::b1::.mp .str n m::r) K:=by
 refine acallK_of_vc tabOK Tryz.func78 (by kernel_rfl) rfl (n:=18) rfl (rs:=[]) rfl ?_
 repeat' first
  | exact finB rfl
  | exact finI rfl
  | exact finP rfl
  | exact absurd rfl (by assumption)
  | simp only[go_sem]
  | (intro _)
  | refine brK_dec (fun _=>?_) (fun _=>?_)
  | refine brK_any ?_ ?_
  | refine gK_dec (fun _=>?_) (fun _=>?_)
  | refine gK_any ?_ ?_
  | refine gqK_dec (fun _=>?_) (fun _=>?_)
  | refine⟨by omega,?_⟩
  | refine elemHave (by omega) (by assumption) ?_
  | refine elemMap (by omega) (by omega) (fun x hx=>?_)
  | refine drawK mo (by kernel_rfl) ?_
  | (simp only[go_sem,at_app0])
  | ((fail_if_success (clear h9));obtain⟨g9,h9,hs9⟩:=hpi)
  | (simp only[go_sem,at_app0,h9.at _])
  | (exact⟨[],rfl,.tup [],.refl _,hK _ _ g9 _ h9 (take_end hs9 (by assumption))⟩)
  | exact loopFr _ (by omega) ⟨i+1,_,_,_,by omega,rfl,h9.downW hs9 hg (by assumption) (hn _),rfl,(by first|rfl|(simp;done)|(simp;rfl))⟩ (.next rfl (by omega) .nil) rfl
  | (refine loop_fr [5,9,10,11,12,13,14,15,16,17] (fun mm_ CC_ hh_=>∃(i:Nat) (n9:Nat) (m9:Value→Option AV) (r_:List Blk),i≤q.Names.length∧mm_=q.Names.length-i∧((∃ g9,MapN m9 g9∧∀ s,g9 s+cntL s (q.Names.take i)=g s))∧CC_=[(9,.raw (.int .i64 ((i:Nat):Int)))]∧hh_=b0::b1::.mp .str n9 m9::(r++r_)) (q.Names.length) _ ⟨0,_,_,_,by omega,by omega,⟨g,hm,fun s=>by simp[cntL]⟩,rfl,(by first|rfl|(simp;done)|(simp;rfl))⟩ (.cons (by first|rfl|(simp;done)|(simp;rfl)) .nil) ?_;rintro mm_ CC_ ji hh_ ⟨i,n9,m9,ri,hi,rfl,hpi,rfl,rfl⟩)
abbrev hangsP (f:DFlow):List (List ByteArray):=f.Eqs.map readsP
def okFlow (f:DFlow):Prop:=f.Eqs.length≤2700∧∀ q∈f.Eqs,q.Names.length≤20∧q.Args.length≤1001∧q.On.length≤1000
theorem okFlow.reads {f:DFlow} {q:DPlain} {i:Nat} (h:okFlow f) (hq:f.Eqs[i]?=some q):q.Args.length+q.On.length≤100000:=by
 have:=h.2 q (List.mem_of_getElem? hq);omega
theorem ready71 (f:DFlow) (hf:okFlow f) (pl:List Bool) (i:Nat) (hl:pl.length=f.Eqs.length) (hi:i<f.Eqs.length) {h:List Blk} {k:Nat} {K:AV→List Blk→Prop} (hb:blkCells h k=some (pl.map AV.b)) (hK:K (.b (readyF (namesP f) (hangsP f) pl i)) h) :
  ACall Tryz.prog 115 [f.enc,.sl 1 k 0 pl.length,.i (i:Int)] h K:=by
 obtain⟨t,hb'⟩:=blk_at hb
 obtain⟨q,hq⟩:∃ q,f.Eqs[((i:Nat):Int).toNat]?=some q:=⟨_,List.getElem?_eq_getElem (by rw[Int.toNat_natCast];omega)⟩
 have hpx:pl[i]?=some pl[i]:=List.getElem?_eq_getElem (by omega)
 generalize pl[i]=b at hpx
 have hh:(hangsP f)[i]?=some (readsP q):=map_some hq
 refine acall_of_vc tabOK Tryz.func115 (by kernel_rfl) rfl (n:=33) rfl (rs:=[.tmp 6]) rfl ?_
 simp only[go_sem]
 repeat' first
  | exact finB rfl
  | exact finI rfl
  | exact finP rfl
  | exact absurd rfl (by assumption)
  | simp only[go_sem]
  | (intro _)
  | refine brK_dec (fun _=>?_) (fun _=>?_)
  | refine brK_any ?_ ?_
  | refine gK_dec (fun _=>?_) (fun _=>?_)
  | refine gK_any ?_ ?_
  | refine gqK_dec (fun _=>?_) (fun _=>?_)
  | refine⟨by omega,?_⟩
  | refine elemHave (by omega) (by assumption) ?_
  | refine elemMap (by omega) (by omega) (fun x hx=>?_)
  | refine drawK mo (by kernel_rfl) ?_
  | (simp only[go_sem,at_app0])
  | (refine PCall.call (reads109 q (hf.reads hq)) ?_)
  | (refine pcK_ofR (v:=.b (waitsF (namesP f) pl x)) (fun h9 K9 hm9 hk9=>waits110 f pl x hl (hm9.cells (blk_app hb)) hk9) ?_;generalize hw:waitsF (namesP f) pl x=w;cases w)
  | (rw[ready_wait hh (List.mem_of_getElem? hx) hw] at hK;exact finH0 _ rfl (.raw _) hK)
  | (simp only[go_sem,at_old hb',Nat.zero_add,Nat.mul_one,Int.toNat_natCast,dropB hpx])
  | (rw[ready_not hpx] at hK;exact finH0 _ rfl (.raw _) hK)
  | (rw[ready_yes hpx hh (take_full hpj (by omega))] at hK;exact finH0 _ rfl (.raw _) hK)
  | exact loopFrH _ (by omega) ⟨j+1,by omega,rfl,take_all hpj (by simpa using hx) hw,rfl⟩ (.next rfl (by omega) .nil) rfl
  | (refine loop_frH [6,8,15,16,17,18,19,20,21,22,23,24,25,26,27] (fun mm_ CC_=>∃(j:Nat),j≤(readsP q).length∧mm_=(readsP q).length-j∧(∀ s∈(readsP q).take j,waitsF (namesP f) pl s=false)∧CC_=[(8,.raw (.int .i64 ((j:Nat):Int)))]) ((readsP q).length) _ ⟨0,by omega,by omega,by simp,rfl⟩ (.cons rfl .nil) ?_;rintro mm_ CC_ jj ⟨j,hj,rfl,hpj,rfl⟩)
  | (cases b)
theorem ext_DPlain {x y:DPlain} (h0:x.Kind=y.Kind) (h1:x.Names=y.Names) (h2:x.Op=y.Op) (h3:x.Args=y.Args) (h4:x.Init=y.Init) (h5:x.Node=y.Node) (h6:x.Reset=y.Reset) (h7:x.Every=y.Every) (h8:x.On=y.On):x=y:=by cases x;cases y;simp_all
theorem ext_DVar {x y:DVar} (h0:x.Name=y.Name) (h1:x.Ty=y.Ty) (h2:x.On=y.On):x=y:=by cases x;cases y;simp_all
theorem ext_DFlow {x y:DFlow} (h0:x.Name=y.Name) (h1:x.Ins=y.Ins) (h2:x.Outs=y.Outs) (h3:x.Vars=y.Vars) (h4:x.Eqs=y.Eqs):x=y:=by cases x;cases y;simp_all
theorem sameAtoms (l m:List DAtom):PCall Tryz.prog 30 [.lst 2 (l.map (DAtom.enc)) none,.lst 2 (m.map (DAtom.enc)) none] (.b (eqB l m)):=by
 refine pcall_of_vc tabOK Tryz.func30 (by kernel_rfl) rfl pureL pureI (n:=26) rfl (rs:=[.tmp 4]) rfl ?_
 repeat' first
  | exact finB rfl
  | exact finI rfl
  | exact finP rfl
  | exact absurd rfl (by assumption)
  | simp only[go_sem]
  | (intro _)
  | refine brK_dec (fun _=>?_) (fun _=>?_)
  | refine brK_any ?_ ?_
  | refine gK_dec (fun _=>?_) (fun _=>?_)
  | refine gK_any ?_ ?_
  | refine gqK_dec (fun _=>?_) (fun _=>?_)
  | refine⟨by omega,?_⟩
  | refine elemHave (by omega) (by assumption) ?_
  | refine elemMap (by omega) (by omega) (fun x hx=>?_)
  | refine drawK mo (by kernel_rfl) ?_
  | (rw[eqB_ne (len_ne (l:=l) (m:=m) (by omega))];exact⟨_,rfl,false,.refl _⟩)
  | (rw[eqB_ne (at_ne (l:=l) (m:=m) (i:=i) (by assumption) (by assumption) (by assumption))];exact⟨_,rfl,false,.refl _⟩)
  | (rw[eqB_eq (take_eq_full (l:=l) (m:=m) (i:=i) (by omega) hpi (by omega))];exact⟨_,rfl,false,.refl _⟩)
  | exact loopFrH _ (by omega) ⟨i+1,by omega,rfl,take_eq_step hpi (by assumption) (by assumption) (by assumption),rfl⟩ (.next rfl (by omega) .nil) rfl
  | (refine loop_frH [4,5,11,12,13,14,15,16,17,18,19,20,21,22,23,24,25] (fun mm_ CC_=>∃(i:Nat),i≤l.length∧mm_=l.length-i∧(l.take i=m.take i)∧CC_=[(5,.raw (.int .i64 ((i:Nat):Int)))]) (l.length) _ ⟨0,by omega,by omega,rfl,rfl⟩ (.cons rfl .nil) ?_;rintro mm_ CC_ ji ⟨i,hi,rfl,hpi,rfl⟩)
theorem sameConds (l m:List DCond):PCall Tryz.prog 21 [.lst 2 (l.map (DCond.enc)) none,.lst 2 (m.map (DCond.enc)) none] (.b (eqB l m)):=by
 refine pcall_of_vc tabOK Tryz.func21 (by kernel_rfl) rfl pureL pureI (n:=26) rfl (rs:=[.tmp 4]) rfl ?_
 repeat' first
  | exact finB rfl
  | exact finI rfl
  | exact finP rfl
  | exact absurd rfl (by assumption)
  | simp only[go_sem]
  | (intro _)
  | refine brK_dec (fun _=>?_) (fun _=>?_)
  | refine brK_any ?_ ?_
  | refine gK_dec (fun _=>?_) (fun _=>?_)
  | refine gK_any ?_ ?_
  | refine gqK_dec (fun _=>?_) (fun _=>?_)
  | refine⟨by omega,?_⟩
  | refine elemHave (by omega) (by assumption) ?_
  | refine elemMap (by omega) (by omega) (fun x hx=>?_)
  | refine drawK mo (by kernel_rfl) ?_
  | (rw[eqB_ne (len_ne (l:=l) (m:=m) (by omega))];exact⟨_,rfl,false,.refl _⟩)
  | (rw[eqB_ne (at_ne (l:=l) (m:=m) (i:=i) (by assumption) (by assumption) (by assumption))];exact⟨_,rfl,false,.refl _⟩)
  | (rw[eqB_eq (take_eq_full (l:=l) (m:=m) (i:=i) (by omega) hpi (by omega))];exact⟨_,rfl,false,.refl _⟩)
  | exact loopFrH _ (by omega) ⟨i+1,by omega,rfl,take_eq_step hpi (by assumption) (by assumption) (by assumption),rfl⟩ (.next rfl (by omega) .nil) rfl
  | (refine loop_frH [4,5,11,12,13,14,15,16,17,18,19,20,21,22,23,24,25] (fun mm_ CC_=>∃(i:Nat),i≤l.length∧mm_=l.length-i∧(l.take i=m.take i)∧CC_=[(5,.raw (.int .i64 ((i:Nat):Int)))]) (l.length) _ ⟨0,by omega,by omega,rfl,rfl⟩ (.cons rfl .nil) ?_;rintro mm_ CC_ ji ⟨i,hi,rfl,hpi,rfl⟩)
theorem sameVals (l m:List Int):PCall Tryz.prog 109 [.lst 1 (l.map (AV.i)) none,.lst 1 (m.map (AV.i)) none] (.b (eqB l m)):=by
 refine pcall_of_vc tabOK Tryz.func109 (by kernel_rfl) rfl pureL pureI (n:=26) rfl (rs:=[.tmp 4]) rfl ?_
 repeat' first
  | exact finB rfl
  | exact finI rfl
  | exact finP rfl
  | exact absurd rfl (by assumption)
  | simp only[go_sem]
  | (intro _)
  | refine brK_dec (fun _=>?_) (fun _=>?_)
  | refine brK_any ?_ ?_
  | refine gK_dec (fun _=>?_) (fun _=>?_)
  | refine gK_any ?_ ?_
  | refine gqK_dec (fun _=>?_) (fun _=>?_)
  | refine⟨by omega,?_⟩
  | refine elemHave (by omega) (by assumption) ?_
  | refine elemMap (by omega) (by omega) (fun x hx=>?_)
  | refine drawK mo (by kernel_rfl) ?_
  | (rw[eqB_ne (len_ne (l:=l) (m:=m) (by omega))];exact⟨_,rfl,false,.refl _⟩)
  | (rw[eqB_ne (at_ne (l:=l) (m:=m) (i:=i) (by assumption) (by assumption) (by assumption))];exact⟨_,rfl,false,.refl _⟩)
  | (rw[eqB_eq (take_eq_full (l:=l) (m:=m) (i:=i) (by omega) hpi (by omega))];exact⟨_,rfl,false,.refl _⟩)
  | exact loopFrH _ (by omega) ⟨i+1,by omega,rfl,take_eq_step hpi (by assumption) (by assumption) (by assumption),rfl⟩ (.next rfl (by omega) .nil) rfl
  | (refine loop_frH [4,5,11,12,13,14,15,16,17,18,19,20,21,22,23,24,25] (fun mm_ CC_=>∃(i:Nat),i≤l.length∧mm_=l.length-i∧(l.take i=m.take i)∧CC_=[(5,.raw (.int .i64 ((i:Nat):Int)))]) (l.length) _ ⟨0,by omega,by omega,rfl,rfl⟩ (.cons rfl .nil) ?_;rintro mm_ CC_ ji ⟨i,hi,rfl,hpi,rfl⟩)
theorem samePlain73 (x y:DPlain):PCall Tryz.prog 69 [x.enc,y.enc] (.b (eqB x y)):=by
 refine pcall_of_vc tabOK Tryz.func69 (by kernel_rfl) rfl pureL pureI (n:=66) rfl (rs:=[.tmp 4]) rfl ?_
 repeat' first
  | exact finB rfl
  | exact finI rfl
  | exact finP rfl
  | exact absurd rfl (by assumption)
  | simp only[go_sem]
  | (intro _)
  | refine brK_dec (fun _=>?_) (fun _=>?_)
  | refine brK_split (fun hb_=>?_) (fun hb_=>?_)
  | refine gK_dec (fun _=>?_) (fun _=>?_)
  | refine gK_split (fun hb_=>?_) (fun hb_=>?_)
  | refine gqK_dec (fun _=>?_) (fun _=>?_)
  | refine⟨by omega,?_⟩
  | refine elemHave (by omega) (by assumption) ?_
  | refine elemMap (by omega) (by omega) (fun x hx=>?_)
  | refine drawK mo (by kernel_rfl) ?_
  | (rw[eqB_ne (by rintro rfl;first|contradiction|simp at hb_)];exact⟨_,rfl,false,.refl _⟩)
  | (rw[eqB_eq (ext_DPlain (by first|assumption|exact Classical.not_not.1 (by assumption)|exact eq_of_beq hb_) (by first|assumption|exact Classical.not_not.1 (by assumption)|exact eq_of_beq hb_) (by first|assumption|exact Classical.not_not.1 (by assumption)|exact eq_of_beq hb_) (by first|assumption|exact Classical.not_not.1 (by assumption)|exact eq_of_beq hb_) (by first|assumption|exact Classical.not_not.1 (by assumption)|exact eq_of_beq hb_) (by first|assumption|exact Classical.not_not.1 (by assumption)|exact eq_of_beq hb_) (by first|assumption|exact Classical.not_not.1 (by assumption)|exact eq_of_beq hb_) (by first|assumption|exact Classical.not_not.1 (by assumption)|exact eq_of_beq hb_) (by first|assumption|exact Classical.not_not.1 (by assumption)|exact eq_of_beq hb_))];exact⟨_,rfl,false,.refl _⟩)
  | (refine PCall.call (namesStr _ _) ?_;generalize he:eqB (α:=List ByteArray) _ _=b;cases b<;>first|replace he:=eqB_t he|replace he:=eqB_f he)
  | (refine PCall.call (sameAtoms _ _) ?_;generalize he:eqB (α:=List DAtom) _ _=b;cases b<;>first|replace he:=eqB_t he|replace he:=eqB_f he)
  | (refine PCall.call (sameVals _ _) ?_;generalize he:eqB (α:=List Int) _ _=b;cases b<;>first|replace he:=eqB_t he|replace he:=eqB_f he)
  | (refine PCall.call (sameConds _ _) ?_;generalize he:eqB (α:=List DCond) _ _=b;cases b<;>first|replace he:=eqB_t he|replace he:=eqB_f he)
theorem sameVars72 (l m:List DVar):PCall Tryz.prog 68 [.lst 5 (l.map DVar.enc) none,.lst 5 (m.map DVar.enc) none] (.b (eqB l m)):=by
 refine pcall_of_vc tabOK Tryz.func68 (by kernel_rfl) rfl pureL pureI (n:=55) rfl (rs:=[.tmp 4]) rfl ?_
 repeat' first
  | exact finB rfl
  | exact finI rfl
  | exact finP rfl
  | exact absurd rfl (by assumption)
  | simp only[go_sem]
  | (intro _)
  | refine brK_dec (fun _=>?_) (fun _=>?_)
  | refine brK_split (fun hb_=>?_) (fun hb_=>?_)
  | refine gK_dec (fun _=>?_) (fun _=>?_)
  | refine gK_split (fun hb_=>?_) (fun hb_=>?_)
  | refine gqK_dec (fun _=>?_) (fun _=>?_)
  | refine⟨by omega,?_⟩
  | refine elemHave (by omega) (by assumption) ?_
  | refine elemMap (by omega) (by omega) (fun x hx=>?_)
  | refine drawK mo (by kernel_rfl) ?_
  | (rw[eqB_ne (len_ne (by omega))];exact⟨_,rfl,false,.refl _⟩)
  | (rw[eqB_ne (at_ne' (l:=l) (m:=m) (i:=i) (by assumption) (by assumption) (by rintro rfl;contradiction))];exact⟨_,rfl,false,.refl _⟩)
  | (rw[eqB_eq (take_eq_full (i:=i) (by omega) hpi (by omega))];exact⟨_,rfl,false,.refl _⟩)
  | (refine pcK_of (sameConds _ _) ?_;generalize he:eqB (α:=List DCond) _ _=b;cases b<;>first|replace he:=eqB_t he|replace he:=eqB_f he)
  | exact loopFrH _ (by omega) ⟨i+1,by omega,rfl,take_eq_step' hpi (by assumption) (by assumption) (ext_DVar (by first|assumption|exact Classical.not_not.1 (by assumption)|exact eq_of_beq hb_) (by first|assumption|exact Classical.not_not.1 (by assumption)|exact eq_of_beq hb_) (by first|assumption|exact Classical.not_not.1 (by assumption)|exact eq_of_beq hb_)),rfl⟩ (.next rfl (by omega) .nil) rfl
  | (refine loop_frH [4,5,11,12,13,14,15,16,17,18,19,20,21,22,23,24,25,26,27,28,29,30,31,32,33,34,35,36,37,38,39,40,41,42,43,44,45,46,47,48,49,50,51,52,53,54] (fun mm_ CC_=>∃(i:Nat),i≤l.length∧mm_=l.length-i∧(l.take i=m.take i)∧CC_=[(5,.raw (.int .i64 ((i:Nat):Int)))]) (l.length) _ ⟨0,by omega,by omega,rfl,rfl⟩ (.cons rfl .nil) ?_;rintro mm_ CC_ ji ⟨i,hi,rfl,hpi,rfl⟩)
theorem sameFlow34 (a b:DFlow):PCall Tryz.prog 38 [a.enc,b.enc] (.b (eqB a b)):=by
 refine pcall_of_vc tabOK Tryz.func38 (by kernel_rfl) rfl pureL pureI (n:=63) rfl (rs:=[.tmp 4]) rfl ?_
 repeat' first
  | exact finB rfl
  | exact finI rfl
  | exact finP rfl
  | exact absurd rfl (by assumption)
  | simp only[go_sem]
  | (intro _)
  | refine brK_dec (fun _=>?_) (fun _=>?_)
  | refine brK_split (fun hb_=>?_) (fun hb_=>?_)
  | refine gK_dec (fun _=>?_) (fun _=>?_)
  | refine gK_split (fun hb_=>?_) (fun hb_=>?_)
  | refine gqK_dec (fun _=>?_) (fun _=>?_)
  | refine⟨by omega,?_⟩
  | refine elemHave (by omega) (by assumption) ?_
  | refine elemMap (by omega) (by omega) (fun x hx=>?_)
  | refine drawK mo (by kernel_rfl) ?_
  | (rw[eqB_ne (by rintro rfl;first|contradiction|simp at hb_)];exact⟨_,rfl,false,.refl _⟩)
  | (rw[eqB_ne (fun h=>len_ne (by omega) (congrArg DFlow.Eqs h))];exact⟨_,rfl,false,.refl _⟩)
  | (rw[eqB_ne (fun h=>at_ne' (l:=a.Eqs) (m:=b.Eqs) (i:=i) (by assumption) (by assumption) (by assumption) (congrArg DFlow.Eqs h))];exact⟨_,rfl,false,.refl _⟩)
  | (rw[eqB_eq (ext_DFlow (by first|assumption|exact Classical.not_not.1 (by assumption)|exact eq_of_beq hb_) (by first|assumption|exact Classical.not_not.1 (by assumption)|exact eq_of_beq hb_) (by first|assumption|exact Classical.not_not.1 (by assumption)|exact eq_of_beq hb_) (by first|assumption|exact Classical.not_not.1 (by assumption)|exact eq_of_beq hb_) (take_eq_full (i:=i) (by omega) hpi (by omega)))];exact⟨_,rfl,false,.refl _⟩)
  | (refine PCall.call (sameVars72 _ _) ?_;generalize he:eqB (α:=List DVar) _ _=b;cases b<;>first|replace he:=eqB_t he|replace he:=eqB_f he)
  | (refine pcK_of (samePlain73 _ _) ?_;generalize he:eqB (α:=DPlain) _ _=b;cases b<;>first|replace he:=eqB_t he|replace he:=eqB_f he)
  | exact loopFrH _ (by omega) ⟨i+1,by omega,rfl,take_eq_step' hpi (by assumption) (by assumption) (by assumption),rfl⟩ (.next rfl (by omega) .nil) rfl
  | (refine loop_frH [4,5,44,45,46,47,48,49,50,51,52,53,54,55,56,57,58,59,60,61,62] (fun mm_ CC_=>∃(i:Nat),i≤a.Eqs.length∧mm_=a.Eqs.length-i∧(a.Eqs.take i=b.Eqs.take i)∧CC_=[(5,.raw (.int .i64 ((i:Nat):Int)))]) (a.Eqs.length) _ ⟨0,by omega,by omega,rfl,rfl⟩ (.cons rfl .nil) ?_;rintro mm_ CC_ ji ⟨i,hi,rfl,hpi,rfl⟩)
end Go.Proofs.YtpamokpmlplopaaGreatDoor
