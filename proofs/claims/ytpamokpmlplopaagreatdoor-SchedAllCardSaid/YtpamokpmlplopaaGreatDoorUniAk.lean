/-
  Reads2, Reads3, Late, Late2, Start, NmC: put together.
-/
import Derived.Test.YtpamokpmlplopaaGreatDoorUniAd
import Derived.Test.YtpamokpmlplopaaGreatDoorUniAg
import Derived.Test.YtpamokpmlplopaaGreatDoorUniAh
namespace Go.Proofs.YtpamokpmlplopaaGreatDoor
open Go.Abs
set_option maxRecDepth 20000
set_option linter.unusedSimpArgs false
set_option linter.unusedVariables false
set_option maxHeartbeats 1000000
attribute [local irreducible] vc vcOps vcStep vcGuard prK hrK gK gsK brK callK ElemK SeqK BlockK ScopeK OpsK CallK LoopK LoopGo finPost ACall PCall PCallE BCall vqOps vqStep vqGuard qrK heK pcK gqK gqsK QOpsK qcallK DrawK
abbrev exB (e:Ex):Blk:=.cells 72 [.i e.kind,.i e.n,.s e.name,.i e.op,.lst 1 (e.arms.map AV.s) none,.lst 6 (e.subs.map Ex.enc) none]
theorem reads42:∀(e:Ex),(readsF e).length≤100000→PCall Tryz.prog 203 [e.enc] (.lst 1 ((readsF e).map AV.s) none):=by
 intro e
 induction e using Ex.ind with
 | _ e ih =>
 intro hl
 refine pcall_of_vc tabOK Tryz.func203 (by kernel_rfl) rfl pureL pureI (n:=41) rfl (rs:=[.tmp 2]) rfl ?_
 rw[readsF_eq] at hl ⊢
 repeat' first|simp only[go_sem]|(intro _)|refine⟨by omega,?_⟩|refine brK_dec (fun _=>?_) (fun _=>?_)|refine gqK_dec (fun _=>?_) (fun _=>?_)|refine gK_dec (fun _=>?_) (fun _=>?_)
 iterate 3
  ·
   have hk:keepK e.kind e.subs=e.subs:=by simp[keepK, *]
   have hm:mineK e.kind e.name=[e.name]:=by simp[mineK, *]
   rw[hk,hm] at hl ⊢
   refine loop_fr [3,6,31,32,33,34,35,36,37,38,39] (fun m C h=>∃(i:Nat) (b:Blk) (r:List Blk),i≤e.subs.length∧m=e.subs.length-i ∧
    C=[(31,.raw (.int .i64 (i:Nat))),(3,.lst 1 (([e.name]++readsL (e.subs.take i)).map AV.s) (some 2))] ∧
    h=.cells 72 [.i e.kind,.i e.n,.s e.name,.i e.op,.lst 1 (e.arms.map AV.s) none,.lst 6 (e.subs.map Ex.enc) none]::b::.tok 9 1 ([e.name]++readsL (e.subs.take i)).length::r)
    (e.subs.length) _ ⟨0,_,_,by omega,rfl,rfl,by simp[readsL];exact⟨rfl,rfl⟩⟩ (.cons rfl (.cons (by simp[readsL]) .nil)) ?_
   rintro m C j h ⟨i,b,r,hi,rfl,rfl,rfl⟩
   simp only[go_sem]
   refine brK_dec (fun hlt=>?_) (fun hge=>?_)
   ·
    have hlt':i<e.subs.length:=by omega
    have h1:=reads_le hlt'
    have h2:=readsL_le (l:=e.subs) (k:=i+1)
    have h3:=readsL_take hlt'
    have hl':=hl
    rw[h3] at h2
    simp only[List.length_append,List.length_cons,List.length_nil] at hl' h1 h2
    simp only[go_sem]
    refine elemK (e.subs[i]).enc (by omega) (map_at _ (List.getElem?_eq_getElem hlt')) ?_
    simp only[go_sem]
    refine PCall.call (ih e.subs[i] (List.getElem_mem _) (by omega)) ?_
    simp only[go_sem]
    refine⟨by omega,?_⟩
    refine loopFr (e.subs.length-(i+1)) (by omega) ⟨i+1,b,r++[exB e.subs[i]],by omega,rfl,rfl,?_⟩ (.next rfl (by omega) (.cons ?_ .nil)) rfl
    ·
     rw[h3];simp[slot];try rfl
    ·
     rw[h3];simp[slot]
   ·
    rw[List.take_of_length_le (by omega)]
    simp only[go_sem]
    exact⟨_,rfl,false,.tok _ _ _⟩
 ·
  have hk:keepK e.kind e.subs=[]:=by simp[keepK, *]
  have hm:mineK e.kind e.name=[]:=by simp[mineK, *]
  rw[hk,hm,readsL]
  refine loop_frH [3,6,31,32,33,34,35,36,37,38,39] (fun m C=>C=[(31,.raw (.int .i64 0)),(3,.raw (.slice none 0 0))]) 0 _ rfl (.cons rfl (.cons rfl .nil)) ?_
  rintro m C j rfl
  simp only[go_sem]
  exact⟨_,rfl,false,.nil _⟩
 ·
  have hmem:∀ x,x∈List.take (if(e.subs.length:Int)<1 then(e.subs.length:Int) else 1).toNat e.subs→x∈e.subs:=fun x hx=>List.mem_of_mem_take hx
  have hk:keepK e.kind e.subs=List.take (if(e.subs.length:Int)<1 then(e.subs.length:Int) else 1).toNat e.subs:=by
   by_cases h:(e.subs.length:Int)<1
   ·
    have:e.subs=[]:=List.length_eq_zero_iff.1 (by omega)
    simp[keepK, *]
   ·
    simp[keepK,h, *]
  generalize List.take (if(e.subs.length:Int)<1 then(e.subs.length:Int) else 1).toNat e.subs=S at *
  have hm:mineK e.kind e.name=[]:=by simp[mineK, *]
  rw[hk,hm,List.nil_append] at hl ⊢
  refine loop_ghost (ghost_own 3 9 1 rfl) ?_
  simp only[go_sem]
  refine loop_fr [3,6,31,32,33,34,35,36,37,38,39] (fun m C h=>∃(i:Nat) (r:List Blk),i≤S.length∧m=S.length-i ∧
   C=[(31,.raw (.int .i64 (i:Nat))),(3,.own 1 1 ((readsL (S.take i)).map AV.s).length)]∧h=exB e::.own 9 1 ((readsL (S.take i)).map AV.s)::r)
   S.length _ ⟨0,[],by omega,rfl,rfl,rfl⟩ (.cons rfl (.cons rfl .nil)) ?_
  rintro m C j h ⟨i,r,hi,rfl,rfl,rfl⟩
  simp only[go_sem]
  refine brK_dec (fun hlt=>?_) (fun hge=>?_)
  ·
   have hlt':i<S.length:=by omega
   have h1:=reads_le hlt'
   have h2:=readsL_le (l:=S) (k:=i+1)
   have h3:=readsL_take hlt'
   rw[h3] at h2
   simp only[List.length_append] at h1 h2
   simp only[go_sem]
   refine elemK (S[i]).enc (by omega) (map_at _ (List.getElem?_eq_getElem hlt')) ?_
   simp only[go_sem]
   refine PCall.call (ih S[i] (hmem _ (List.getElem_mem _)) (by omega)) ?_
   simp only[go_sem]
   refine⟨by first|omega|(simp;omega),?_⟩
   refine loopFr (S.length-(i+1)) (by omega) ⟨i+1,r++[exB S[i]],by omega,rfl,rfl,?_⟩ (.next rfl (by omega) (.cons ?_ .nil)) rfl
   ·
    rw[h3];simp;try rfl
   ·
    rw[h3];simp[slot];try omega
  ·
   rw[List.take_of_length_le (by omega)]
   simp only[go_sem]
   refine⟨_,rfl,true,?_⟩
   have hz:∀ R:List Blk,frz (exB e::.own 9 1 ((readsL S).map AV.s)::R) (.own 1 1 (readsL S).length)=.lst 1 ((readsL S).map AV.s) none:=by
    intro R
    simp[frz]
   show Weak (frz (exB e::.own 9 1 ((readsL S).map AV.s)::r) (.own 1 1 (readsL S).length)) _
   rw[hz]
   exact .refl _
 ·
  have hmem:∀ x,x∈e.subs→x∈e.subs:=fun x hx=>hx
  have hk:keepK e.kind e.subs=e.subs:=by simp[keepK, *]
  have hm:mineK e.kind e.name=[]:=by simp[mineK, *]
  rw[hk,hm,List.nil_append] at hl ⊢
  refine loop_ghost (ghost_own 3 9 1 rfl) ?_
  simp only[go_sem]
  refine loop_fr [3,6,31,32,33,34,35,36,37,38,39] (fun m C h=>∃(i:Nat) (r:List Blk),i≤e.subs.length∧m=e.subs.length-i ∧
   C=[(31,.raw (.int .i64 (i:Nat))),(3,.own 1 1 ((readsL (e.subs.take i)).map AV.s).length)]∧h=exB e::.own 9 1 ((readsL (e.subs.take i)).map AV.s)::r)
   e.subs.length _ ⟨0,[],by omega,rfl,rfl,rfl⟩ (.cons rfl (.cons rfl .nil)) ?_
  rintro m C j h ⟨i,r,hi,rfl,rfl,rfl⟩
  simp only[go_sem]
  refine brK_dec (fun hlt=>?_) (fun hge=>?_)
  ·
   have hlt':i<e.subs.length:=by omega
   have h1:=reads_le hlt'
   have h2:=readsL_le (l:=e.subs) (k:=i+1)
   have h3:=readsL_take hlt'
   rw[h3] at h2
   simp only[List.length_append] at h1 h2
   simp only[go_sem]
   refine elemK (e.subs[i]).enc (by omega) (map_at _ (List.getElem?_eq_getElem hlt')) ?_
   simp only[go_sem]
   refine PCall.call (ih e.subs[i] (hmem _ (List.getElem_mem _)) (by omega)) ?_
   simp only[go_sem]
   refine⟨by first|omega|(simp;omega),?_⟩
   refine loopFr (e.subs.length-(i+1)) (by omega) ⟨i+1,r++[exB e.subs[i]],by omega,rfl,rfl,?_⟩ (.next rfl (by omega) (.cons ?_ .nil)) rfl
   ·
    rw[h3];simp;try rfl
   ·
    rw[h3];simp[slot];try omega
  ·
   rw[List.take_of_length_le (by omega)]
   simp only[go_sem]
   refine⟨_,rfl,true,?_⟩
   have hz:∀ R:List Blk,frz (exB e::.own 9 1 ((readsL e.subs).map AV.s)::R) (.own 1 1 (readsL e.subs).length)=.lst 1 ((readsL e.subs).map AV.s) none:=by
    intro R
    simp[frz]
   show Weak (frz (exB e::.own 9 1 ((readsL e.subs).map AV.s)::r) (.own 1 1 (readsL e.subs).length)) _
   rw[hz]
   exact .refl _
theorem pure_flat_strs (l:List ByteArray):∀ c∈flat (l.map AV.s),Go.Abs.Pure c:=by
 have:=pure_strs l
 cases this with
 | lst _ _ h=>exact h
theorem reads43T (e:Ex) (hl:(readsF e).length≤100000) {h:List Blk} {K:AV→List Blk→Prop} (hK:K (.lst 1 ((readsF e).map AV.s) (some h.length)) (h++[.tok 9 1 (readsF e).length])):ACall Tryz.prog 193 [e.enc] h K:=by
 refine tcall (e:=9) (sz:=1) (l:=(readsF e).map AV.s) (fun KK hk0=>acallT_of_vc tabOK Tryz.func193 (by kernel_rfl) rfl (n:=52) rfl (rs:=[.tmp 2]) rfl (e:=9) (sz:=1) (l:=(readsF e).map AV.s) ?_) (pure_cons (pure_enc e) pure_nil) (pure_flat_strs _) (by simpa using hK)
 have hpl:=pure_flat_strs (readsF e)
 clear hK
 rw[readsF_eq] at hl hpl hk0 ⊢
 repeat' first|simp only[go_sem]|refine⟨by omega,?_⟩|refine brK_dec (fun _=>?_) (fun _=>?_)|refine gqK_dec (fun _=>?_) (fun _=>?_)|refine gK_dec (fun _=>?_) (fun _=>?_)
 all_goals
  refine loop_fr [3,4,24,25,26,27,28,29,30,31,32,33,34,35,36,37,38,39,40,41,42,43,44,45,46,47,48,49,50] (fun m C h=>∃(i:Nat) (r:List Blk),i≤e.subs.length∧m=e.subs.length-i ∧
   C=[(4,.raw (.int .i64 (i:Nat))),(3,.lst 1 ((mineK e.kind e.name++readsL ((keepK e.kind e.subs).take i)).map AV.s) (some 1))] ∧
   h=.cells 72 [.i e.kind,.i e.n,.s e.name,.i e.op,.lst 1 (e.arms.map AV.s) none,.lst 6 (e.subs.map Ex.enc) none]::.tok 9 1 (mineK e.kind e.name++readsL ((keepK e.kind e.subs).take i)).length::r)
   (e.subs.length) _ ⟨0,_,by omega,rfl,rfl,by simp[mineK,readsL, *];rfl⟩ (.cons rfl (.cons (by simp[mineK,readsL, *]) .nil)) ?_
  rintro m C j h ⟨i,r,hi,rfl,rfl,rfl⟩
  simp only[go_sem]
  have hkl:=keep_le e.kind e.subs
  repeat' first|simp only[go_sem]|(intro _)|refine⟨by omega,?_⟩|refine brK_dec (fun _=>?_) (fun _=>?_)|refine gqK_dec (fun _=>?_) (fun _=>?_)|refine gK_dec (fun _=>?_) (fun _=>?_)
  all_goals first
   | (rw[List.take_of_length_le (keep_end (by omega))];exact finTk (k:=1) hk0 rfl rfl rfl (by simp) hpl)
   | (have hend:(keepK e.kind e.subs).length≤i:=keep_end (by omega)
      exact loopFr (e.subs.length-(i+1)) (by omega) ⟨i+1,r,by omega,rfl,rfl,by rw[List.take_of_length_le hend,List.take_of_length_le (by omega)]⟩ (.next rfl (by omega) (.cons (by rw[List.take_of_length_le hend,List.take_of_length_le (by omega)];rfl) .nil)) rfl)
   | (have hlt:i<(keepK e.kind e.subs).length:=keep_go (by assumption) (by first|exact Or.inl (by assumption)|exact Or.inr (by assumption)) (by assumption)
      have hlt':i<e.subs.length:=by omega
      have h1:=reads_le hlt
      have h2:=readsL_le (l:=keepK e.kind e.subs) (k:=i+1)
      have h3:=readsL_take hlt
      rw[keep_at hlt] at h1 h3
      have hl':=hl
      rw[h3] at h2
      simp only[List.length_append] at hl' h1 h2
      refine elemK (e.subs[i]).enc (by omega) (map_at _ (List.getElem?_eq_getElem hlt')) ?_
      simp only[go_sem]
      refine PCall.call (reads43 e.subs[i] (by omega)) ?_
      simp only[go_sem]
      refine⟨by omega,?_⟩
      refine loopFr (e.subs.length-(i+1)) (by omega) ⟨i+1,r,by omega,rfl,rfl,?_⟩ (.next rfl (by omega) (.cons ?_ .nil)) rfl
      ·
       rw[h3];simp[slot];try omega
      ·
       rw[h3];simp[slot])
theorem reads42T (e:Ex) (hl:(readsF e).length≤100000) {h:List Blk} {K:AV→List Blk→Prop} (hK:K (.lst 1 ((readsF e).map AV.s) (some h.length)) (h++[.tok 9 1 (readsF e).length])):ACall Tryz.prog 203 [e.enc] h K:=by
 refine tcall (e:=9) (sz:=1) (l:=(readsF e).map AV.s) (fun KK hk0=>acallT_of_vc tabOK Tryz.func203 (by kernel_rfl) rfl (n:=41) rfl (rs:=[.tmp 2]) rfl (e:=9) (sz:=1) (l:=(readsF e).map AV.s) ?_) (pure_cons (pure_enc e) pure_nil) (pure_flat_strs _) (by simpa using hK)
 have hpl:=pure_flat_strs (readsF e)
 clear hK
 rw[readsF_eq] at hl hpl hk0 ⊢
 repeat' first|simp only[go_sem]|(intro _)|refine⟨by omega,?_⟩|refine brK_dec (fun _=>?_) (fun _=>?_)|refine gqK_dec (fun _=>?_) (fun _=>?_)|refine gK_dec (fun _=>?_) (fun _=>?_)
 iterate 3
  ·
   have hk:keepK e.kind e.subs=e.subs:=by simp[keepK, *]
   have hm:mineK e.kind e.name=[e.name]:=by simp[mineK, *]
   rw[hk,hm] at hl hpl hk0 ⊢
   refine loop_fr [3,6,31,32,33,34,35,36,37,38,39] (fun m C h=>∃(i:Nat) (b:Blk) (r:List Blk),i≤e.subs.length∧m=e.subs.length-i ∧
    C=[(31,.raw (.int .i64 (i:Nat))),(3,.lst 1 (([e.name]++readsL (e.subs.take i)).map AV.s) (some 2))] ∧
    h=exB e::b::.tok 9 1 ([e.name]++readsL (e.subs.take i)).length::r)
    (e.subs.length) _ ⟨0,_,_,by omega,rfl,rfl,by simp[readsL];exact⟨rfl,rfl⟩⟩ (.cons rfl (.cons (by simp[readsL]) .nil)) ?_
   rintro m C j h ⟨i,b,r,hi,rfl,rfl,rfl⟩
   simp only[go_sem]
   refine brK_dec (fun hlt=>?_) (fun hge=>?_)
   ·
    have hlt':i<e.subs.length:=by omega
    have h1:=reads_le hlt'
    have h2:=readsL_le (l:=e.subs) (k:=i+1)
    have h3:=readsL_take hlt'
    have hl':=hl
    rw[h3] at h2
    simp only[List.length_append,List.length_cons,List.length_nil] at hl' h1 h2
    simp only[go_sem]
    refine elemK (e.subs[i]).enc (by omega) (map_at _ (List.getElem?_eq_getElem hlt')) ?_
    simp only[go_sem]
    refine PCall.call (reads42 e.subs[i] (by omega)) ?_
    simp only[go_sem]
    refine⟨by omega,?_⟩
    refine loopFr (e.subs.length-(i+1)) (by omega) ⟨i+1,b,r++[exB e.subs[i]],by omega,rfl,rfl,?_⟩ (.next rfl (by omega) (.cons ?_ .nil)) rfl
    ·
     rw[h3];simp[slot];try rfl
    ·
     rw[h3];simp[slot]
   ·
    rw[List.take_of_length_le (by omega)]
    simp only[go_sem]
    exact finTk (k:=2) hk0 rfl rfl rfl (by simp) hpl
 ·
  have hk:keepK e.kind e.subs=[]:=by simp[keepK, *]
  have hm:mineK e.kind e.name=[]:=by simp[mineK, *]
  rw[hk,hm,readsL] at hl hpl hk0 ⊢
  refine loop_ghost (ghost_tok 3 9 1 rfl) ?_
  simp only[go_sem]
  refine loop_frH [3,6,31,32,33,34,35,36,37,38,39] (fun m C=>C=[(31,.raw (.int .i64 0)),(3,.lst 1 [] (some 1))]) 0 _ rfl (.cons rfl (.cons rfl .nil)) ?_
  rintro m C j rfl
  simp only[go_sem]
  exact finTk (k:=1) hk0 rfl rfl rfl (by simp) hpl
 ·
  have hk:keepK e.kind e.subs=List.take (if(e.subs.length:Int)<1 then(e.subs.length:Int) else 1).toNat e.subs:=by
   by_cases h:(e.subs.length:Int)<1
   ·
    have:e.subs=[]:=List.length_eq_zero_iff.1 (by omega)
    simp[keepK, *]
   ·
    simp[keepK,h, *]
  generalize List.take (if(e.subs.length:Int)<1 then(e.subs.length:Int) else 1).toNat e.subs=S at *
  have hm:mineK e.kind e.name=[]:=by simp[mineK, *]
  rw[hk,hm,List.nil_append] at hl hpl hk0 ⊢
  refine loop_ghost (ghost_tok 3 9 1 rfl) ?_
  simp only[go_sem]
  refine loop_fr [3,6,31,32,33,34,35,36,37,38,39] (fun m C h=>∃(i:Nat) (r:List Blk),i≤S.length∧m=S.length-i ∧
   C=[(31,.raw (.int .i64 (i:Nat))),(3,.lst 1 ((readsL (S.take i)).map AV.s) (some 1))]∧h=exB e::.tok 9 1 (readsL (S.take i)).length::r)
   S.length _ ⟨0,[],by omega,rfl,rfl,rfl⟩ (.cons rfl (.cons rfl .nil)) ?_
  rintro m C j h ⟨i,r,hi,rfl,rfl,rfl⟩
  simp only[go_sem]
  refine brK_dec (fun hlt=>?_) (fun hge=>?_)
  ·
   have hlt':i<S.length:=by omega
   have h1:=reads_le hlt'
   have h2:=readsL_le (l:=S) (k:=i+1)
   have h3:=readsL_take hlt'
   rw[h3] at h2
   simp only[List.length_append] at h1 h2
   simp only[go_sem]
   refine elemK (S[i]).enc (by omega) (map_at _ (List.getElem?_eq_getElem hlt')) ?_
   simp only[go_sem]
   refine PCall.call (reads42 S[i] (by omega)) ?_
   simp only[go_sem]
   refine⟨by first|omega|(simp;omega),?_⟩
   refine loopFr (S.length-(i+1)) (by omega) ⟨i+1,r++[exB S[i]],by omega,rfl,rfl,?_⟩ (.next rfl (by omega) (.cons ?_ .nil)) rfl
   ·
    rw[h3];simp;try rfl
   ·
    rw[h3];simp[slot];try omega
  ·
   rw[List.take_of_length_le (by omega)]
   simp only[go_sem]
   exact finTk (k:=1) hk0 rfl rfl rfl (by simp) hpl
 ·
  have hk:keepK e.kind e.subs=e.subs:=by simp[keepK, *]
  have hm:mineK e.kind e.name=[]:=by simp[mineK, *]
  rw[hk,hm,List.nil_append] at hl hpl hk0 ⊢
  refine loop_ghost (ghost_tok 3 9 1 rfl) ?_
  simp only[go_sem]
  refine loop_fr [3,6,31,32,33,34,35,36,37,38,39] (fun m C h=>∃(i:Nat) (r:List Blk),i≤e.subs.length∧m=e.subs.length-i ∧
   C=[(31,.raw (.int .i64 (i:Nat))),(3,.lst 1 ((readsL (e.subs.take i)).map AV.s) (some 1))]∧h=exB e::.tok 9 1 (readsL (e.subs.take i)).length::r)
   e.subs.length _ ⟨0,[],by omega,rfl,rfl,rfl⟩ (.cons rfl (.cons rfl .nil)) ?_
  rintro m C j h ⟨i,r,hi,rfl,rfl,rfl⟩
  simp only[go_sem]
  refine brK_dec (fun hlt=>?_) (fun hge=>?_)
  ·
   have hlt':i<e.subs.length:=by omega
   have h1:=reads_le hlt'
   have h2:=readsL_le (l:=e.subs) (k:=i+1)
   have h3:=readsL_take hlt'
   rw[h3] at h2
   simp only[List.length_append] at h1 h2
   simp only[go_sem]
   refine elemK (e.subs[i]).enc (by omega) (map_at _ (List.getElem?_eq_getElem hlt')) ?_
   simp only[go_sem]
   refine PCall.call (reads42 e.subs[i] (by omega)) ?_
   simp only[go_sem]
   refine⟨by first|omega|(simp;omega),?_⟩
   refine loopFr (e.subs.length-(i+1)) (by omega) ⟨i+1,r++[exB e.subs[i]],by omega,rfl,rfl,?_⟩ (.next rfl (by omega) (.cons ?_ .nil)) rfl
   ·
    rw[h3];simp;try rfl
   ·
    rw[h3];simp[slot];try omega
  ·
   rw[List.take_of_length_le (by omega)]
   simp only[go_sem]
   exact finTk (k:=1) hk0 rfl rfl rfl (by simp) hpl
def ltK (k:Int) (l s f:Bool):Bool × Bool :=
 if k=8∨k=13 then(false,s&&!l) else if k=10 then(s&&!l,s&&!l) else if k=9 then(false,s&&!f) else(s&&l,s)
mutual
def lt:Ex→Bool × Bool
 | .mk k _ _ _ _ s=>ltK k (ltL s).1 (ltL s).2 (ltH s)
def ltL:List Ex→Bool × Bool
 | []=>(false,true)
 | x::xs=>((lt x).1 || (ltL xs).1,(lt x).2&&(ltL xs).2)
def ltH:List Ex→Bool
 | []=>false
 | x::_=>(lt x).1
end
theorem lt_eq (e:Ex):lt e=ltK e.kind (ltL e.subs).1 (ltL e.subs).2 (ltH e.subs):=by cases e;simp[lt,Ex.kind,Ex.subs]
theorem ltL_append (l m:List Ex):ltL (l++m)=((ltL l).1 || (ltL m).1,(ltL l).2&&(ltL m).2):=by
 induction l with
 | nil=>simp[ltL]
 | cons x l ih=>simp[ltL,ih,Bool.or_assoc,Bool.and_assoc]
theorem ltL_take {l:List Ex} {k:Nat} {x:Ex} (h:l[k]?=some x):ltL (l.take (k+1))=((ltL (l.take k)).1 || (lt x).1,(ltL (l.take k)).2&&(lt x).2):=by
 rw[List.take_add_one,h,ltL_append]
 simp[ltL]
theorem pure_bb (a b:Bool):Go.Abs.Pure (.tup [.b a,.b b]):=.tup _ (pure_cons (.raw _) (pure_cons (.raw _) pure_nil))
theorem pure_gb (a b:Bool):Go.Abs.Pure (.agg [.b a,.b b]):=.agg _ (pure_cons (.raw _) (pure_cons (.raw _) pure_nil))
theorem late57 (l:List Ex) (ih:∀ x∈l,PCall Tryz.prog 52 [x.enc] (bbA (lt x))):PCall Tryz.prog 82 [.lst 6 (l.map Ex.enc) none] (bbA (ltL l)):=by
 refine pcall_of_vc tabOK Tryz.func82 (by kernel_rfl) rfl (pure_cons (pure_lst l) pure_nil) (pure_bb _ _) (n:=33) rfl (rs:=[.tmp 2,.tmp 3]) rfl ?_
 simp only[go_sem]
 refine loop_rule (fun n s h=>∃(i:Nat) (a b:Bool),i≤l.length∧n=l.length-i∧ltL (l.take i)=(a,b)∧Vis 33 [(6,.i i),(0,.lst 6 (l.map Ex.enc) none),(4,.b a),(5,.b b)] s∧h=[]) l.length
  ⟨0,_,_,by omega,by omega,rfl,.cons rfl (.cons rfl (.cons rfl (.cons rfl (.nil rfl)))),rfl⟩ ?_
 rintro n s h ⟨i,a,b,hi,rfl,hp,hv,rfl⟩
 obtain⟨j,rfl⟩:=hv.out
 simp only[go_sem]
 intro hm
 refine brK_dec (fun hlt=>?_) (fun hge=>?_)
 ·
  simp only[go_sem]
  refine elemMap (by omega) (by omega) (fun x hx=>?_)
  simp only[go_sem]
  refine PCall.call (ih x (List.mem_of_getElem? hx)) ?_
  have ht:=ltL_take hx
  rw[Int.toNat_natCast,hp] at ht
  generalize lt x=p at ht ⊢
  obtain⟨c,d⟩:=p
  cases a<;>cases b<;>cases c<;>cases d<;>simp only[go_sem]<;>exact loopGo _ (by omega) ⟨i+1,_,_,by omega,rfl,ht,.next rfl (by omega) (.cons rfl (.cons rfl (.cons rfl (.nil rfl)))),rfl⟩
 ·
  rw[List.take_of_length_le (by omega)] at hp
  rw[hp]
  simp only[go_sem]
  exact finT rfl
theorem late17 (e:Ex):PCall Tryz.prog 52 [e.enc] (bbA (lt e)):=by
 induction e using Ex.ind with
 | _ e ih =>
 refine pcall_of_vc tabOK Tryz.func52 (by kernel_rfl) rfl (pure_cons (pure_enc e) pure_nil) (pure_bb _ _) (n:=58) rfl (rs:=[.tmp 2,.tmp 3]) rfl ?_
 have h57:=late57 e.subs ih
 rw[lt_eq]
 simp only[go_sem]
 refine PCall.call h57 ?_
 have hH:∀ x,e.subs[0]?=some x→ltH e.subs=(lt x).1:=by
  intro x hx
  cases hs:e.subs with
  | nil=>rw[hs] at hx;simp at hx
  | cons y l=>rw[hs] at hx;simp at hx;subst hx;simp[ltH]
 have hE:¬ ((e.subs.length:Int)>0)→ltH e.subs=(ltL e.subs).1:=by
  intro hx
  cases hs:e.subs with
  | nil=>simp[ltH,ltL]
  | cons y l=>rw[hs] at hx;simp at hx
 generalize ltL e.subs=p at *
 generalize ltH e.subs=f at *
 obtain⟨a,b⟩:=p
 cases a<;>cases b
 all_goals repeat' first
  | exact finB rfl
  | exact finI rfl
  | exact finP rfl
  | exact absurd rfl (by assumption)
  | simp only[go_sem]
  | (intro _)
  | refine brK_dec (fun _=>?_) (fun _=>?_)
  | refine brK_any ?_ ?_
  | refine gK_dec (fun _=>?_) (fun _=>?_)
  | refine gK_any ?_ ?_
  | refine gqK_dec (fun _=>?_) (fun _=>?_)
  | refine⟨by omega,?_⟩
  | refine elemHave (by omega) (by assumption) ?_
  | refine elemMap (by omega) (by omega) (fun x hx=>?_)
  | refine drawK mo (by kernel_rfl) ?_
  | (refine finBBk rfl rfl ?_;first|(simp[ltK, *];done)|(rw[hE (by assumption)];simp[ltK, *];done))
  | (refine PCall.call (ih _ (List.mem_of_getElem? hx)) ?_;rw[hH x hx];generalize lt x=q;obtain⟨c,d⟩:=q;cases c)
abbrev keptF (l s w:Bool):Bool × Bool:=if !s || l then(false,false) else(w,true)
theorem kept103 (l s w:Bool):PCall Tryz.prog 128 [.agg [.b l,.b s],.b w] (gbA (keptF l s w)):=by
 refine pcall_of_vc tabOK Tryz.func128 (by kernel_rfl) rfl (pure_cons (pure_gb _ _) (pure_cons (.raw _) pure_nil)) (pure_gb _ _) (n:=15) rfl (rs:=[.cell 4 144]) rfl ?_
 cases l<;>cases s
 all_goals repeat' first
  | exact finB rfl
  | exact finI rfl
  | exact finP rfl
  | exact absurd rfl (by assumption)
  | simp only[go_sem]
  | (intro _)
  | refine brK_dec (fun _=>?_) (fun _=>?_)
  | refine brK_any ?_ ?_
  | refine gK_dec (fun _=>?_) (fun _=>?_)
  | refine gK_any ?_ ?_
  | refine gqK_dec (fun _=>?_) (fun _=>?_)
  | refine⟨by omega,?_⟩
  | refine elemHave (by omega) (by assumption) ?_
  | refine elemMap (by omega) (by omega) (fun x hx=>?_)
  | refine drawK mo (by kernel_rfl) ?_
theorem both102 (a b:Bool) (x:Ex) (h:PCall Tryz.prog 87 [x.enc] (gbA (lt x))):PCall Tryz.prog 127 [.agg [.b a,.b b],x.enc] (gbA (a || (lt x).1,b&&(lt x).2)):=by
 refine pcall_of_vc tabOK Tryz.func127 (by kernel_rfl) rfl (pure_cons (pure_gb _ _) (pure_cons (pure_enc x) pure_nil)) (pure_gb _ _) (n:=21) rfl (rs:=[.cell 4 144]) rfl ?_
 generalize lt x=p at *
 obtain⟨c,d⟩:=p
 cases a<;>cases b
 all_goals repeat' first
  | exact finB rfl
  | exact finI rfl
  | exact finP rfl
  | exact absurd rfl (by assumption)
  | simp only[go_sem]
  | (intro _)
  | refine brK_dec (fun _=>?_) (fun _=>?_)
  | refine brK_any ?_ ?_
  | refine gK_dec (fun _=>?_) (fun _=>?_)
  | refine gK_any ?_ ?_
  | refine gqK_dec (fun _=>?_) (fun _=>?_)
  | refine⟨by omega,?_⟩
  | refine elemHave (by omega) (by assumption) ?_
  | refine elemMap (by omega) (by omega) (fun x hx=>?_)
  | refine drawK mo (by kernel_rfl) ?_
  | (refine PCall.call h ?_;cases c<;>cases d)
theorem fold101 (l:List Ex) (a b:Bool) (ih:∀ x∈l,PCall Tryz.prog 87 [x.enc] (gbA (lt x))):PCall Tryz.prog 126 [.lst 6 (l.map Ex.enc) none,.agg [.b a,.b b],.fn (.func 127) [] []] (gbA (a || (ltL l).1,b&&(ltL l).2)):=by
 refine pcall_of_vc tabOK Tryz.func126 (by kernel_rfl) rfl (pure_cons (pure_lst l) (pure_cons (pure_gb _ _) (pure_cons (.fn _ _ _ pure_nil pure_nil) pure_nil))) (pure_gb _ _) (n:=21) rfl (rs:=[.cell 6 144]) rfl ?_
 simp only[go_sem]
 intro hm
 refine loop_rule (fun n s h=>∃(i:Nat) (c d:Bool) (rest:List Blk),i≤l.length∧n=l.length-i∧(c=(a || (ltL (l.take i)).1)∧d=(b&&(ltL (l.take i)).2)) ∧
  Vis 21 [(11,.i i),(4,.ptr 0 0),(6,.ptr 1 0),(2,.fn (.func 127) [] []),(9,.lst 6 (l.map Ex.enc) none),(10,.i l.length)] s∧h=.cells 144 [.b c,.b d]::.cells 144 [.b false,.b false]::rest) l.length
  ⟨0,a,b,[],by omega,by omega,by simp[ltL],.cons rfl (.cons rfl (.cons rfl (.cons rfl (.cons rfl (.cons rfl (.nil rfl)))))),rfl⟩ ?_
 rintro n s h ⟨i,c,d,rest,hi,rfl,hp,hv,rfl⟩
 obtain⟨j,rfl⟩:=hv.out
 simp only[go_sem]
 refine brK_dec (fun hlt=>?_) (fun hge=>?_)
 ·
  simp only[go_sem]
  refine elemMap (by omega) (by omega) (fun x hx=>?_)
  simp only[go_sem]
  refine PCall.call (both102 c d x (ih x (List.mem_of_getElem? hx))) ?_
  simp only[go_sem]
  have ht:=ltL_take hx
  rw[Int.toNat_natCast] at ht
  refine loopGo _ (by omega) ⟨i+1,_,_,_,by omega,rfl,?_,.next rfl (by omega) (.cons rfl (.cons rfl (.cons rfl (.cons rfl (.cons rfl (.nil rfl)))))),rfl⟩
  rw[ht,hp.1,hp.2]
  simp[Bool.or_assoc,Bool.and_assoc]
 ·
  simp only[go_sem]
  rw[List.take_of_length_le (by omega)] at hp
  rw[← hp.1,← hp.2]
  exact finP rfl
set_option maxHeartbeats 4000000
theorem of56 (e:Ex):PCall Tryz.prog 87 [e.enc] (gbA (lt e)):=by
 induction e using Ex.ind with
 | _ e ih =>
 refine pcall_of_vc tabOK Tryz.func87 (by kernel_rfl) rfl (pure_cons (pure_enc e) pure_nil) (pure_gb _ _) (n:=42) rfl (rs:=[.cell 2 144]) rfl ?_
 rw[lt_eq]
 simp only[go_sem]
 refine PCall.call (fold101 e.subs false true ih) ?_
 have hf:∀ n:Nat,n=min 1 e.subs.length→(ltL (e.subs.take n)).1=ltH e.subs:=by
  intro n hn
  cases hs:e.subs with
  | nil=>simp[ltH,ltL]
  | cons y l=>rw[hs] at hn;simp at hn;subst hn;simp[ltH,ltL]
 generalize ltL e.subs=p at *
 obtain⟨a,b⟩:=p
 simp only[Bool.false_or,Bool.true_and]
 cases a<;>cases b
 all_goals repeat' first
  | exact finB rfl
  | exact finI rfl
  | exact finP rfl
  | exact absurd rfl (by assumption)
  | simp only[go_sem]
  | (intro _)
  | refine brK_dec (fun _=>?_) (fun _=>?_)
  | refine brK_any ?_ ?_
  | refine gK_dec (fun _=>?_) (fun _=>?_)
  | refine gK_any ?_ ?_
  | refine gqK_dec (fun _=>?_) (fun _=>?_)
  | refine⟨by omega,?_⟩
  | refine elemHave (by omega) (by assumption) ?_
  | refine elemMap (by omega) (by omega) (fun x hx=>?_)
  | refine drawK mo (by kernel_rfl) ?_
  | (refine finGk rfl ?_;simp[ltK,keptF, *];done)
  | (refine PCall.call (kept103 _ _ _) ?_)
  | (refine PCall.call (fold101 (e.subs.take _) false true (fun x hx=>ih x (List.mem_of_mem_take hx))) ?_;rw[hf];cases ltH e.subs)
  | (omega)
  | (split<;>omega)
theorem late16 (e:Ex):PCall Tryz.prog 57 [e.enc] (bbA (lt e)):=by
 refine pcall_of_vc tabOK Tryz.func57 (by kernel_rfl) rfl (pure_cons (pure_enc e) pure_nil) (pure_bb _ _) (n:=11) rfl (rs:=[.tmp 2,.tmp 3]) rfl ?_
 repeat' first
  | exact finB rfl
  | exact finI rfl
  | exact finP rfl
  | exact absurd rfl (by assumption)
  | simp only[go_sem]
  | (intro _)
  | refine brK_dec (fun _=>?_) (fun _=>?_)
  | refine brK_any ?_ ?_
  | refine gK_dec (fun _=>?_) (fun _=>?_)
  | refine gK_any ?_ ?_
  | refine gqK_dec (fun _=>?_) (fun _=>?_)
  | refine⟨by omega,?_⟩
  | refine elemHave (by omega) (by assumption) ?_
  | refine elemMap (by omega) (by omega) (fun x hx=>?_)
  | refine drawK mo (by kernel_rfl) ?_
  | (refine PCall.call (of56 e) ?_)
  | (exact finBBk rfl rfl rfl)
section
theorem vsOne {vs:Array Value} (h:vs.size=1):∃ v,vs=#[v]:=by
 obtain⟨l⟩:=vs
 match l,h with
 | [v],_=>exact⟨v,rfl⟩
section
variable {P:Program} {f:FuncId} {sz:Nat} {es:List AV} {r:AV}
theorem pcall_sl (pe:∀ c∈flat es,Go.Abs.Pure c) (h1:es=[]→PCall P f [.raw (.slice none 0 0)] r) (h2:es=[]→∀ a c,c≤maxLen→PCall P f [.raw (.slice (some a) 0 c)] r) (h3:es≠[]→PCall P f [.lst sz es none] r):PCall P f [.lst sz es none] r:=by
 by_cases he:es=[]
 ·
  subst he
  unfold PCall at h1 h2 ⊢
  refine⟨fun x hx=>by rw[List.mem_singleton.1 hx];exact .lst _ _ pe,(h1 rfl).2.1,fun S w vs hb ht ha=>?_⟩
  obtain⟨v,rfl⟩:=vsOne ha.1
  have hv:=ha.2 0 _ _ rfl rfl
  cases hv with
  | lst _ _ _ a len cap u hlen hcap hmax hsz hm hc h1' ht' =>
   have hl:len=0:=hlen.symm
   subst hl
   exact(h2 rfl a cap hmax).2.2 S w _ hb ht (CAll.one (.raw _))
  | lstnil _ _ ht'=>exact(h1 rfl).2.2 S w _ hb ht (CAll.one (.raw _))
 ·
  exact h3 he
theorem acall_sl {h:List Blk} {K:AV→List Blk→Prop} (h1:es=[]→ACall P f [.raw (.slice none 0 0)] h K) (h2:es=[]→∀ a c,c≤maxLen→ACall P f [.raw (.slice (some a) 0 c)] h K) (h3:es≠[]→ACall P f [.lst sz es none] h K):ACall P f [.lst sz es none] h K:=by
 by_cases he:es=[]
 ·
  subst he
  unfold ACall at h1 h2 ⊢
  intro S φ w vs hr ha
  obtain⟨v,rfl⟩:=vsOne ha.1
  have hv:=ha.2 0 _ _ rfl rfl
  cases hv with
  | lst _ _ _ a len cap u hlen hcap hmax hsz hm hc h1' ht' =>
   have hl:len=0:=hlen.symm
   subst hl
   exact h2 rfl a cap hmax S φ w _ hr (CAll.one (.raw _))
  | lstnil _ _ ht'=>exact h1 rfl S φ w _ hr (CAll.one (.raw _))
 ·
  exact h3 he
theorem acall_nil {args:List AV} {h:List Blk} {e:TypeId} {K:AV→List Blk→Prop} (hp:PCall P f args (.raw (.slice none 0 0))) (hK:K (.lst sz [] (some h.length)) (h++[.tok e sz 0])):ACall P f args h K:=by
 unfold PCall at hp
 obtain⟨h1,h2,h3⟩:=hp
 unfold ACall
 intro S φ w vs hr ha
 obtain⟨ent,calls⟩:=h3 S w vs hr.bnd hr.tab.bare (ha.pure _ h1)
 refine⟨ent,Calls.mono calls ?_⟩
 rintro e' w' ⟨v,S',rfl,hc,hr',he⟩
 obtain⟨k1,k2⟩:=hr.over he hr'.bnd
 cases hc
 obtain⟨q1,q2⟩:=k1.push (l:=.tok 0 (.slice none 0 0)) (x:=.tok e sz 0) (S':=S') (w':=w') rfl rfl rfl (Nat.le_refl _) (fun _ _=>rfl) (fun _ h=>h) (fun _ h=>.inl h) k1.bnd
  ⟨_,upd_same _ _ _,.inl ⟨rfl,rfl⟩⟩ (fun b hb=>by simp[blockOf] at hb)
 exact⟨_,_,_,S',_,rfl,hK,.lstnil sz (some h.length) ⟨_,_,upd_same _ _ _,Nat.le_refl _,fun _=>rfl⟩,q1,k2.trans q2⟩
end
theorem nilW (sz:Nat):Weak (.raw (.slice none 0 0)) (.lst sz [] none):=.nil _
theorem cloneS (l:List ByteArray) (hl:l.length≤4294967296):PCall Tryz.prog 32 [.lst 1 (l.map AV.s) none] (.lst 1 (l.map AV.s) none):=by
 refine pcall_sl (by intro c hc;rw[flat_strs] at hc;obtain⟨x,_,rfl⟩:=List.mem_map.1 hc;exact .raw _) (fun he=>?_) (fun he a c hc=>?_) (fun he=>?_)
 ·
  obtain rfl:=List.map_eq_nil_iff.1 he
  refine pcall_of_vc tabOK Tryz.func32 (by kernel_rfl) rfl (pure_cons (.raw _) pure_nil) (pure_strs []) (n:=8) rfl (rs:=[.tmp 2]) rfl ?_
  simp only[go_sem]
  exact⟨_,rfl,false,nilW 1⟩
 ·
  obtain rfl:=List.map_eq_nil_iff.1 he
  refine pcall_of_vc tabOK Tryz.func32 (by kernel_rfl) rfl (pure_cons (.raw _) pure_nil) (pure_strs []) (n:=8) rfl (rs:=[.tmp 2]) rfl ?_
  simp only[go_sem]
  refine⟨by simpa[maxLen] using hc,?_⟩
  exact⟨_,rfl,false,.tok _ _ _⟩
 ·
  match l,he with
  | x::r,_ =>
   have hp:Go.Abs.Pure (.lst 1 ((x::r).map AV.s) none):=pure_strs _
   rw[List.map_cons] at hp ⊢
   refine pcall_of_vc tabOK Tryz.func32 (by kernel_rfl) rfl (pure_cons hp pure_nil) hp (n:=8) rfl (rs:=[.tmp 2]) rfl ?_
   simp only[go_sem]
   refine⟨by simpa using hl,?_⟩
   exact⟨_,rfl,false,.tok _ _ _⟩
theorem cloneC (l:List DCond) (hl:l.length≤1000000) {h:List Blk} {K:AV→List Blk→Prop} (hK:K (.lst 2 (l.map DCond.enc) (some h.length)) (h++[.tok 97 2 l.length])):ACall Tryz.prog 139 [.lst 2 (l.map DCond.enc) none] h K:=by
 have hpp:Go.Abs.Pure (.lst 2 (l.map DCond.enc) none):=DCond.pures l
 have hpf:∀ c∈flat (l.map DCond.enc),Go.Abs.Pure c:=by cases hpp with|lst _ _ h=>exact h
 refine tcall (e:=97) (sz:=2) (l:=l.map DCond.enc) (fun KK hk0=>?_) (pure_cons hpp pure_nil) hpf (by simpa using hK)
 refine acall_sl (fun he=>?_) (fun he a c hc=>?_) (fun he=>?_)
 ·
  obtain rfl:=List.map_eq_nil_iff.1 he
  refine acall_nil (e:=97) (sz:=2) ?_ hk0
  refine pcall_of_vc tabOK Tryz.func139 (by kernel_rfl) rfl (pure_cons (.raw _) pure_nil) (.raw _) (n:=8) rfl (rs:=[.tmp 2]) rfl ?_
  simp only[go_sem]
  exact⟨_,rfl,false,.refl _⟩
 ·
  obtain rfl:=List.map_eq_nil_iff.1 he
  refine acallT_of_vc tabOK Tryz.func139 (by kernel_rfl) rfl (n:=8) rfl (rs:=[.tmp 2]) rfl (e:=97) (sz:=2) (l:=[]) ?_
  simp only[go_sem]
  refine⟨by simpa[maxLen] using hc,?_⟩
  exact finTk (k:=0) hk0 rfl rfl rfl rfl (by simp[flat])
 ·
  match l,he with
  | x::r,_ =>
   rw[List.map_cons] at hk0 hpf ⊢
   refine acallT_of_vc tabOK Tryz.func139 (by kernel_rfl) rfl (n:=8) rfl (rs:=[.tmp 2]) rfl (e:=97) (sz:=2) (l:=x.enc::r.map DCond.enc) ?_
   simp only[go_sem]
   refine⟨by simp at hl ⊢;omega,?_⟩
   exact finTk (k:=0) hk0 rfl rfl rfl (by simp) hpf
end
end Go.Proofs.YtpamokpmlplopaaGreatDoor
