/-
  AbsX, Parts, AbsR, Ident, Ident2, Right, Count: put together.
-/
import Derived.Test.YtpamokpmlplopaaGreatDoorUniAd
import Derived.Test.YtpamokpmlplopaaGreatDoorUniAe
namespace Go.Abs
open Go.RowKit
abbrev AV.i (n:Int):AV:=.raw (.int .i64 n)
abbrev AV.b (b:Bool):AV:=.raw (.bool b)
abbrev AV.s (s:ByteArray):AV:=.raw (.string s)
inductive Ex where
 | mk (kind n:Int) (name:ByteArray) (op:Int) (arms:List ByteArray) (subs:List Ex)
namespace Ex
def kind:Ex→Int|.mk k _ _ _ _ _=>k
def n:Ex→Int|.mk _ n _ _ _ _=>n
def name:Ex→ByteArray|.mk _ _ m _ _ _=>m
def op:Ex→Int|.mk _ _ _ o _ _=>o
def arms:Ex→List ByteArray|.mk _ _ _ _ a _=>a
def subs:Ex→List Ex|.mk _ _ _ _ _ s=>s
end Ex
mutual
def Ex.enc:Ex→AV
 | .mk k n m o a s=>.agg [.i k,.i n,.s m,.i o,.lst 1 (a.map AV.s) none,.lst 6 (Ex.encs s) none]
def Ex.encs:List Ex→List AV
 | []=>[]
 | e::es=>e.enc::Ex.encs es
end
theorem encs_map (l:List Ex):Ex.encs l=l.map Ex.enc:=by
 induction l with
 | nil=>simp[Ex.encs]
 | cons e l ih=>simp[Ex.encs,ih]
theorem enc_eq (e:Ex):e.enc=.agg [.i e.kind,.i e.n,.s e.name,.i e.op,.lst 1 (e.arms.map AV.s) none,.lst 6 (e.subs.map Ex.enc) none]:=by
 cases e with
 | mk k n m o a s=>simp[Ex.enc,encs_map,Ex.kind,Ex.n,Ex.name,Ex.op,Ex.arms,Ex.subs]
theorem enc_cells (e:Ex):e.enc.cells=[.i e.kind,.i e.n,.s e.name,.i e.op,.lst 1 (e.arms.map AV.s) none,.lst 6 (e.subs.map Ex.enc) none]:=by rw[enc_eq];rfl
theorem flat_strs (l:List ByteArray):flat (l.map AV.s)=l.map AV.s:=by
 induction l with
 | nil=>rfl
 | cons x l ih=>simp only[flat,List.map_cons,List.flatMap_cons] at ih ⊢;rw[ih];rfl
theorem pure_strs (l:List ByteArray):Pure (.lst 1 (l.map AV.s) none):=by
 refine .lst _ _ fun c hc=>?_
 rw[flat_strs] at hc
 obtain⟨x,_,rfl⟩:=List.mem_map.1 hc
 exact .raw _
mutual
theorem pure_enc:∀ e:Ex,Pure e.enc
 | .mk k n m o a s=>by
  rw[Ex.enc]
  refine .agg _ fun c hc=>?_
  simp only[List.mem_cons,List.not_mem_nil,or_false] at hc
  rcases hc with rfl|rfl|rfl|rfl|rfl|rfl
  ·
   exact .raw _
  ·
   exact .raw _
  ·
   exact .raw _
  ·
   exact .raw _
  ·
   exact pure_strs a
  ·
   exact .lst _ _ (pure_encs s)
theorem pure_encs:∀ l:List Ex,∀ c∈flat (Ex.encs l),Pure c
 | [],c,hc=>by simp[Ex.encs,flat] at hc
 | e::l,c,hc=>by
  simp only[Ex.encs,flat,List.flatMap_cons,List.mem_append] at hc
  rcases hc with hc|hc
  ·
   have:=pure_enc e
   rw[enc_eq] at this hc
   cases this with
   | agg _ h=>exact h c hc
  ·
   exact pure_encs l c hc
end
theorem pure_lst (l:List Ex):Pure (.lst 6 (l.map Ex.enc) none):=.lst _ _ (by rw[← encs_map];exact pure_encs l)
theorem pure_cons {x:AV} {l:List AV} (h:Pure x) (hl:∀ y∈l,Pure y):∀ y∈x::l,Pure y:=by
 intro y hy
 rcases List.mem_cons.1 hy with rfl|hy
 ·
  exact h
 ·
  exact hl y hy
theorem pure_nil:∀ y∈([]:List AV),Pure y:=by simp
class PureI (a:AV):Prop where
 out:Pure a
class PureL (l:List AV):Prop where
 out:∀ y∈l,Pure y
theorem pureI {a:AV} [h:PureI a]:Pure a:=h.out
theorem pureL {l:List AV} [h:PureL l]:∀ y∈l,Pure y:=h.out
instance:PureL []:=⟨pure_nil⟩
instance {x:AV} {l:List AV} [PureI x] [PureL l]:PureL (x::l):=⟨pure_cons pureI pureL⟩
instance (v:Value):PureI (.raw v):=⟨.raw v⟩
instance {l:List AV} [PureL l]:PureI (.agg l):=⟨.agg _ pureL⟩
instance {l:List AV} [PureL l]:PureI (.tup l):=⟨.tup _ pureL⟩
instance (g:Fn):PureI (.fn g [] []):=⟨.fn _ _ _ pure_nil pure_nil⟩
instance (e:Ex):PureI e.enc:=⟨pure_enc e⟩
instance (l:List Ex):PureI (.lst 6 (l.map Ex.enc) none):=⟨pure_lst l⟩
instance (l:List ByteArray):PureI (.lst 1 (l.map AV.s) none):=⟨pure_strs l⟩
theorem Ex.ind {p:Ex→Prop} (h:∀ e,(∀ x∈e.subs,p x)→p e):∀ e,p e:=by
 have key:∀(n:Nat) (e:Ex),SizeOf.sizeOf e≤n→p e:=by
  intro n
  induction n with
  | zero=>intro e he;cases e;simp at he
  | succ n ih =>
   intro e he
   refine h e fun x hx=>ih x ?_
   cases e with
   | mk k n' m o a s =>
    have:=List.sizeOf_lt_of_mem hx
    simp[Ex.subs] at this he
    omega
 exact fun e=>key _ e (Nat.le_refl _)
theorem enc_fold (e:Ex):AV.agg [.i e.kind,.i e.n,.s e.name,.i e.op,.lst 1 (e.arms.map AV.s) none,.lst 6 (e.subs.map Ex.enc) none]=e.enc:=(enc_eq e).symm
theorem map_at {α:Type} (f:α→AV) {l:List α} {k:Nat} {x:α} (hx:l[k]?=some x):(l.map f)[((k:Int)).toNat]?=some (f x):=by
 rw[Int.toNat_natCast,List.getElem?_map,hx];rfl
theorem wrap_in (x:Int) (h1:-9223372036854775808≤x) (h2:x≤9223372036854775807):IntKind.i64.wrap x=x:=by
 rw[IntKind.wrap_i64];omega
theorem int_beq (a b:Int):(a==b)=decide (a=b):=by
 by_cases h:a=b<;>simp[h]
theorem int_bne (a b:Int):(a != b)=decide (a≠b):=by
 by_cases h:a=b<;>simp[h]
theorem str_beq (a b:ByteArray):(a.toList==b.toList)=decide (a=b):=by
 by_cases h:a=b
 ·
  simp[h]
 ·
  have:a.toList≠b.toList:=fun e=>h (toList_inj e)
  simp[h,this]
theorem not_dec (p:Prop) [Decidable p]:(!decide p)=decide (¬ p):=by simp
theorem at_app {α:Type} (l m:List α) (k:Nat):(l++m)[l.length+k]?=m[k]?:=by
 rw[List.getElem?_append_right (by omega)];congr 1;omega
theorem at_app0 {α:Type} (l m:List α):(l++m)[l.length]?=m[0]?:=at_app l m 0
theorem set_app {α:Type} (l m:List α) (k:Nat) (v:α):(l++m).set (l.length+k) v=l++m.set k v:=by
 rw[List.set_append_right _ _ (by omega)];congr 2;omega
theorem set_app0 {α:Type} (l m:List α) (v:α):(l++m).set l.length v=l++m.set 0 v:=set_app l m 0 v
theorem take_map {α:Type} (f:α→AV) (l:List α) (n:Nat):(l.map f).take n=(l.take n).map f:=List.map_take.symm
theorem drop_map {α:Type} (f:α→AV) (l:List α) (n:Nat):(l.map f).drop n=(l.drop n).map f:=List.map_drop.symm
theorem elemHave {α:Type} {f:α→AV} {l:List α} {i:Int} {x:α} {g:AV→AV} {dst:Option Tmp} {s:List AV} {h:List Blk} {K:List AV→List Blk→Prop} (h0:0≤i) (hx:l[i.toNat]?=some x) (hk:K (put s dst (g (f x))) h):ElemK i (l.map f) g dst s h K :=
 ⟨f x,⟨h0,by rw[List.getElem?_map,hx];rfl⟩,hk⟩
theorem elemMap {α:Type} {f:α→AV} {l:List α} {i:Int} {g:AV→AV} {dst:Option Tmp} {s:List AV} {h:List Blk} {K:List AV→List Blk→Prop} (h0:0≤i) (hlt:i<l.length) (hk:∀ x,l[i.toNat]?=some x→K (put s dst (g (f x))) h):ElemK i (l.map f) g dst s h K:=by
 have hlt':i.toNat<l.length:=by omega
 exact⟨f l[i.toNat],⟨h0,by rw[List.getElem?_map,List.getElem?_eq_getElem hlt'];rfl⟩,hk _ (List.getElem?_eq_getElem hlt')⟩
theorem Vis.next {N:Nat} {vis:List (Nat × AV)} {s:List AV} {t i:Nat} (h:s[t]?=some (.i (IntKind.i64.wrap ((i:Int)+1)))) (hi:i<9223372036854775807) (hv:Vis N vis s):Vis N ((t,.i ((i+1:Nat):Int))::vis) s:=by
 rw[wrap_in _ (by omega) (by omega)] at h
 exact .cons h hv
theorem finB {T:TypeId→TI} {t:Nat} {s:List AV} {h:List Blk} {b:Bool} (hs:s[t]?=some (.b b)):FinE T [.tmp t] (fun r=>∃ b:Bool,r=.raw (.bool b)) s h :=
 ⟨[.b b],by simp only[resAV,opd,List.getD_eq_getElem?_getD,hs];rfl,false,.b b,.refl _,.raw _,b,rfl⟩
theorem finI {T:TypeId→TI} {t:Nat} {s:List AV} {h:List Blk} {n:Int} (hs:s[t]?=some (.i n)):FinE T [.tmp t] (fun r=>∃ n:Int,r=.i n) s h :=
 ⟨[.i n],by simp only[resAV,opd,List.getD_eq_getElem?_getD,hs];rfl,false,.i n,.refl _,.raw _,n,rfl⟩
theorem finII {T:TypeId→TI} {t u:Nat} {s:List AV} {h:List Blk} {n m:Int} (hs:s[t]?=some (.i n)) (hu:s[u]?=some (.i m)):FinE T [.tmp t,.tmp u] (fun r=>∃ a b:Int,r=.tup [.i a,.i b]) s h :=
 ⟨[.i n,.i m],by simp only[resAV,opd,List.getD_eq_getElem?_getD,hs,hu];rfl,false,.tup [.i n,.i m],.refl _,.tup _ (by
  intro c hc
  simp only[List.mem_cons,List.not_mem_nil,or_false] at hc
  rcases hc with rfl|rfl<;>exact .raw _),n,m,rfl⟩
theorem finBk {T:TypeId→TI} {t:Nat} {s:List AV} {h:List Blk} {b:Bool} {K:Bool→Prop} (hs:s[t]?=some (.b b)) (hk:K b):FinE T [.tmp t] (fun r=>∃ b:Bool,r=.b b∧K b) s h :=
 ⟨[.b b],by simp only[resAV,opd,List.getD_eq_getElem?_getD,hs];rfl,false,.b b,.refl _,.raw _,b,rfl,hk⟩
theorem take_all {α:Type} {p:α→Prop} {l:List α} {k:Nat} {x:α} (h:∀ y∈l.take k,p y) (hx:l[k]?=some x) (hp:p x):∀ y∈l.take (k+1),p y:=by
 intro y hy
 rw[List.take_add_one,hx] at hy
 simp only[Option.toList,List.mem_append,List.mem_singleton] at hy
 rcases hy with hy|rfl
 ·
  exact h y hy
 ·
  exact hp
theorem take_full {α:Type} {p:α→Prop} {l:List α} {k:Nat} (h:∀ y∈l.take k,p y) (hk:l.length≤k):∀ y∈l,p y:=by
 rw[List.take_of_length_le hk] at h
 exact h
theorem finP {T:TypeId→TI} {rs:List ResultVar} {r:AV} {s:List AV} {h:List Blk} (hr:resAV T s h rs=some [r]):Go.Abs.Fin T rs r s h:=⟨_,hr,false,.refl _⟩
theorem finT {T:TypeId→TI} {rs:List ResultVar} {r u:AV} {l:List AV} {s:List AV} {h:List Blk} (hr:resAV T s h rs=some (r::u::l)):Go.Abs.Fin T rs (.tup (r::u::l)) s h:=⟨_,hr,false,.refl _⟩
theorem finBq {T:TypeId→TI} {t:Nat} {s:List AV} {h:List Blk} {b c:Bool} (hs:s[t]?=some (.b b)) (he:b=c):Go.Abs.Fin T [.tmp t] (.b c) s h:=he▸⟨[.b b],by simp only[resAV,opd,List.getD_eq_getElem?_getD,hs];rfl,false,.refl _⟩
abbrev bbA (p:Bool × Bool):AV:=.tup [.b p.1,.b p.2]
theorem finBBk {T:TypeId→TI} {t u:Nat} {s:List AV} {h:List Blk} {x y:Bool} {p:Bool × Bool} (hs:s[t]?=some (.b x)) (hu:s[u]?=some (.b y)) (hp:p=(x,y)):Go.Abs.Fin T [.tmp t,.tmp u] (bbA p) s h:=by
 subst hp
 exact⟨[.b x,.b y],by simp only[resAV,opd,List.getD_eq_getElem?_getD,hs,hu];rfl,false,.refl _⟩
abbrev gbA (p:Bool × Bool):AV:=.agg [.b p.1,.b p.2]
theorem finGk {T:TypeId→TI} {rs:List ResultVar} {s:List AV} {h:List Blk} {x y:Bool} {p:Bool × Bool} (hs:resAV T s h rs=some [.agg [.b x,.b y]]) (hp:p=(x,y)):Go.Abs.Fin T rs (gbA p) s h:=by
 subst hp
 exact⟨_,hs,false,.refl _⟩
theorem weak_ex {k n o:Int} {m:ByteArray} {arms:List ByteArray} {subs:List Ex} {a s:AV} (ha:Weak a (.lst 1 (arms.map AV.s) none)) (hs:Weak s (.lst 6 (subs.map Ex.enc) none)):Weak (.agg [.i k,.i n,.s m,.i o,a,s]) (Ex.mk k n m o arms subs).enc:=by
 rw[enc_eq]
 exact Weak.aggs ⟨.refl _,.refl _,.refl _,.refl _,ha,hs,trivial⟩
theorem weak_subs {es:List AV} {subs:List Ex} {k:Option Nat} (hl:es.length=subs.length) (h:WeakL (flat es) (flat (subs.map Ex.enc))):Weak (.lst 6 es k) (.lst 6 (subs.map Ex.enc) none) :=
 Weak.lsts (by simp[hl]) (fun e he=>by
  obtain⟨x,_,rfl⟩:=List.mem_map.1 he
  rw[enc_cells];rfl) h
theorem flat_nil:flat []=[]:=rfl
theorem flat_agg (cs es:List AV):flat (.agg cs::es)=cs++flat es:=rfl
theorem flat_ex (e:Ex) (es:List Ex):flat ((e::es).map Ex.enc)=e.enc.cells++flat (es.map Ex.enc):=rfl
theorem flat_ex0:flat (([]:List Ex).map Ex.enc)=[]:=rfl
attribute [go_sem] enc_fold enc_cells List.length_map maxLen take_map drop_map Bool.not_false Bool.not_true at_app at_app0 set_app set_app0 List.append_assoc List.length_append int_beq int_bne str_beq not_dec
attribute [irreducible] Ex.enc
end Go.Abs
namespace Go.Proofs.YtpamokpmlplopaaGreatDoor
open Go.Abs
set_option maxRecDepth 20000
set_option linter.unusedSimpArgs false
set_option linter.unusedVariables false
set_option maxHeartbeats 1000000
attribute [local irreducible] vc vcOps vcStep vcGuard prK hrK gK gsK brK callK ElemK SeqK BlockK ScopeK OpsK CallK LoopK LoopGo finPost ACall PCall PCallE BCall vqOps vqStep vqGuard qrK heK pcK gqK gqsK QOpsK qcallK DrawK
mutual
def parts:Ex→List Ex
 | .mk k n m o a s=>.mk k n m o a s::partsL s
def partsL:List Ex→List Ex
 | []=>[]
 | x::xs=>parts x++partsL xs
end
theorem parts_eq (e:Ex):parts e=e::partsL e.subs:=by cases e;simp[parts,Ex.subs]
theorem partsL_append (l m:List Ex):partsL (l++m)=partsL l++partsL m:=by
 induction l with
 | nil=>simp[partsL]
 | cons x l ih=>simp[partsL,ih]
theorem partsL_take {l:List Ex} {k:Nat} (h:k<l.length):partsL (l.take (k+1))=partsL (l.take k)++parts l[k]:=by
 rw[List.take_succ_eq_append_getElem h,partsL_append]
 simp[partsL]
theorem partsL_le {l:List Ex} {k:Nat}:(partsL (l.take k)).length≤(partsL l).length:=by
 have:partsL l=partsL (l.take k)++partsL (l.drop k):=by rw[← partsL_append,List.take_append_drop]
 rw[this];simp
theorem parts_le {l:List Ex} {k:Nat} (h:k<l.length):(parts l[k]).length≤(partsL l).length:=by
 have h1:=partsL_take h
 have h2:=partsL_le (l:=l) (k:=k+1)
 rw[h1] at h2
 simp at h2
 omega
theorem parts_spec:∀(e:Ex),(parts e).length≤100000→PCall Tryz.prog 83 [e.enc] (.lst 6 ((parts e).map Ex.enc) none):=by
 intro e
 induction e using Ex.ind with
 | _ e ih =>
 intro hl
 refine pcall_of_vc tabOK Tryz.func83 (by kernel_rfl) rfl (pure_cons (pure_enc e) pure_nil) (pure_lst _) (n:=23) rfl (rs:=[.tmp 2]) rfl ?_
 simp only[go_sem]
 rw[parts_eq] at hl ⊢
 refine loop_rule (fun n s h=>∃(k:Nat),k≤e.subs.length∧n=e.subs.length-k ∧
   Vis 23 [(1,.ptr 0 0),(3,.lst 6 ((e::partsL (e.subs.take k)).map Ex.enc) (some 1)),(4,.i k)] s ∧
   h=[.cells 72 [.i e.kind,.i e.n,.s e.name,.i e.op,.lst 1 (e.arms.map AV.s) none,.lst 6 (e.subs.map Ex.enc) none],.tok 72 6 (partsL (e.subs.take k)).length.succ]) e.subs.length ?_ ?_
 ·
  exact⟨0,by omega,rfl,.cons rfl (.cons (by simp[partsL]) (.cons rfl (.nil rfl))),by simp[partsL]⟩
 rintro n s h ⟨k,hk,rfl,hv,rfl⟩
 obtain⟨j,rfl⟩:=hv.out
 simp only[go_sem]
 intro hm
 refine brK_dec (fun hlt=>?_) (fun hge=>?_)
 ·
  have hlt':k<e.subs.length:=by omega
  have h1:=parts_le hlt'
  have h2:=partsL_le (l:=e.subs) (k:=k+1)
  have h3:=partsL_take hlt'
  rw[h3] at h2
  simp only[List.length_cons,List.length_append] at hl h2
  simp only[go_sem]
  refine elemK (e.subs[k]).enc (by omega) (map_at _ (List.getElem?_eq_getElem hlt')) ?_
  simp only[go_sem]
  refine PCall.call (ih e.subs[k] (List.getElem_mem _) (by omega)) ?_
  simp only[go_sem]
  refine⟨by omega,?_⟩
  rw[wrap_in _ (by omega) (by omega)]
  refine loopGo _ ?_ ⟨k+1,by omega,rfl,.cons rfl (.cons (by rw[h3];simp[slot]) (.cons rfl (.nil rfl))),by rw[h3];simp⟩
  omega
 ·
  have:k=e.subs.length:=by omega
  subst this
  simp only[go_sem]
  rw[List.take_length]
  exact⟨_,rfl,false,.tok _ _ _⟩
end Go.Proofs.YtpamokpmlplopaaGreatDoor
namespace Go.Abs
open Go.RowKit
section
variable {P:Program} {T:TypeId→TI} {s s':List AV} {h h':List Blk} {Q:Post} {c:Code}
def carried (C:List (Nat × AV)) (t:Nat):Option AV :=
 match C with
 | []=>none
 | (u,v)::r=>match Nat.beq u t with
  | true=>some v
  | false=>carried r t
def inD (D:List Nat) (t:Nat):Bool :=
 match D with
 | []=>false
 | u::r=>match Nat.beq u t with
  | true=>true
  | false=>inD r t
def mixC (D:List Nat) (C:List (Nat × AV)) (j:Nat→AV):Nat→List AV→List AV
 | _,[]=>[]
 | k,a::l=>(match carried C k with|some v=>v|none=>match inD D k with|true=>j k|false=>a)::mixC D C j (k+1) l
def Agree (C:List (Nat × AV)) (s:List AV):Prop:=∀ p∈C,s[p.1]?=some p.2
theorem Agree.nil:Agree [] s:=by intro p hp;simp at hp
theorem Agree.cons {C:List (Nat × AV)} {t:Nat} {v:AV} (h:s[t]?=some v) (hv:Agree C s):Agree ((t,v)::C) s:=by
 intro p hp
 rcases List.mem_cons.1 hp with rfl|hp
 ·
  exact h
 ·
  exact hv p hp
def Fr (D:List Nat) (s s':List AV):Prop:=s'=mixC D [] (fun k=>s'.getD k (.tup [])) 0 s
theorem mixC_at (D:List Nat) (C:List (Nat × AV)) (j:Nat→AV):∀(s:List AV) (k i:Nat),(mixC D C j k s)[i]?=s[i]?.map fun a=>match carried C (k+i) with|some v=>v|none=>match inD D (k+i) with|true=>j (k+i)|false=>a
 | [],k,i=>by simp[mixC]
 | a::l,k,0=>by simp[mixC]
 | a::l,k,i+1=>by
  simp only[mixC,List.getElem?_cons_succ]
  rw[mixC_at D C j l (k+1) i]
  have:k+1+i=k+(i+1):=by omega
  rw[this]
theorem carried_some {C:List (Nat × AV)} {t:Nat} {v:AV} (h:carried C t=some v):(t,v)∈C:=by
 induction C with
 | nil=>cases h
 | cons p r ih =>
  obtain⟨u,x⟩:=p
  simp only[carried] at h
  split at h
  ·
   rename_i hb
   cases h
   rw[Nat.eq_of_beq_eq_true hb]
   simp
  ·
   exact List.mem_cons_of_mem _ (ih h)
theorem mix_eq {D:List Nat} {C:List (Nat × AV)} (hf:Fr D s s') (ha:Agree C s'):s'=mixC D C (fun k=>s'.getD k (.tup [])) 0 s:=by
 apply List.ext_getElem?
 intro i
 rw[mixC_at]
 rw[Nat.zero_add]
 have hi:s'[i]?=(mixC D [] (fun k=>s'.getD k (.tup [])) 0 s)[i]?:=congrArg (fun l=>l[i]?) hf
 rw[mixC_at,Nat.zero_add] at hi
 cases hc:carried C i with
 | none=>rw[hi];simp[carried]
 | some v =>
  have:=ha _ (carried_some hc)
  simp only at this
  rw[this]
  rw[this] at hi
  cases hs:s[i]? with
  | none=>rw[hs] at hi;simp at hi
  | some a=>simp
def FrI (I:Nat→List (Nat × AV)→List Blk→Prop) (D:List Nat) (s:List AV) (n:Nat) (s':List AV) (h':List Blk):Prop:=∃ C,I n C h'∧Agree C s'∧Fr D s s'
theorem fr_self (D:List Nat) (s:List AV):Fr D s s:=by
 apply List.ext_getElem?
 intro i
 rw[mixC_at]
 cases hs:s[i]? with
 | none=>simp
 | some a =>
  simp only[Option.map_some,carried,Nat.zero_add,Option.some.injEq]
  split<;>simp[List.getD_eq_getElem?_getD,hs]
theorem loop_fr (D:List Nat) (I:Nat→List (Nat × AV)→List Blk→Prop) (n0:Nat) (C0:List (Nat × AV)) (hi:I n0 C0 h) (hc:Agree C0 s)
  (hstep:∀ n C j h',I n C h'→vc P T c (LoopK (FrI I D s) n Q) (mixC D C j 0 s) h'):vc P T (.loop c) Q s h:=by
 refine loop_rule (FrI I D s) n0 ⟨C0,hi,hc,fr_self D s⟩ ?_
 rintro n s' h' ⟨C,hI,ha,hf⟩
 have:=hstep n C (fun k=>s'.getD k (.tup [])) h' hI
 rw[← mix_eq hf ha] at this
 exact this
theorem loopFr {I:Nat→List (Nat × AV)→List Blk→Prop} {D:List Nat} {n:Nat} (m:Nat) (hm:m<n) {C:List (Nat × AV)} (hi:I m C h') (ha:Agree C s') (hf:Fr D s s'):LoopGo (FrI I D s) n s' h':=⟨m,hm,C,hi,ha,hf⟩
theorem loop_frH (D:List Nat) (I:Nat→List (Nat × AV)→Prop) (n0:Nat) (C0:List (Nat × AV)) (hi:I n0 C0) (hc:Agree C0 s)
  (hstep:∀ n C j,I n C→vc P T c (LoopK (FrI (fun n C h'=>I n C∧h'=h) D s) n Q) (mixC D C j 0 s) h):vc P T (.loop c) Q s h :=
 loop_fr D (fun n C h'=>I n C∧h'=h) n0 C0 ⟨hi,rfl⟩ hc fun n C j h' hI=>by obtain⟨hI,rfl⟩:=hI;exact hstep n C j hI
theorem loopFrH {I:Nat→List (Nat × AV)→Prop} {D:List Nat} {n:Nat} (m:Nat) (hm:m<n) {C:List (Nat × AV)} (hi:I m C) (ha:Agree C s') (hf:Fr D s s'):LoopGo (FrI (fun n C h'=>I n C∧h'=h) D s) n s' h:=⟨m,hm,C,⟨hi,rfl⟩,ha,hf⟩
def HExt (h h':List Blk):Prop:=∃ r,h'=h++r
theorem loop_frX (D:List Nat) (I:Nat→List (Nat × AV)→Prop) (n0:Nat) (C0:List (Nat × AV)) (hi:I n0 C0) (hc:Agree C0 s)
  (hstep:∀ n C j r,I n C→vc P T c (LoopK (FrI (fun n C h'=>I n C∧HExt h h') D s) n Q) (mixC D C j 0 s) (h++r)):vc P T (.loop c) Q s h :=
 loop_fr D (fun n C h'=>I n C∧HExt h h') n0 C0 ⟨hi,[],by simp⟩ hc fun n C j h' hI=>by obtain⟨hI,r,rfl⟩:=hI;exact hstep n C j r hI
theorem loopFrX {I:Nat→List (Nat × AV)→Prop} {D:List Nat} {n:Nat} (m:Nat) (hm:m<n) {C:List (Nat × AV)} (r:List Blk) (hi:I m C) (ha:Agree C s') (hf:Fr D s s') (hh:h'=h++r):LoopGo (FrI (fun n C h'=>I n C∧HExt h h') D s) n s' h':=⟨m,hm,C,⟨hi,r,hh⟩,ha,hf⟩
theorem Agree.next {C:List (Nat × AV)} {t i:Nat} (h:s[t]?=some (.raw (.int .i64 (IntKind.i64.wrap ((i:Int)+1))))) (hi:i<9223372036854775807) (hv:Agree C s):Agree ((t,.raw (.int .i64 ((i+1:Nat):Int)))::C) s:=by
 have:IntKind.i64.wrap ((i:Int)+1)=((i+1:Nat):Int):=by rw[IntKind.wrap_i64];omega
 rw[this] at h
 exact .cons h hv
theorem loop_ghost {s':List AV} {h':List Blk} (hg:Ghost s h s' h') (hv:vc P T (.loop c) Q s' h'):vc P T (.loop c) Q s h:=by
 obtain⟨s0,h0,hg',hn⟩:=hv
 exact⟨s0,h0,hg.trans hg',hn⟩
theorem ghost_own (t:Nat) (e:TypeId) (sz:Nat) (ht:s[t]?=some (.raw (.slice none 0 0))):Ghost s h (s.set t (.own sz h.length 0)) (h++[.own e sz []]):=by
 intro S φ w vs hs hr
 obtain⟨k1,k2⟩:=hr.push (l:=.tok 0 (.slice none 0 0)) (x:=.own e sz []) (S':=S) (w':=w) rfl rfl rfl (Nat.le_refl _) (fun _ _=>rfl) (fun _ h=>h) (fun _ h=>.inl h) hr.bnd
  ⟨_,upd_same _ _ _,by simp,.inl ⟨rfl,rfl⟩⟩ (fun b hb=>by simp[blockOf] at hb)
 refine⟨S,_,?_,k1,k2⟩
 have hs':=k2.CAll hs
 obtain⟨v,hv,hc⟩:=hs.at ht
 cases hc
 have:=hs'.set t (C.own (S:=S) (w:=w) sz h.length 0 none 0 (Nat.le_refl _) (by simp[maxLen]) ⟨_,_,upd_same _ _ _,Nat.le_refl _,fun _=>rfl⟩)
 have e:vs.setIfInBounds t (.slice none 0 0)=vs:=by
  apply Array.ext
  ·
   simp
  ·
   intro i h1 h2
   by_cases ei:t=i
   ·
    subst ei
    have hv':vs[t]=.slice none 0 0:=by
     rw[Array.getElem?_eq_getElem h2] at hv
     exact Option.some.inj hv
    simp[hv']
   ·
    simp[h2,ei]
 rw[e] at this
 exact this
inductive Blw (n:Nat):AV→Prop where
 | raw (v:Value):Blw n (.raw v)
 | agg (cs:List AV) (h:∀ c∈cs,Blw n c):Blw n (.agg cs)
 | tup (cs:List AV) (h:∀ c∈cs,Blw n c):Blw n (.tup cs)
 | lst (sz:Nat) (es:List AV) (tok:Option Nat) (h:∀ c∈flat es,Blw n c) (ht:∀ k,tok=some k→k<n):Blw n (.lst sz es tok)
 | eptr (cs:List AV) (h:∀ c∈cs,Blw n c):Blw n (.eptr cs)
 | ptr (k off:Nat) (h:k<n):Blw n (.ptr k off)
 | sl (sz k off len:Nat) (h:k<n):Blw n (.sl sz k off len)
 | fn (f:Fn) (xs ys:List AV) (h:∀ c∈xs,Blw n c) (h':∀ c∈ys,Blw n c):Blw n (.fn f xs ys)
 | map (k:Nat) (h:k<n):Blw n (.map k)
 | own (sz k m:Nat) (h:k<n):Blw n (.own sz k m)
theorem Blw.pure {n:Nat} {a:AV} (h:Pure a):Blw n a:=by
 induction h with
 | raw v=>exact .raw v
 | agg cs _ ih=>exact .agg cs ih
 | tup cs _ ih=>exact .tup cs ih
 | lst sz es _ ih=>exact .lst sz es none ih (fun k e=>by cases e)
 | eptr cs _ ih=>exact .eptr cs ih
 | fn f xs ys _ _ ih ih'=>exact .fn f xs ys ih ih'
section
variable {S:Addr→Prop} {φ φ':Nat→Loc} {w:World}
theorem Blw.of_C {n:Nat} (hf:∀ k,n≤k→φ k=.no) {a:AV} {v:Value} (h:C S w φ a v):Blw n a:=by
 have lt:∀ {k:Nat},φ k≠.no→k<n:=fun {k} hk=>by
  rcases Nat.lt_or_ge k n with g|g
  ·
   exact g
  ·
   exact absurd (hf k g) hk
 have all:∀ {cs:List AV} {vs:Array Value},vs.size=cs.length→(∀(i:Nat) a v,cs[i]?=some a→vs[i]?=some v→Blw n a)→∀ c∈cs,Blw n c:=by
  intro cs vs hl h c hc
  obtain⟨i,hi,rfl⟩:=List.getElem_of_mem hc
  exact h i _ vs[i] (List.getElem?_eq_getElem hi) (Array.getElem?_eq_getElem (by omega))
 have cells:∀ {cs:List AV},(∀(j:Nat) c,cs[j]?=some c→Blw n c)→∀ c∈cs,Blw n c:=by
  intro cs h c hc
  obtain⟨i,hi,rfl⟩:=List.getElem_of_mem hc
  exact h i _ (List.getElem?_eq_getElem hi)
 have tk:∀ {tok:Option Nat} {len:Nat} {v:Value},TokOK φ tok len v→∀ k,tok=some k→k<n:=by
  intro tok len v ht k e
  subst e
  obtain⟨_,_,h1,_⟩:=ht
  exact lt (by rw[h1];simp)
 induction h with
 | raw v=>exact .raw v
 | agg cs vs hl h h1 ih=>exact .agg cs (all hl ih)
 | tup cs vs hl h ih=>exact .tup cs (all hl ih)
 | lst sz es tok a len cap u hlen hcap hmax hsz hm hc h1 ht ih=>exact .lst sz es tok (cells ih) (tk ht)
 | lstnil sz tok ht=>exact .lst sz [] tok (by simp[flat]) (tk ht)
 | eptr cs a u hm hc h1 ih=>exact .eptr cs (cells ih)
 | ptr k off b h=>exact .ptr k off (lt (by rw[h];simp))
 | sl sz k off len b cap h hcap hmax=>exact .sl sz k off len (lt (by rw[h];simp))
 | fn f xs ys vs us hl hl' h h' ih ih'=>exact .fn f xs ys (all hl ih) (all hl' ih')
 | map k b h=>exact .map k (lt (by rw[h];simp))
 | own sz k m a cap hcap hmax ht=>exact .own sz k m (tk ht k rfl)
theorem Blw.C {n:Nat} (hf:∀ k,k<n→φ' k=φ k) {a:AV} {v:Value} (h:C S w φ a v):Blw n a→Go.Abs.C S w φ' a v:=by
 have tk:∀ {tok:Option Nat} {len:Nat} {v:Value},TokOK φ tok len v→(∀ k,tok=some k→k<n)→TokOK φ' tok len v:=by
  intro tok len v ht hk
  cases tok with
  | none=>trivial
  | some k =>
   obtain⟨m,u,h1,h2⟩:=ht
   exact⟨m,u,by rw[hf k (hk k rfl)];exact h1,h2⟩
 induction h with
 | raw v=>intro _;exact .raw v
 | agg cs vs hl h h1 ih=>intro hb;cases hb with|agg _ hb=>exact .agg cs vs hl (fun i a v ha hv=>ih i a v ha hv (hb a (List.mem_of_getElem? ha))) h1
 | tup cs vs hl h ih=>intro hb;cases hb with|tup _ hb=>exact .tup cs vs hl (fun i a v ha hv=>ih i a v ha hv (hb a (List.mem_of_getElem? ha)))
 | lst sz es tok a len cap u hlen hcap hmax hsz hm hc h1 ht ih=>intro hb;cases hb with|lst _ _ _ hb hk=>exact .lst sz es tok a len cap u hlen hcap hmax hsz hm (fun j c hj=>ih j c hj (hb c (List.mem_of_getElem? hj))) h1 (tk ht hk)
 | lstnil sz tok ht=>intro hb;cases hb with|lst _ _ _ hb hk=>exact .lstnil sz tok (tk ht hk)
 | eptr cs a u hm hc h1 ih=>intro hb;cases hb with|eptr _ hb=>exact .eptr cs a u hm (fun j c hj=>ih j c hj (hb c (List.mem_of_getElem? hj))) h1
 | ptr k off b h=>intro hb;cases hb with|ptr _ _ hb=>exact .ptr k off b (by rw[hf k hb];exact h)
 | sl sz k off len b cap h hcap hmax=>intro hb;cases hb with|sl _ _ _ _ hb=>exact .sl sz k off len b cap (by rw[hf k hb];exact h) hcap hmax
 | fn f xs ys vs us hl hl' h h' ih ih'=>intro hb;cases hb with|fn _ _ _ hb hb'=>exact .fn f xs ys vs us hl hl' (fun i a v ha hv=>ih i a v ha hv (hb a (List.mem_of_getElem? ha))) (fun i a v ha hv=>ih' i a v ha hv (hb' a (List.mem_of_getElem? ha)))
 | map k b h=>intro hb;cases hb with|map _ hb=>exact .map k b (by rw[hf k hb];exact h)
 | own sz k m a cap hcap hmax ht=>intro hb;cases hb with|own _ _ _ hb=>exact .own sz k m a cap hcap hmax (tk ht fun j e=>by cases e;exact hb)
def BlwBlk (n:Nat):Blk→Prop
 | .cells _ cs=>∀ c∈cs,Blw n c
 | .own _ _ es=>∀ c∈flat es,Blw n c
 | .mp kk _ f=>∀ k a,isKey kk k=true→f k=some a→Blw n a
 | .lp _ _ _ _ _ _ s=>∀ c∈s,Blw n c
 | _=>True
def Chg (n:Nat):List Blk→List Blk→Prop
 | [],[]=>True
 | x::r,y::r'=>(x=y∨BlwBlk n y)∧Chg n r r'
 | _,_=>False
theorem Chg.refl (n:Nat):∀ h:List Blk,Chg n h h
 | []=>trivial
 | _::r=>⟨.inl rfl,Chg.refl n r⟩
theorem Chg.at {n:Nat}:∀ {h h':List Blk},Chg n h h'→h'.length=h.length∧∀(k:Nat) y,h'[k]?=some y→h[k]?=some y∨BlwBlk n y
 | [],[],_=>⟨rfl,fun k y h=>by simp at h⟩
 | x::r,y::r',hc=>by
  obtain⟨h1,h2⟩:=hc.2.at
  refine⟨by simp[h1],fun k z hz=>?_⟩
  cases k with
  | zero =>
   simp at hz
   subst hz
   rcases hc.1 with e|e
   ·
    exact .inl (by simp[e])
   ·
    exact .inr e
  | succ k=>simpa using h2 k z (by simpa using hz)
 | [],_::_,h=>h.elim
 | _::_,[],h=>h.elim
theorem RB.low {n:Nat} (hf:∀ k,k<n→φ' k=φ k) {k:Nat} (hk:k<n) {x:Blk} (hb:RB S w φ k x) (hx:BlwBlk n x):RB S w φ' k x:=by
 cases x with
 | cells t cs =>
  obtain⟨b,vs,h1,h2,h3,h4,h5⟩:=hb
  exact⟨b,vs,by rw[hf k hk];exact h1,h2,⟨h3.1,fun i a v ha hv=>(h3.2 i a v ha hv |> Blw.C hf) (hx a (List.mem_of_getElem? ha))⟩,h4,h5⟩
 | tok e sz m=>obtain⟨u,h1,h2⟩:=hb;exact⟨u,by rw[hf k hk];exact h1,h2⟩
 | cut e sz m=>obtain⟨u,h1,h2⟩:=hb;exact⟨u,by rw[hf k hk];exact h1,h2⟩
 | own e sz es =>
  obtain⟨u,h1,h2,h3⟩:=hb
  refine⟨u,by rw[hf k hk];exact h1,h2,?_⟩
  rcases h3 with h3|⟨b,cap,vs,g1,g2,g3,g4,g5,g6,g7⟩
  ·
   exact .inl h3
  ·
   exact .inr ⟨b,cap,vs,g1,g2,g3,g4,g5,fun j c hj=>by
    obtain⟨x,q1,q2,q3⟩:=g6 j c hj
    exact⟨x,q1,Blw.C hf q2 (hx c (List.mem_of_getElem? hj)),q3⟩,g7⟩
 | mp kk m f =>
  obtain⟨b,es,clock,h1,h2,h3,⟨m1,m2,m3⟩,h5⟩:=hb
  refine⟨b,es,clock,by rw[hf k hk];exact h1,h2,h3,⟨m1,m2,fun key hkey=>?_⟩,h5⟩
  have:=m3 key hkey
  revert this
  cases mfind key es.toList<;>cases hfk:f key<;>intro hh
  ·
   trivial
  ·
   exact hh
  ·
   exact hh
  ·
   exact Blw.C hf hh (hx key _ hkey hfk)
 | it b p =>
  obtain⟨l,h1,h2,h4⟩:=hb
  exact⟨l,by rw[hf k hk];exact h1,h2,h4⟩
 | lp l st pe ps x y s =>
  obtain⟨h1,fn,tmps,D,h2,h3,h4⟩:=hb
  exact⟨by rw[hf k hk];exact h1,fn,tmps,D,h2,⟨h3.1,fun i a v ha hv=>(h3.2 i a v ha hv |> Blw.C hf) (hx a (List.mem_of_getElem? ha))⟩,h4⟩
 | dead=>trivial
theorem RB.blw {n:Nat} (hf:∀ k,n≤k→φ k=.no) {k:Nat} {x:Blk} (hb:RB S w φ k x):BlwBlk n x:=by
 cases x with
 | cells t cs =>
  obtain⟨b,vs,h1,h2,h3,_⟩:=hb
  intro c hc
  obtain⟨i,hi,rfl⟩:=List.getElem_of_mem hc
  have hiv:i<vs.size:=by rw[h3.1];exact hi
  exact Blw.of_C hf (h3.2 i _ vs[i] (List.getElem?_eq_getElem hi) (Array.getElem?_eq_getElem hiv))
 | tok e sz m=>trivial
 | cut e sz m=>trivial
 | own e sz es =>
  obtain⟨u,h1,h2,h3⟩:=hb
  rcases h3 with ⟨_,rfl⟩|⟨b,cap,vs,g1,g2,g3,g4,g5,g6,g7⟩
  ·
   intro c hc;simp[flat] at hc
  ·
   intro c hc
   obtain⟨i,hi,rfl⟩:=List.getElem_of_mem hc
   obtain⟨x,q1,q2,q3⟩:=g6 i _ (List.getElem?_eq_getElem hi)
   exact Blw.of_C hf q2
 | mp kk m f =>
  obtain⟨b,es,clock,h1,h2,h3,⟨m1,m2,m3⟩,h5⟩:=hb
  intro key a hkey hfa
  have:=m3 key hkey
  rw[hfa] at this
  revert this
  cases mfind key es.toList with
  | none=>intro hh;exact hh.elim
  | some v=>intro hh;exact Blw.of_C hf hh
 | it b p=>trivial
 | lp l st pe ps x y s =>
  obtain⟨h1,fn,tmps,D,h2,h3,h4⟩:=hb
  intro c hc
  obtain⟨i,hi,rfl⟩:=List.getElem_of_mem hc
  have hiv:i<tmps.size:=by rw[h3.1];exact hi
  exact Blw.of_C hf (h3.2 i _ tmps[i] (List.getElem?_eq_getElem hi) (Array.getElem?_eq_getElem hiv))
 | dead=>trivial
end
def FinH (T:TypeId→TI) (rs:List ResultVar) (h:List Blk) (K:AV→List Blk→Prop) (s:List AV) (h':List Blk):Prop :=
 ∃ l,resAV T s h' rs=some l∧∃ r h1 junk,Weak (oneOrTup l) r∧Blw h.length r∧h'=h1++junk∧Chg h.length h h1∧K r h1
theorem drop_sound {S S':Addr→Prop} {φ φ':Nat→Loc} {w w':World} {h1 junk:List Blk} (hr:R S φ h w) (hr':R S' φ' (h1++junk) w') (he:Ext S φ h w S' φ' (h1++junk) w') (hc:Chg h.length h h1) :
  let φ'':Nat→Loc:=fun k=>if k<h.length then φ' k else .no
  R S' φ'' h1 w'∧Ext S φ h w S' φ'' h1 w':=by
 intro φ''
 obtain⟨hl,hat⟩:=hc.at
 have hf:∀ k,k<h.length→φ'' k=φ' k:=fun k hk=>by simp only[φ''];rw[if_pos hk]
 have hno:∀ k,h.length≤k→φ'' k=.no:=fun k hk=>by simp only[φ''];rw[if_neg (by omega)]
 have hle:∀ k,(φ k).le (φ'' k):=by
  intro k
  rcases Nat.lt_or_ge k h.length with g|g
  ·
   rw[hf k g];exact he.loc k
  ·
   rw[hr.fresh k g];trivial
 have hin:∀(k:Nat) y,h1[k]?=some y→k<h.length∧(h1++junk)[k]?=some y:=fun k y hk=>by
  have:=lookupD hk
  exact⟨by omega,by rw[List.getElem?_append_left (by omega)];exact hk⟩
 have hlow:∀(k:Nat) y,h1[k]?=some y→BlwBlk h.length y:=by
  intro k y hk
  rcases hat k y hk with g|g
  ·
   exact RB.blw (fun j hj=>hr.fresh j hj) (hr.blk k _ g)
  ·
   exact g
 have hown:∀ b,Owns φ'' h1 b→Owns φ' (h1++junk) b:=by
  rintro b ⟨k,x,hk,hb⟩
  obtain⟨g1,g2⟩:=hin k x hk
  exact⟨k,x,g2,by rw[← hf k g1];exact hb⟩
 refine⟨⟨fun k x hk=>?_,fun k k' x x' b hk hk' hb hb'=>?_,hr'.bnd,fun k hk=>hno k (by omega),fun x hx=>⟨(hr'.tab x hx).1,fun o=>(hr'.tab x hx).2 (hown _ o)⟩⟩,⟨he.os,he.tape,he.output,he.size,he.keep,he.sub,he.cell,hle,he.new,fun b hb=>he.own b (hown b hb)⟩⟩
 ·
  obtain⟨g1,g2⟩:=hin k x hk
  exact RB.low hf g1 (hr'.blk k x g2) (hlow k x hk)
 ·
  obtain⟨g1,g2⟩:=hin k x hk
  obtain⟨q1,q2⟩:=hin k' x' hk'
  rw[hf k g1] at hb
  rw[hf k' q1] at hb'
  exact hr'.inj k k' x x' b g2 q2 hb hb'
theorem acall_of_vc (hT : TabOK P T) {f : FuncId} {fn : Func} (hf : P.funcs[f]? = some fn) (hname : (fn.name == "runtime.NumGoroutine") = false) (hb : fn.body = some c) {args : List AV} {K : AV → List Blk → Prop}
  {n:Nat} (hn:fn.ntmps=n) {rs:List ResultVar} (hrs:fn.results.toList=rs)
  (hv:vc P T c (finPost (FinH T rs h K)) (args++List.replicate (n-args.length) (.tup [])) h):ACall P f args h K:=by
 intro S φ w vs hr hargs
 refine⟨run_callFunc hf hname (by rw[hb];rfl) vs w,?_⟩
 have htmps:CAll S w φ (args++List.replicate (n-args.length) (.tup [])) (vs++Array.replicate (fn.ntmps-vs.size) undef):=by
  refine hargs.append ⟨by rw[Array.size_replicate,List.length_replicate,hn,hargs.1],fun i x v hx hv=>?_⟩
  rw[List.getElem?_replicate] at hx
  rw[Array.getElem?_replicate] at hv
  split at hx
  ·
   split at hv
   ·
    cases hx;cases hv;exact C.undef_
   ·
    cases hv
  ·
   cases hx
 refine calls_of_vc hT hf hb hv htmps hr ?_
 intro tmps s' h' S' φ' w' hG hs' hr' he
 revert hG
 rintro⟨l,hl,r,h1,junk,hwk,hbl,rfl,hchg,hKr⟩
 obtain⟨k1,k2⟩:=drop_sound hr hr' he hchg
 have g3:=results_plain hT hs' hr' (fn:=fn) (a:={ tmps:=tmps,defers:=[] }) (by rw[hrs];exact hl)
 obtain⟨v',e1,e2⟩:=g3
 exact⟨v',e1,v',r,h1,S',_,rfl,hKr,Blw.C (fun k hk=>by rw[if_pos hk]) (e2.weak hwk) hbl,k1,k2⟩
def FinK (T:TypeId→TI) (rs:List ResultVar) (K:AV→List Blk→Prop) (s:List AV) (h':List Blk):Prop :=
 ∃ l,resAV T s h' rs=some l∧∃ r,Weak (oneOrTup l) r∧K r h'
theorem finK {rs:List ResultVar} {K:AV→List Blk→Prop} {r:AV} (hl:resAV T s h rs=some [r]) (hK:K r h):FinK T rs K s h:=⟨_,hl,r,.refl _,hK⟩
theorem acallK_of_vc (hT : TabOK P T) {f : FuncId} {fn : Func} (hf : P.funcs[f]? = some fn) (hname : (fn.name == "runtime.NumGoroutine") = false) (hb : fn.body = some c) {args : List AV} {K : AV → List Blk → Prop}
  {n:Nat} (hn:fn.ntmps=n) {rs:List ResultVar} (hrs:fn.results.toList=rs)
  (hv:vc P T c (finPost (FinK T rs K)) (args++List.replicate (n-args.length) (.tup [])) h):ACall P f args h K:=by
 intro S φ w vs hr hargs
 refine⟨run_callFunc hf hname (by rw[hb];rfl) vs w,?_⟩
 have htmps:CAll S w φ (args++List.replicate (n-args.length) (.tup [])) (vs++Array.replicate (fn.ntmps-vs.size) undef):=by
  refine hargs.append ⟨by rw[Array.size_replicate,List.length_replicate,hn,hargs.1],fun i x v hx hv=>?_⟩
  rw[List.getElem?_replicate] at hx
  rw[Array.getElem?_replicate] at hv
  split at hx
  ·
   split at hv
   ·
    cases hx;cases hv;exact C.undef_
   ·
    cases hv
  ·
   cases hx
 refine calls_of_vc hT hf hb hv htmps hr ?_
 intro tmps s' h' S' φ' w' hG hs' hr' he
 revert hG
 rintro⟨l,hl,r,hwk,hKr⟩
 obtain⟨v',e1,e2⟩:=results_plain hT hs' hr' (fn:=fn) (a:={ tmps:=tmps,defers:=[] }) (by rw[hrs];exact hl)
 exact⟨v',e1,v',r,h',S',φ',rfl,hKr,e2.weak hwk,hr',he⟩
theorem finH0 {rs:List ResultVar} {K:AV→List Blk→Prop} {r:AV} (junk:List Blk) (hl:resAV T s (h++junk) rs=some [r]) (hp:Pure r) (hK:K r h):FinH T rs h K s (h++junk) :=
 ⟨_,hl,r,h,junk,.refl _,Blw.pure hp,rfl,Chg.refl _ _,hK⟩
theorem acall_of {f:FuncId} {args:List AV} {h:List Blk} {K:AV→List Blk→Prop} (hc:∀ S φ w vs,R S φ h w→CAll S w φ args vs→(callFunc f vs).run P w=.ok (.enter f vs) w ∧
  Calls P f vs w fun e w'=>∃ v r h' S' φ',e=.returned v∧K r h'∧C S' w' φ' r v∧R S' φ' h' w'∧Ext S φ h w S' φ' h' w'):ACall P f args h K:=hc
theorem finH1 {rs:List ResultVar} {K:AV→List Blk→Prop} {r:AV} (hl:resAV T s h rs=some [r]) (hp:Pure r) (hK:K r h):FinH T rs h K s h :=
 ⟨_,hl,r,h,[],.refl _,Blw.pure hp,(List.append_nil h).symm,Chg.refl _ _,hK⟩
end
attribute [go_sem] mixC carried inD
end Go.Abs
namespace Go.Proofs.YtpamokpmlplopaaGreatDoor
open Go.Abs
set_option maxRecDepth 20000
set_option linter.unusedSimpArgs false
set_option linter.unusedVariables false
set_option maxHeartbeats 1000000
attribute [local irreducible] vc vcOps vcStep vcGuard prK hrK gK gsK brK callK ElemK SeqK BlockK ScopeK OpsK CallK LoopK LoopGo finPost ACall PCall PCallE BCall vqOps vqStep vqGuard qrK heK pcK gqK gqsK QOpsK qcallK DrawK
theorem mo:Tryz.prog.follows .mixedOrders=true:=by kernel_rfl
abbrev eH (e:Ex):List Blk:=[.cells 72 [.i e.kind,.i e.n,.s e.name,.i e.op,.lst 1 (e.arms.map AV.s) none,.lst 6 (e.subs.map Ex.enc) none]]
mutual
def countF:Ex→Int→Int
 | .mk _ _ _ _ _ s,left=>if left≤0 then 0 else countL s (left-1)
def countL:List Ex→Int→Int
 | [],left=>left
 | x::xs,left=>if left>0 then countL xs (countF x left) else left
end
theorem countF_eq (e:Ex) (left:Int):countF e left=if left≤0 then 0 else countL e.subs (left-1):=by cases e;simp[countF,Ex.subs]
mutual
theorem countF_le:∀(e:Ex) (l:Int),countF e l=0∨(0≤countF e l∧countF e l<l)
 | .mk _ _ _ _ _ s,l=>by
  rw[countF]
  split
  ·
   left;omega
  ·
   have:=countL_le s (l-1)
   omega
theorem countL_le:∀(es:List Ex) (l:Int),(l≤0∧countL es l=l)∨(0≤countL es l∧countL es l≤l)
 | [],l=>by rw[countL];omega
 | x::xs,l=>by
  rw[countL]
  split
  ·
   have h1:=countF_le x l
   have h2:=countL_le xs (countF x l)
   omega
  ·
   omega
end
theorem count_spec:∀(e:Ex) (left:Int),left≤200→PCall Tryz.prog 54 [e.enc,.i left] (.i (countF e left)):=by
 intro e
 induction e using Ex.ind with
 | _ e ih =>
 intro left hl
 refine pcall_of_vc tabOK Tryz.func54 (by kernel_rfl) rfl (pure_cons (pure_enc e) (pure_cons (.raw _) pure_nil)) (.raw _) (n:=29) rfl (rs:=[.tmp 4]) rfl ?_
 simp only[go_sem]
 rw[countF_eq]
 refine brK_dec (fun hb=>?_) (fun hb=>?_)
 ·
  simp only[go_sem]
  rw[if_pos hb]
  exact⟨_,rfl,false,.refl _⟩
 ·
  simp only[go_sem]
  rw[if_neg hb,wrap_in _ (by omega) (by omega)]
  refine loop_rule (fun n s h=>∃(k:Nat) (l:Int),k≤e.subs.length∧0≤l∧l≤200∧n=e.subs.length-k∧countL (e.subs.drop k) l=countL e.subs (left-1) ∧
   Vis 29 [(1,.i l),(2,.ptr 0 0),(5,.i k)] s∧h=[.cells 72 [.i e.kind,.i e.n,.s e.name,.i e.op,.lst 1 (e.arms.map AV.s) none,.lst 6 (e.subs.map Ex.enc) none]]) _ ⟨0,left-1,by omega,by omega,by omega,rfl,rfl,.cons rfl (.cons rfl (.cons rfl (.nil rfl))),rfl⟩ ?_
  rintro n s h ⟨k,l,hk,hl0,hl,rfl,hc,hv,rfl⟩
  obtain⟨j,rfl⟩:=hv.out
  simp only[go_sem]
  intro hm
  have fin:(¬ ((k:Int)<e.subs.length)∨¬ 0<l)→countL e.subs (left-1)=l:=by
   intro hor
   rw[← hc]
   rcases hor with hor|hor
   ·
    rw[List.drop_of_length_le (by omega),countL]
   ·
    cases hd:e.subs.drop k with
    | nil=>rw[countL]
    | cons x xs=>rw[countL,if_neg hor]
  refine gK_dec (fun hlt=>?_) (fun hge=>?_)
  ·
   simp only[go_sem]
   refine brK_dec (fun hpos=>?_) (fun hneg=>?_)
   ·
    simp only[go_sem]
    have hlt':k<e.subs.length:=by omega
    refine elemK (e.subs[k]).enc (by omega) (map_at _ (List.getElem?_eq_getElem hlt')) ?_
    simp only[go_sem]
    have hm1:=ih e.subs[k] (List.getElem_mem _) l hl
    refine PCall.call hm1 ?_
    simp only[go_sem]
    have hle:=countF_le e.subs[k] l
    rw[wrap_in _ (by omega) (by omega)]
    refine loopGo _ ?_ ⟨k+1,countF e.subs[k] l,by omega,by omega,by omega,rfl,?_,.cons rfl (.cons rfl (.cons rfl (.nil rfl))),rfl⟩
    ·
     omega
    ·
     rw[← hc,List.drop_eq_getElem_cons hlt',countL,if_pos (by omega)]
   ·
    simp only[go_sem]
    rw[fin (.inr hneg)]
    exact⟨_,rfl,false,.refl _⟩
  ·
   simp only[go_sem]
   rw[fin (.inl hge)]
   exact⟨_,rfl,false,.refl _⟩
end Go.Proofs.YtpamokpmlplopaaGreatDoor
