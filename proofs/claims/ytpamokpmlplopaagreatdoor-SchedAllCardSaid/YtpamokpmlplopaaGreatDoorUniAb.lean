/-
  AbsP: put together.
-/
import Derived.Test.YtpamokpmlplopaaGreatDoorUniAa
import Derived.Still
namespace Go.Abs
open Go.RowKit
section
variable {P:Program} {T:TypeId→TI} {S S':Addr→Prop} {φ φ':Nat→Loc} {h h':List Blk} {w w':World} {s s':List AV} {a a':Act} {n0:Nat}
inductive Pure:AV→Prop where
 | raw (v:Value):Pure (.raw v)
 | agg (cs:List AV) (h:∀ c∈cs,Pure c):Pure (.agg cs)
 | tup (cs:List AV) (h:∀ c∈cs,Pure c):Pure (.tup cs)
 | lst (sz:Nat) (es:List AV) (h:∀ c∈flat es,Pure c):Pure (.lst sz es none)
 | eptr (cs:List AV) (h:∀ c∈cs,Pure c):Pure (.eptr cs)
 | fn (f:Fn) (xs ys:List AV) (h:∀ c∈xs,Pure c) (h':∀ c∈ys,Pure c):Pure (.fn f xs ys)
theorem C.pure (φ':Nat→Loc) {x:AV} {v:Value} (hc:C S w φ x v):Pure x→C S w φ' x v:=by
 induction hc with
 | raw v=>intro _;exact .raw v
 | agg cs vs hl h h1 ih=>intro hp;cases hp with|agg _ hp=>exact .agg cs vs hl (fun i a v ha hv=>ih i a v ha hv (hp a (List.mem_of_getElem? ha))) h1
 | tup cs vs hl h ih=>intro hp;cases hp with|tup _ hp=>exact .tup cs vs hl (fun i a v ha hv=>ih i a v ha hv (hp a (List.mem_of_getElem? ha)))
 | lst sz es tok a len cap u hlen hcap hmax hsz hm hc h1 ht ih =>
  intro hp;cases hp with|lst _ _ hp=>exact .lst sz es none a len cap u hlen hcap hmax hsz hm (fun j c hj=>ih j c hj (hp c (List.mem_of_getElem? hj))) h1 trivial
 | lstnil sz tok ht=>intro hp;cases hp;exact .lstnil sz none trivial
 | eptr cs a u hm hc h1 ih=>intro hp;cases hp with|eptr _ hp=>exact .eptr cs a u hm (fun j c hj=>ih j c hj (hp c (List.mem_of_getElem? hj))) h1
 | ptr k off b h=>intro hp;cases hp
 | sl sz k off len b cap h hcap hmax=>intro hp;cases hp
 | fn f xs ys vs us hl hl' h h' ih ih' =>
  intro hp;cases hp with
  | fn _ _ _ hp hp'=>exact .fn f xs ys vs us hl hl' (fun i a v ha hv=>ih i a v ha hv (hp a (List.mem_of_getElem? ha))) (fun i a v ha hv=>ih' i a v ha hv (hp' a (List.mem_of_getElem? ha)))
 | map k b h=>intro hp;cases hp
 | own sz k n a cap hcap hmax ht=>intro hp;cases hp
theorem CAll.pure (φ':Nat→Loc) {xs:List AV} {vs:Array Value} (hc:CAll S w φ xs vs) (hp:∀ x∈xs,Pure x):CAll S w φ' xs vs :=
 ⟨hc.1,fun i x v hx hv=>(hc.2 i x v hx hv).pure φ' (hp x (List.mem_of_getElem? hx))⟩
def PCall (P:Program) (f:FuncId) (args:List AV) (r:AV):Prop :=
 (∀ x∈args,Pure x)∧Pure r∧∀ S w vs,(∀ a,S a→a.block<w.heap.size)→TabF (fun _=>.no) [] w→CAll S w (fun _=>.no) args vs→(callFunc f vs).run P w=.ok (.enter f vs) w ∧
  Calls P f vs w fun e w'=>∃ v S',e=.returned v∧C S' w' (fun _=>.no) r v∧R S' (fun _=>.no) [] w'∧Ext S (fun _=>.no) [] w S' (fun _=>.no) [] w'
theorem R.nil (hb:∀ a,S a→a.block<w.heap.size) (ht:TabF (fun _=>.no) [] w):R S (fun _=>.no) [] w :=
 ⟨fun k x h=>by simp at h,fun k k' x x' b h=>by simp at h,hb,fun _ _=>rfl,ht⟩
theorem no_owns {b:Nat}:¬ Owns (fun _=>.no) [] b:=by
 rintro⟨k,x,h,_⟩
 simp at h
theorem TabF.bare (t:TabF φ h w):TabF (fun _=>.no) [] w:=fun x hx=>⟨(t x hx).1,no_owns⟩
theorem R.over (hr:R S φ h w) (he:Ext S (fun _=>.no) [] w S' (fun _=>.no) [] w') (hb:∀ a,S' a→a.block<w'.heap.size):R S' φ h w'∧Ext S φ h w S' φ h w':=by
 have hk:∀ b,b<w.heap.size→w'.heap[b]?=w.heap[b]?:=fun b hb=>he.keep b hb no_owns
 have hn:∀ a,S' a→S a∨w.heap.size≤a.block:=fun a ha=>by
  rcases he.new a ha with g|g|g
  ·
   exact .inl g
  ·
   exact .inr g
  ·
   exact absurd g no_owns
 have hE:Ext S φ h w S' φ h w':=by
  refine⟨he.os,he.tape,he.output,he.size,fun b hb _=>hk b hb,he.sub,he.cell,fun k=>Loc.le_refl _,fun a ha=>?_,fun b hb=>.inl hb⟩
  rcases hn a ha with g|g
  ·
   exact .inl g
  ·
   exact .inr (.inl g)
 refine⟨⟨fun k x hx=>(hr.blk k x hx).keep (fun b hb _=>hk b hb) he.sub he.cell (fun k=>Loc.le_refl _) rfl (fun a ha=>?_),hr.inj,hb,hr.fresh,hr.tab.ext hE⟩,hE⟩
 rcases hn a ha with g|g
 ·
  exact .inl g
 ·
  exact .inr fun b _ hb=>by omega
theorem PCall.call {f:FuncId} {args:List AV} {r:AV} {K:AV→List Blk→Prop} (hp:PCall P f args r) (hk:K r h):ACall P f args h K:=by
 obtain⟨h1,h2,h3⟩:=hp
 intro S φ w vs hr hargs
 obtain⟨henter,hcalls⟩:=h3 S w vs hr.bnd hr.tab.bare (hargs.pure _ h1)
 refine⟨henter,Calls.mono hcalls ?_⟩
 rintro e w' ⟨v,S',rfl,hc,hr',he⟩
 obtain⟨k1,k2⟩:=hr.over he hr'.bnd
 exact⟨v,r,h,S',φ,rfl,hk,hc.pure φ h2,k1,k2⟩
def MonoH:List Blk→List Blk→Prop
 | [],_=>True
 | _::_,[]=>False
 | x::r,x'::r'=>(match x with
  | .cells _ cs=>match x' with
   | .cells _ cs'=>cs=cs'
   | _=>False
  | _=>True)∧MonoH r r'
theorem MonoH.cells:∀ {h h':List Blk},MonoH h h'→∀ {k:Nat} {cs:List AV},blkCells h k=some cs→blkCells h' k=some cs
 | [],_,_,k,_,hk=>by simp[blkCells] at hk
 | _::_,[],hm,_,_,_=>hm.elim
 | x::r,x'::r',hm,k,cs,hk=>by
  cases k with
  | zero =>
   have h1:=hm.1
   cases x with
   | cells t cs =>
    cases x' with
    | cells t' cs' =>
     dsimp only at h1
     subst h1
     exact hk
    | _=>exact h1.elim
   | _=>simp[blkCells] at hk
  | succ k=>exact MonoH.cells hm.2 hk
theorem MonoH.refl:∀ h:List Blk,MonoH h h
 | []=>trivial
 | x::r=>⟨by cases x<;>trivial,MonoH.refl r⟩
theorem MonoH.cut:∀(h:List Blk) (k:Nat),MonoH (h.set k .dead) h
 | [],_=>trivial
 | x::r,0=>⟨trivial,MonoH.refl r⟩
 | x::r,k+1=>⟨by cases x<;>trivial,MonoH.cut r k⟩
theorem MonoH.trans:∀ {h g f:List Blk},MonoH h g→MonoH g f→MonoH h f
 | [],_,_,_,_=>trivial
 | _::_,[],_,hm,_=>hm.elim
 | _::_,_::_,[],_,hm=>hm.elim
 | x::r,y::g,z::f,hm,hn=>⟨by
   have h1:=hm.1
   have h2:=hn.1
   cases x with
   | cells t cs =>
    cases y with
    | cells t' cs' =>
     cases z with
     | cells t'' cs''=>exact Eq.trans h1 h2
     | _=>exact h2.elim
    | _=>exact h1.elim
   | _=>trivial,MonoH.trans hm.2 hn.2⟩
def cutH:List Nat→List Blk→List Blk
 | [],h=>h
 | k::ks,h=>cutH ks (h.set k .dead)
theorem MonoH.cuts:∀(ks:List Nat) (h:List Blk),MonoH (cutH ks h) h
 | [],h=>MonoH.refl h
 | k::ks,h=>(MonoH.cuts ks (h.set k .dead)).trans (MonoH.cut h k)
def RCall (P:Program) (h0:List Blk) (g:FuncId) (args:List AV) (v:AV):Prop:=∀(h:List Blk) (K:AV→List Blk→Prop),MonoH h0 h→K v h→ACall P g args h K
theorem PCall.toR {h0:List Blk} {g:FuncId} {args:List AV} {v:AV} (hp:PCall P g args v):RCall P h0 g args v:=fun _ _ _ hk=>hp.call hk
def Op.eff:Op→Bool
 | .box ..|.alloc ..|.store ..|.buildSlice ..|.makeSlice ..|.mapUpdate ..=>true
 | .slice _ _ _ _ (some _)=>true
 | .call { callee:=.builtin .append,.. }=>true
 | _=>false
def QStep (P:Program) (T:TypeId→TI) (h0:List Blk) (o:Oper) (s:List AV) (h:List Blk) (v:AV) (h':List Blk):Prop :=
 match Op.eff o.op with
 | true=>MonoH h0 h'∧match stepHeap T s h o.op with
  | .ok u g=>v=u∧h'=g
  | .side p u g=>p∧v=u∧h'=g
  | .bad=>False
 | false=>h'=h∧match o.op with
  | .call { callee:=.value f,args,.. }=>match opd s f with
   | .fn (.func g) first captured=>RCall P h0 g (first++args.toList.map (opd s)++captured) v
   | _=>False
  | op=>match stepPure T s h0 op with
   | .ok u=>v=u
   | .side p u=>p∧v=u
   | .fact _ u=>v=u
   | .elem i es f=>∃ x,(0≤i∧es[i.toNat]?=some x)∧v=f x
   | .bad=>False
def guardVal (ops:Array Oper) (s:List AV) (j:Nat):AV :=
 match guardSlot ops j with
 | none=>.map 0
 | some d=>s.getD d (.tup [])
def Yield (P:Program) (T:TypeId→TI) (ops:Array Oper) (h0:List Blk) (o:Oper) (s:List AV) (h:List Blk) (v:AV) (h':List Blk):Prop :=
 match o.guard with
 | none=>QStep P T h0 o s h v h'
 | some (j,want)=>match guardVal ops s j with
  | .raw (.bool b)=>match b==want with
   | true=>QStep P T h0 o s h v h'
   | false=>v=.tup []∧h'=h
  | .tup _=>v=.tup []∧h'=h
  | _=>False
theorem set_id {s:List AV} {d:Nat} {v:AV} (h:s.getD d (.tup [])=v):s.set d v=s:=by
 apply List.ext_getElem?
 intro i
 rw[List.getElem?_set]
 by_cases e:d=i
 ·
  subst e
  rw[if_pos rfl]
  split
  ·
   rename_i hlt
   rw[List.getD_eq_getElem?_getD,List.getElem?_eq_getElem hlt] at h
   rw[List.getElem?_eq_getElem hlt,← h]
   rfl
  ·
   rename_i hge
   exact(List.getElem?_eq_none (Nat.le_of_not_lt hge)).symm
 ·
  rw[if_neg e]
theorem stepPure_at {h0 h:List Blk} (hm:MonoH h0 h) (op:Op) (hb:stepPure T s h0 op≠.bad):stepPure T s h op=stepPure T s h0 op:=by
 cases op with
 | load t x =>
  simp only[stepPure] at hb ⊢
  split
  ·
   rfl
  ·
   split
   ·
    rfl
   ·
    rename_i k off _
    cases hk:blkCells h0 k with
    | none=>simp_all
    | some cs=>rw[hm.cells hk]
   ·
    rfl
 | slice t x lo hi mx=>cases mx<;>rfl
 | call c =>
  obtain⟨callee,args,ts⟩:=c
  cases callee with
  | builtin b=>cases b<;>rfl
  | _=>rfl
 | _=>rfl
theorem QStep.mono {h0 h h':List Blk} {o:Oper} {v:AV} (hm:MonoH h0 h) (q:QStep P T h0 o s h v h'):MonoH h0 h':=by
 unfold QStep at q
 split at q
 ·
  exact q.1
 ·
  exact q.1▸hm
theorem QStep.vc {h0:List Blk} {o:Oper} {v:AV} {K:List AV→List Blk→Prop} (hm:MonoH h0 h) (q:QStep P T h0 o s h v h') (hk:K (put s o.dst v) h'):vcStep P T o s h K:=by
 obtain⟨dst,op,ty,pos,af,gd⟩:=o
 unfold QStep at q
 have fromPure:(∀ f args tys,op≠.call { callee:=.value f,args:=args,argTypes:=tys })→Op.eff op=false→h'=h→(match stepPure T s h0 op with
   | .ok u=>v=u
   | .side p u=>p∧v=u
   | .fact _ u=>v=u
   | .elem i es f=>∃ x,(0≤i∧es[i.toNat]?=some x)∧v=f x
   | .bad=>False)→(match stepPure T s h op with
  | .ok v=>K (put s dst v) h
  | .side p v=>p∧K (put s dst v) h
  | .fact p v=>p→K (put s dst v) h
  | .elem i es f=>∃ x,(0≤i∧es[i.toNat]?=some x)∧K (put s dst (f x)) h
  | .bad=>match stepHeap T s h op with
   | .ok v h'=>K (put s dst v) h'
   | .side p v h'=>p∧K (put s dst v) h'
   | .bad=>False):=by
  clear q
  intro _ _ he q
  subst he
  have hb:stepPure T s h0 op≠.bad:=fun e=>by rw[e] at q;exact q
  rw[stepPure_at hm op hb]
  generalize stepPure T s h0 op=r at q hb
  cases r with
  | ok u=>subst q;exact hk
  | side p u=>obtain⟨hp,rfl⟩:=q;exact⟨hp,hk⟩
  | fact p u=>subst q;exact fun _=>hk
  | elem i es f=>obtain⟨x,hx,rfl⟩:=q;exact⟨x,hx,hk⟩
  | bad=>exact q.elim
 have fromHeap:stepPure T s h op=.bad→(match stepHeap T s h op with
  | .ok u g=>v=u∧h'=g
  | .side p u g=>p∧v=u∧h'=g
  | .bad=>False)→(match stepPure T s h op with
  | .ok v=>K (put s dst v) h
  | .side p v=>p∧K (put s dst v) h
  | .fact p v=>p→K (put s dst v) h
  | .elem i es f=>∃ x,(0≤i∧es[i.toNat]?=some x)∧K (put s dst (f x)) h
  | .bad=>match stepHeap T s h op with
   | .ok v h'=>K (put s dst v) h'
   | .side p v h'=>p∧K (put s dst v) h'
   | .bad=>False):=by
  clear q
  intro he q
  rw[he]
  dsimp only
  generalize stepHeap T s h op=r at q
  cases r with
  | ok u g=>obtain⟨rfl,rfl⟩:=q;exact hk
  | side p u g=>obtain⟨hp,rfl,rfl⟩:=q;exact⟨hp,hk⟩
  | bad=>exact q.elim
 cases op with
 | call c =>
  obtain⟨callee,args,tys⟩:=c
  cases callee with
  | value f =>
   simp only[Op.eff] at q
   obtain⟨rfl,q⟩:=q
   simp only[vcStep]
   split at q
   ·
    rename_i hfe
    rw[hfe]
    exact q h' (fun r h'=>K (Abs.put s dst r) h') hm hk
   ·
    exact q.elim
  | builtin b =>
   cases b<;>first
    | exact fromHeap rfl q.2
    | exact fromPure (fun f args tys e=>by cases e) rfl q.1 q.2
  | invoke r m=>exact fromPure (fun f args tys e=>by cases e) rfl q.1 q.2
 | slice t x lo hi mx =>
  cases mx with
  | none=>exact fromPure (fun f args tys e=>by cases e) rfl q.1 q.2
  | some m=>exact fromHeap rfl q.2
 | box t x=>exact fromHeap rfl q.2
 | alloc t=>exact fromHeap rfl q.2
 | store t x y=>exact fromHeap rfl q.2
 | buildSlice t n ps=>exact fromHeap rfl q.2
 | makeSlice t x y=>exact fromHeap rfl q.2
 | mapUpdate t m k v=>exact fromHeap rfl q.2
 | _=>exact fromPure (fun f args tys e=>by cases e) rfl q.1 q.2
theorem Yield.mono {ops:Array Oper} {h0 h h':List Blk} {o:Oper} {v:AV} (hm:MonoH h0 h) (q:Yield P T ops h0 o s h v h'):MonoH h0 h':=by
 unfold Yield at q
 split at q
 ·
  exact QStep.mono hm q
 ·
  split at q
  ·
   split at q
   ·
    exact QStep.mono hm q
   ·
    exact q.2▸hm
  ·
   exact q.2▸hm
  ·
   exact q.elim
theorem Yield.vc {ops:Array Oper} {h0:List Blk} {o:Oper} {v:AV} {K:List AV→List Blk→Prop} (hm:MonoH h0 h) (q:Yield P T ops h0 o s h v h') (hk:K (put s o.dst v) h'):vcGuard P T ops o s h K:=by
 unfold Yield at q
 unfold vcGuard
 cases hg:o.guard with
 | none=>rw[hg] at q;exact QStep.vc hm q hk
 | some jw =>
  obtain⟨j,want⟩:=jw
  rw[hg] at q
  dsimp only at q ⊢
  unfold guardVal at q
  cases hgs:guardSlot ops j with
  | none=>rw[hgs] at q;exact q.elim
  | some d =>
   rw[hgs] at q
   dsimp only at q ⊢
   split at q
   ·
    rename_i b e
    rw[e]
    dsimp only
    have hs:=set_id e
    cases b<;>cases want<;>dsimp only at q ⊢<;>rw[hs]
    ·
     exact QStep.vc hm q hk
    ·
     obtain⟨rfl,rfl⟩:=q;exact hk
    ·
     obtain⟨rfl,rfl⟩:=q;exact hk
    ·
     exact QStep.vc hm q hk
   ·
    rename_i cs e
    rw[e]
    obtain⟨rfl,rfl⟩:=q
    exact hk
   ·
    exact q.elim
theorem opd_set {s:List AV} {d:Nat} {v:AV} {x:Operand} (hx:x≠.tmp d):opd (s.set d v) x=opd s x:=by
 cases x with
 | tmp t =>
  have:d≠t:=fun e=>hx (e▸rfl)
  simp only[opd,List.getD_eq_getElem?_getD,List.getElem?_set_ne this]
 | _=>rfl
theorem opd_put {s:List AV} {dst:Option Tmp} {v:AV} {x:Operand} (hx:∀ d,dst=some d→x≠.tmp d):opd (put s dst v) x=opd s x:=by
 cases dst with
 | none=>rfl
 | some d=>exact opd_set (hx d rfl)
theorem put_comm {s:List AV} {x y:Option Tmp} {v u:AV} (h:∀ d,x=some d→y≠some d):put (put s x v) y u=put (put s y u) x v:=by
 cases x with
 | none=>rfl
 | some d =>
  cases y with
  | none=>rfl
  | some e =>
   have:d≠e:=fun e'=>h d rfl (by rw[e'])
   exact List.set_comm _ _ this
theorem map_opd {s s':List AV} {l:List Operand} (h:∀ x∈l,opd s x=opd s' x):l.map (opd s)=l.map (opd s'):=List.map_congr_left h
theorem stepPure_congr {s s':List AV} {h:List Blk} (op:Op) (ho:∀ x∈op.operands.toList,opd s x=opd s' x):stepPure T s h op=stepPure T s' h op:=by
 cases op with
 | move x=>simp only[stepPure];rw[ho x (by simp[Op.operands])]
 | assign x=>simp only[stepPure];rw[ho x (by simp[Op.operands])]
 | pick c a b=>simp only[stepPure];rw[ho c (by simp[Op.operands]),ho a (by simp[Op.operands]),ho b (by simp[Op.operands])]
 | load t x=>simp only[stepPure];rw[ho x (by simp[Op.operands])]
 | fieldAddr t x f=>simp only[stepPure];rw[ho x (by simp[Op.operands])]
 | field t x f=>simp only[stepPure];rw[ho x (by simp[Op.operands])]
 | indexAddr t x i=>simp only[stepPure];rw[ho x (by simp[Op.operands]),ho i (by simp[Op.operands])]
 | index t x i=>simp only[stepPure];rw[ho x (by simp[Op.operands]),ho i (by simp[Op.operands])]
 | binOp op t x y u=>simp only[stepPure];rw[ho x (by simp[Op.operands]),ho y (by simp[Op.operands])]
 | unOp op t x=>simp only[stepPure];rw[ho x (by simp[Op.operands])]
 | extract x i=>simp only[stepPure];rw[ho x (by simp[Op.operands])]
 | convert t u x=>simp only[stepPure];rw[ho x (by simp[Op.operands])]
 | nilCheck x=>simp only[stepPure];rw[ho x (by simp[Op.operands])]
 | build t ps =>
  simp only[stepPure]
  have:(ps.toList.map fun p=>(p.1,opd s p.2))=ps.toList.map fun p=>(p.1,opd s' p.2):=List.map_congr_left fun p hp=>by
   rw[ho p.2 (by simp only[Op.operands];exact List.mem_map.2 ⟨p,hp,rfl⟩)]
  rw[this]
 | makeFunc f xs ys =>
  simp only[stepPure]
  rw[map_opd (s':=s') (l:=xs.toList) fun x hx=>ho x (by simp only[Op.operands,Array.toList_append,List.mem_append];exact .inl hx),
   map_opd (s':=s') (l:=ys.toList) fun x hx=>ho x (by simp only[Op.operands,Array.toList_append,List.mem_append];exact .inr hx)]
 | slice t x lo hi mx =>
  cases mx with
  | some m=>rfl
  | none =>
   simp only[stepPure]
   have hlo:lo.map (opd s)=lo.map (opd s'):=by
    cases lo with
    | none=>rfl
    | some l=>simp only[Option.map_some];rw[ho l (by simp[Op.operands])]
   have hhi:hi.map (opd s)=hi.map (opd s'):=by
    cases hi with
    | none=>rfl
    | some l=>simp only[Option.map_some];rw[ho l (by simp[Op.operands])]
   rw[ho x (by simp[Op.operands]),hlo,hhi]
 | call c =>
  obtain⟨callee,args,ts⟩:=c
  cases callee with
  | builtin b =>
   have hargs:∀ x∈args.toList,opd s x=opd s' x:=fun x hx=>ho x (by simp only[Op.operands,Call.operands,Array.toList_append,List.mem_append];exact .inr hx)
   cases b<;>first|rfl|skip
   ·
    simp only[stepPure]
    split
    ·
     rename_i x t ha ht
     rw[hargs x (by rw[ha];simp)]
    ·
     rfl
   ·
    simp only[stepPure];rw[map_opd hargs]
   ·
    simp only[stepPure];rw[map_opd hargs]
  | _=>rfl
 | _=>rfl
theorem looks_operand {ops:Array Oper} {o:Oper} {d:Nat} (h:d ∉ o.looksAt ops):∀ x∈o.op.operands.toList,x≠.tmp d:=by
 intro x hx e
 subst e
 apply h
 unfold Oper.looksAt
 exact List.mem_append.2 (.inl (List.mem_filterMap.2 ⟨.tmp d,hx,rfl⟩))
theorem stepHeap_congr {h:List Blk} (op:Op) (ho:∀ x∈op.operands.toList,opd s x=opd s' x):stepHeap T s h op=stepHeap T s' h op:=by
 cases op with
 | box t x=>simp only[stepHeap];rw[ho x (by simp[Op.operands])]
 | alloc t=>rfl
 | store t a x=>simp only[stepHeap];rw[ho a (by simp[Op.operands]),ho x (by simp[Op.operands])]
 | buildSlice t n ps =>
  simp only[stepHeap]
  have:(ps.toList.map fun p=>opd s p.2)=ps.toList.map fun p=>opd s' p.2:=List.map_congr_left fun p hp=>by
   rw[ho p.2 (by simp only[Op.operands];exact List.mem_map.2 ⟨p,hp,rfl⟩)]
  rw[this]
 | makeSlice t l c=>simp only[stepHeap];rw[ho l (by simp[Op.operands]),ho c (by simp[Op.operands])]
 | slice t x lo hi mx =>
  cases hi with
  | none=>rfl
  | some hi =>
   cases mx with
   | none=>rfl
   | some m =>
    simp only[stepHeap]
    have hlo:lo.map (opd s)=lo.map (opd s'):=by
     cases lo with
     | none=>rfl
     | some l=>simp only[Option.map_some];rw[ho l (by simp[Op.operands])]
    rw[ho x (by simp[Op.operands]),hlo,ho hi (by simp[Op.operands]),ho m (by simp[Op.operands])]
 | call c =>
  obtain⟨callee,args,ts⟩:=c
  cases callee with
  | builtin b =>
   have hargs:∀ x∈args.toList,opd s x=opd s' x:=fun x hx=>ho x (by simp only[Op.operands,Call.operands,Array.toList_append,List.mem_append];exact .inr hx)
   cases b<;>first|rfl|skip
   all_goals simp only[stepHeap]
   all_goals split
   ·
    rename_i x y t u ha ht
    rw[hargs x (by rw[ha];simp),hargs y (by rw[ha];simp)]
   ·
    rfl
   ·
    rename_i x y t u ha ht
    rw[hargs x (by rw[ha];simp),hargs y (by rw[ha];simp)]
   ·
    rfl
   ·
    rename_i x t ha ht
    rw[hargs x (by rw[ha];simp)]
   ·
    rfl
  | _=>rfl
 | makeMap t r=>cases r<;>rfl
 | range t x=>simp only[stepHeap];rw[ho x (by simp[Op.operands])]
 | next x q=>simp only[stepHeap];rw[ho x (by simp[Op.operands])]
 | lookup t x i ok=>simp only[stepHeap];rw[ho x (by simp[Op.operands]),ho i (by simp[Op.operands])]
 | mapUpdate t m k v=>simp only[stepHeap];rw[ho m (by simp[Op.operands]),ho k (by simp[Op.operands]),ho v (by simp[Op.operands])]
 | _=>rfl
theorem QStep.put {ops:Array Oper} {h0 h h':List Blk} {o:Oper} {s:List AV} {u:AV} {dst:Option Tmp} {v:AV} (hd:∀ d,dst=some d→d ∉ o.looksAt ops):QStep P T h0 o (put s dst v) h u h'↔QStep P T h0 o s h u h':=by
 have ho:∀ x∈o.op.operands.toList,opd (Abs.put s dst v) x=opd s x:=fun x hx=>opd_put fun d e=>looks_operand (hd d e) x hx
 unfold QStep
 split
 ·
  rw[stepHeap_congr o.op ho]
 ·
  split
  ·
   rename_i f args ts hop
   have hf:opd (Abs.put s dst v) f=opd s f:=ho f (by rw[hop];simp[Op.operands,Call.operands])
   have hargs:args.toList.map (opd (Abs.put s dst v))=args.toList.map (opd s):=map_opd fun x hx=>ho x (by rw[hop];simp only[Op.operands,Call.operands,Array.toList_append,List.mem_append];exact .inr hx)
   rw[hf,hargs]
  ·
   rw[stepPure_congr o.op ho]
theorem guardVal_put {ops:Array Oper} {o:Oper} {s:List AV} {dst:Option Tmp} {v:AV} {j:Nat} {want:Bool} (hg:o.guard=some (j,want)) (hd:∀ d,dst=some d→d ∉ o.looksAt ops):guardVal ops (put s dst v) j=guardVal ops s j:=by
 unfold guardVal
 cases hgs:guardSlot ops j with
 | none=>rfl
 | some e =>
  cases dst with
  | none=>rfl
  | some d =>
   have hne:d≠e:=by
    rintro rfl
    apply hd d rfl
    unfold Oper.looksAt
    rw[hg]
    refine List.mem_append.2 (.inr ?_)
    unfold guardSlot at hgs
    cases ho:ops.toList[j]? with
    | none=>rw[ho] at hgs;cases hgs
    | some o' =>
     rw[ho] at hgs
     have:ops[j]?=some o':=by simpa using ho
     simp[this,hgs]
   simp only[put,List.getD_eq_getElem?_getD,List.getElem?_set_ne hne]
theorem Yield.put {ops:Array Oper} {h0 h h':List Blk} {o:Oper} {s:List AV} {u:AV} {dst:Option Tmp} {v:AV} (hd:∀ d,dst=some d→d ∉ o.looksAt ops):Yield P T ops h0 o (put s dst v) h u h'↔Yield P T ops h0 o s h u h':=by
 unfold Yield
 cases hg:o.guard with
 | none=>exact QStep.put hd
 | some jw =>
  obtain⟨j,want⟩:=jw
  dsimp only
  rw[guardVal_put hg hd,QStep.put hd]
theorem Yield.quiet {ops:Array Oper} {h0 h h' g:List Blk} {o:Oper} {v:AV} (he:Op.eff o.op=false) (q:Yield P T ops h0 o s h v h'):h'=h∧Yield P T ops h0 o s g v g:=by
 unfold Yield at q ⊢
 unfold QStep at q ⊢
 rw[he] at q ⊢
 dsimp only at q ⊢
 cases hg:o.guard with
 | none =>
  rw[hg] at q
  exact⟨q.1,rfl,q.2⟩
 | some jw =>
  obtain⟨j,want⟩:=jw
  rw[hg] at q
  dsimp only at q ⊢
  generalize guardVal ops s j=gv at q
  split at q
  ·
   split at q
   ·
    exact⟨q.1,rfl,q.2⟩
   ·
    exact⟨q.2,q.1,rfl⟩
  ·
   exact⟨q.2,q.1,rfl⟩
  ·
   exact q.elim
def AnyY (P:Program) (T:TypeId→TI) (ops:Array Oper) (h0:List Blk) (K:List AV→List Blk→Prop):Nat→Array Bool→List AV→List Blk→Prop
 | 0,listed,s,h=>Region.ready .any ops listed=[]∧K s h
 | fuel+1,listed,s,h=>(Region.ready .any ops listed=[]→K s h) ∧
  ∀ i∈Region.ready .any ops listed,∃ o v h',ops[i]?=some o∧Yield P T ops h0 o s h v h'∧AnyY P T ops h0 K fuel (listed.setIfInBounds i true) (put s o.dst v) h'
def Oper.apartE (ops:Array Oper) (x y:Oper):Bool:=x.apart ops y&&!(Op.eff x.op&&Op.eff y.op)
theorem anyY_first {ops:Array Oper} {h0:List Blk} {K:List AV→List Blk→Prop} {i:Nat} {oi:Oper} {v:AV} (hi:ops[i]?=some oi) (D:Nat→Bool)
  (hD:∀ j oj,ops[j]?=some oj→D j=true→∃ e∈oj.after,Region.binds .any e=true∧(e.on=i∨D e.on=true)) :
  ∀(fuel:Nat) (listed:Array Bool) (s:List AV) (h h1:List Blk),(∀ j,D j=true→listed.getD j true=false)→(∀ j oj,ops[j]?=some oj→j≠i→listed.getD j true=false→D j=false→Oper.apartE ops oi oj=true) →
   i∈Region.ready .any ops listed→Yield P T ops h0 oi s h v h1→AnyY P T ops h0 K fuel (listed.setIfInBounds i true) (put s oi.dst v) h1→AnyY P T ops h0 K (fuel+1) listed s h:=by
 intro fuel
 induction fuel with
 | zero =>
  intro listed s h h1 _ _ hr hy H
  refine⟨fun h=>(by rw[h] at hr;cases hr),fun j hj=>?_⟩
  by_cases hji:j=i
  ·
   subst hji;exact⟨oi,v,h1,hi,hy,H⟩
  ·
   have:=ready_mono hj hji
   rw[H.1] at this
   cases this
 | succ fuel ih =>
  intro listed s h h1 hDl hfree hr hy H
  refine⟨fun h=>(by rw[h] at hr;cases hr),fun j hj=>?_⟩
  by_cases hji:j=i
  ·
   subst hji;exact⟨oi,v,h1,hi,hy,H⟩
  ·
   obtain⟨oj,u,h2,hoj,hyj,H1⟩:=H.2 j (ready_mono hj hji)
   obtain⟨hjun,oj',hoj',hall⟩:=mem_ready.1 hj
   rw[hoj] at hoj'
   cases hoj'
   have hnot:D j=false:=by
    cases hDj:D j with
    | false=>rfl
    | true =>
     exfalso
     obtain⟨e,he,hb,hor⟩:=hD j oj hoj hDj
     have h1:=hall e he hb
     rcases hor with heq|hDe
     ·
      have h0:=(mem_ready.1 hr).1
      rw[heq] at h1
      rcases Nat.lt_or_ge i listed.size with h'|h'
      ·
       simp[h'] at h0 h1;rw[h0] at h1;cases h1
      ·
       simp[Array.getElem?_eq_none h'] at h1
     ·
      have h0:=hDl e.on hDe
      rcases Nat.lt_or_ge e.on listed.size with h'|h'
      ·
       simp[h'] at h0 h1;rw[h0] at h1;cases h1
      ·
       simp[Array.getElem?_eq_none h'] at h1
   have hap:=hfree j oj hoj hji hjun hnot
   simp only[Oper.apartE,Bool.and_eq_true,Bool.not_eq_true',Bool.and_eq_false_iff] at hap
   obtain⟨a1,a2,a3⟩:=Oper.apart_spec hap.1
   have hyj':Yield P T ops h0 oj s h1 u h2:=(Yield.put a1).1 hyj
   have hyi':Yield P T ops h0 oi (put s oj.dst u) h v h1:=(Yield.put a3).2 hy
   have hfree':∀ k ok,ops[k]?=some ok→k≠i→(listed.setIfInBounds j true).getD k true=false →
     D k=false→Oper.apartE ops oi ok=true:=fun k ok hk hki hun hno=>by
    refine hfree k ok hk hki ?_ hno
    by_cases hjk:j=k
    ·
     subst hjk;exact hjun
    ·
     rw[getD_set_ne true hjk] at hun;exact hun
   have hDl':∀ k,D k=true→(listed.setIfInBounds j true).getD k true=false:=fun k hk=>by
    have hjk:j≠k:=fun e=>by subst e;rw[hnot] at hk;cases hk
    rw[getD_set_ne true hjk]
    exact hDl k hk
   rcases hap.2 with he|he
   ·
    obtain⟨rfl,hyi2⟩:=hyi'.quiet (g:=h2) he
    refine⟨oj,u,h2,hoj,hyj',ih (listed.setIfInBounds j true) _ _ _ hDl' hfree' (ready_mono hr (Ne.symm hji)) hyi2 ?_⟩
    rw[Array.setIfInBounds_comm _ _ hji,← put_comm a2]
    exact H1
   ·
    obtain⟨rfl,hyj2⟩:=hyj'.quiet (g:=h) he
    refine⟨oj,u,h,hoj,hyj2,ih (listed.setIfInBounds j true) _ _ _ hDl' hfree' (ready_mono hr (Ne.symm hji)) hyi' ?_⟩
    rw[Array.setIfInBounds_comm _ _ hji,← put_comm a2]
    exact H1
def waitsFor (ops:Array Oper) (i:Nat):Array Bool :=
 ops.foldl (fun acc o=>acc.push (o.after.any fun e=>Region.binds .any e&&(e.on==i || acc.getD e.on false))) #[]
theorem waitsFor_size (ops:Array Oper) (i:Nat):(waitsFor ops i).size=ops.size:=by
 unfold waitsFor
 rw[← Array.foldl_toList]
 have key:∀(l:List Oper) (acc:Array Bool),(l.foldl (fun acc o=>acc.push (o.after.any fun e=>Region.binds .any e&&(e.on==i || acc.getD e.on false))) acc).size=acc.size+l.length:=by
  intro l
  induction l with
  | nil=>intro acc;rfl
  | cons o l ih=>intro acc;rw[List.foldl_cons,ih];simp;omega
 rw[key]
 simp
def freeE (ops:Array Oper) (listed:Array Bool) (i:Nat):Bool :=
 let D:=waitsFor ops i
 match ops[i]? with
 | none=>false
 | some oi=>(List.range ops.size).all fun j=>match ops[j]? with
   | some oj=>(!(D.getD j false) || (oj.after.any (fun e=>Region.binds .any e&&(e.on==i || D.getD e.on false))&&!(listed.getD j true)))&&(j==i || listed.getD j true || D.getD j false || Oper.apartE ops oi oj)
   | none=>true
theorem freeE_spec {ops:Array Oper} {i:Nat} {oi:Oper} {listed:Array Bool} (hi:ops[i]?=some oi) (h:freeE ops listed i=true) :
  ∃ D:Nat→Bool,(∀ j oj,ops[j]?=some oj→D j=true→∃ e∈oj.after,Region.binds .any e=true∧(e.on=i∨D e.on=true))∧(∀ j,D j=true→listed.getD j true=false) ∧
   (∀ j oj,ops[j]?=some oj→j≠i→listed.getD j true=false→D j=false→Oper.apartE ops oi oj=true)∧∀ j,j<ops.size→(waitsFor ops i).getD j false=true→D j=true:=by
 simp only[freeE,hi,List.all_eq_true,List.mem_range] at h
 have at':∀ j oj,ops[j]?=some oj→((waitsFor ops i).getD j false=false∨(oj.after.any (fun e=>Region.binds .any e&&(e.on==i || (waitsFor ops i).getD e.on false))=true∧listed.getD j true=false)) ∧
   (j=i∨listed.getD j true=true∨(waitsFor ops i).getD j false=true∨Oper.apartE ops oi oj=true):=by
  intro j oj hj
  have h1:=h j (Array.getElem?_eq_some_iff.1 hj).1
  simp only[hj,Bool.and_eq_true,Bool.or_eq_true,Bool.not_eq_true',beq_iff_eq] at h1
  refine⟨h1.1,?_⟩
  rcases h1.2 with ((h2|h2)|h2)|h2
  ·
   exact .inl h2
  ·
   exact .inr (.inl h2)
  ·
   exact .inr (.inr (.inl h2))
  ·
   exact .inr (.inr (.inr h2))
 refine⟨fun j=>decide (j<ops.size)&&(waitsFor ops i).getD j false,fun j oj hj hD=>?_,fun j hD=>?_,fun j oj hj hne hun hD=>?_,fun j hj hw=>by show(decide (j<ops.size)&&(waitsFor ops i).getD j false)=true;rw[decide_eq_true hj,hw];rfl⟩
 ·
  simp only[Bool.and_eq_true,decide_eq_true_eq] at hD
  rcases(at' j oj hj).1 with g|g
  ·
   rw[hD.2] at g;cases g
  ·
   obtain⟨e,he,hb⟩:=Array.any_eq_true'.1 g.1
   simp only[Bool.and_eq_true,Bool.or_eq_true,beq_iff_eq] at hb
   refine⟨e,he,hb.1,?_⟩
   rcases hb.2 with q|q
   ·
    exact .inl q
   ·
    by_cases hlt:e.on<ops.size
    ·
     right;simp[hlt,q]
    ·
     exact absurd q (by
      have hs:(waitsFor ops i).size=ops.size:=waitsFor_size ops i
      simp[Array.getElem?_eq_none (by rw[hs];omega:(waitsFor ops i).size≤e.on)])
 ·
  simp only[Bool.and_eq_true,decide_eq_true_eq] at hD
  have hj:ops[j]?=some ops[j]:=Array.getElem?_eq_getElem hD.1
  rcases(at' j _ hj).1 with g|g
  ·
   rw[hD.2] at g;cases g
  ·
   exact g.2
 ·
  have hlt:=(Array.getElem?_eq_some_iff.1 hj).1
  simp only[hlt,decide_true,Bool.true_and] at hD
  rcases(at' j oj hj).2 with g|g|g|g
  ·
   exact absurd g hne
  ·
   rw[hun] at g;cases g
  ·
   rw[hD] at g;cases g
  ·
   exact g
def lexFromE (ops:Array Oper):Nat→Nat→Array Bool→Bool
 | 0,_,listed=>(Region.ready .any ops listed).isEmpty
 | fuel+1,k,listed=>(Region.ready .any ops listed).contains k&&freeE ops listed k&&lexFromE ops fuel (k+1) (listed.setIfInBounds k true)
def lexE (ops:Array Oper):Bool:=lexFromE ops ops.size 0 (Array.replicate ops.size false)
def LexY (P:Program) (T:TypeId→TI) (ops:Array Oper) (h0:List Blk) (K:List AV→List Blk→Prop):List Oper→List AV→List Blk→Prop
 | [],s,h=>K s h
 | o::l,s,h=>∃ v h',Yield P T ops h0 o s h v h'∧LexY P T ops h0 K l (put s o.dst v) h'
theorem anyY_lex {ops:Array Oper} {h0:List Blk} {K:List AV→List Blk→Prop}:∀(l:List Oper) (k:Nat) (listed:Array Bool) (s:List AV) (h:List Blk),(∀ j,l[j]?=ops[k+j]?) →
  lexFromE ops l.length k listed=true→LexY P T ops h0 K l s h→AnyY P T ops h0 K l.length listed s h
 | [],_,_,_,_,_,hB,hl=>⟨by simpa[lexFromE] using hB,hl⟩
 | o::l,k,listed,s,h,hl,hB,hx=>by
  have h0:ops[k]?=some o:=by simpa using (hl 0).symm
  simp only[List.length_cons,lexFromE,Bool.and_eq_true] at hB
  obtain⟨⟨hr,hf⟩,hB'⟩:=hB
  obtain⟨v,h',hy,hK⟩:=hx
  obtain⟨D,hD1,hD2,hD3,_⟩:=freeE_spec h0 hf
  exact anyY_first h0 D hD1 l.length listed s h h' hD2 hD3 (by simpa using hr) hy
   (anyY_lex l (k+1) _ _ _ (fun j=>by have:=hl (j+1);simpa[Nat.add_assoc,Nat.add_comm 1 j] using this) hB' hK)
theorem anyY_sound (hT:TabOK P T) {ops:Array Oper} {h0:List Blk} {K:List AV→List Blk→Prop} {Q:Exit→Act→World→Prop} {ro:Option Nat}:∀(fuel:Nat) (listed:Array Bool) {S:Addr→Prop} {φ:Nat→Loc} {h:List Blk} {w:World} {s:List AV} {a:Act},
  MK n0 S φ h w a.defers→CAll S w φ s a.tmps→R S φ h w→MonoH h0 h→AnyY P T ops h0 K fuel listed s h→(∀ a' w',Conc n0 K S φ h w a' w'→Q .normal a' w')→wpAnyIn (FW ro) 0 P .any ops Q fuel listed a w
 | 0,_,_,_,_,_,_,_,hd,hs,hr,_,hv,hK=>⟨hv.1,hK _ _ ⟨_,_,_,_,hv.2,hd,hs,hr,Ext.refl _ _ _ _⟩⟩
 | fuel+1,listed,S,φ,h,w,s,a,hd,hs,hr,hm,hv,hK=>by
  refine⟨fun h0=>hK _ _ ⟨_,_,_,_,hv.1 h0,hd,hs,hr,Ext.refl _ _ _ _⟩,fun i hi=>?_⟩
  obtain⟨o,v,h',ho,hy,hA⟩:=hv.2 i hi
  have hm':=hy.mono hm
  have hg:=vcGuard_sound (Q:=Q) (ro:=ro) (Kc:=fun a' w'=>wpAnyIn (FW ro) 0 P .any ops Q fuel (listed.setIfInBounds i true) a' w') hT o hd hs hr
   (Yield.vc (K:=fun s' h''=>MonoH h0 h''∧AnyY P T ops h0 K fuel (listed.setIfInBounds i true) s' h'') hm hy ⟨hm',hA⟩) (by
    rintro a' w' ⟨s1,h1,S1,φ1,⟨hm1,hA1⟩,hd1,hs1,hr1,he1⟩
    refine anyY_sound hT fuel _ hd1 hs1 hr1 hm1 hA1 fun a'' w'' k=>hK _ _ ?_
    obtain⟨s2,h2,S2,φ2,k1,k2,k3,k4,k5⟩:=k
    exact⟨s2,h2,S2,φ2,k1,k2,k3,k4,he1.trans k5⟩)
  unfold wpOpIn
  simp only[ho]
  split
  ·
   rename_i hw
   rw[if_pos hw] at hg
   exact hg
  ·
   rename_i hw
   rw[if_neg hw] at hg
   exact hg
theorem lexY_sound (hT:TabOK P T) (hmo:P.follows .mixedOrders=true) {id:Nat} {ops:Array Oper} {K:List AV→List Blk→Prop} {Q:Exit→Act→World→Prop} {ro:Option Nat} (hB:lexE ops=true) {h0:List Blk} (hm:MonoH h0 h) (hd:MK n0 S φ h w a.defers) (hs:CAll S w φ s a.tmps) (hr:R S φ h w)
  (hv:LexY P T ops h0 K ops.toList s h) (hK:∀ a' w',Conc n0 K S φ h w a' w'→Q .normal a' w'):(Code.region id ops true).wpIn (FW ro) 0 P Q a w:=by
 refine wpIn_region_any hmo (anyY_sound (K:=K) (h0:=h0) hT ops.size _ (hd.ext (Ext.drew S φ h w)) ((Ext.drew S φ h w).CAll hs) hr.drew hm ?_ ?_)
 ·
  have:=anyY_lex (P:=P) (T:=T) (h0:=h0) (K:=K) ops.toList 0 (Array.replicate ops.size false) s h (by simp) (by simpa[lexE] using hB) hv
  simpa using this
 ·
  rintro a' w' ⟨s2,h2,S2,φ2,k1,k2,k3,k4,k5⟩
  exact hK _ _ ⟨s2,h2,S2,φ2,k1,k2,k3,k4,(Ext.drew S φ h w).trans k5⟩
def AnyZ (P:Program) (T:TypeId→TI) (ops:Array Oper) (h0:List Blk) (m:Nat) (B:List AV→List Blk→Prop):Nat→Array Bool→List AV→List Blk→Prop
 | 0,listed,s,h=>Region.ready .any ops listed=[m]∧Region.ready .any ops (listed.setIfInBounds m true)=[]∧B s h
 | fuel+1,listed,s,h=>Region.ready .any ops listed≠[] ∧
  ∀ i∈Region.ready .any ops listed,∃ o v h',ops[i]?=some o∧Yield P T ops h0 o s h v h'∧AnyZ P T ops h0 m B fuel (listed.setIfInBounds i true) (put s o.dst v) h'
theorem anyZ_first {ops:Array Oper} {h0:List Blk} {m:Nat} {B:List AV→List Blk→Prop} {i:Nat} {oi:Oper} {v:AV} (hi:ops[i]?=some oi) (D:Nat→Bool)
  (hD:∀ j oj,ops[j]?=some oj→D j=true→∃ e∈oj.after,Region.binds .any e=true∧(e.on=i∨D e.on=true)) (hm:D m=true) :
  ∀(fuel:Nat) (listed:Array Bool) (s:List AV) (h h1:List Blk),(∀ j,D j=true→listed.getD j true=false)→(∀ j oj,ops[j]?=some oj→j≠i→listed.getD j true=false→D j=false→Oper.apartE ops oi oj=true) →
   i∈Region.ready .any ops listed→Yield P T ops h0 oi s h v h1→AnyZ P T ops h0 m B fuel (listed.setIfInBounds i true) (put s oi.dst v) h1→AnyZ P T ops h0 m B (fuel+1) listed s h:=by
 intro fuel
 have hnotD:∀(listed:Array Bool),(∀ j,D j=true→listed.getD j true=false)→i∈Region.ready .any ops listed→∀ j,j∈Region.ready .any ops listed→D j=false:=by
  intro listed hDl hr j hj
  obtain⟨hjun,oj,hoj,hall⟩:=mem_ready.1 hj
  cases hDj:D j with
  | false=>rfl
  | true =>
   exfalso
   obtain⟨e,he,hb,hor⟩:=hD j oj hoj hDj
   have h1:=hall e he hb
   rcases hor with heq|hDe
   ·
    have h0:=(mem_ready.1 hr).1
    rw[heq] at h1
    rcases Nat.lt_or_ge i listed.size with h'|h'
    ·
     simp[h'] at h0 h1;rw[h0] at h1;cases h1
    ·
     simp[Array.getElem?_eq_none h'] at h1
   ·
    have h0:=hDl e.on hDe
    rcases Nat.lt_or_ge e.on listed.size with h'|h'
    ·
     simp[h'] at h0 h1;rw[h0] at h1;cases h1
    ·
     simp[Array.getElem?_eq_none h'] at h1
 induction fuel with
 | zero =>
  intro listed s h h1 hDl _ hr hy H
  refine⟨fun h=>(by rw[h] at hr;cases hr),fun j hj=>?_⟩
  by_cases hji:j=i
  ·
   subst hji;exact⟨oi,v,h1,hi,hy,H⟩
  ·
   have:=ready_mono hj hji
   rw[H.1] at this
   have e:j=m:=by simpa using this
   subst e
   have:=hnotD listed hDl hr j hj
   rw[hm] at this
   cases this
 | succ fuel ih =>
  intro listed s h h1 hDl hfree hr hy H
  refine⟨fun h=>(by rw[h] at hr;cases hr),fun j hj=>?_⟩
  by_cases hji:j=i
  ·
   subst hji;exact⟨oi,v,h1,hi,hy,H⟩
  ·
   obtain⟨oj,u,h2,hoj,hyj,H1⟩:=H.2 j (ready_mono hj hji)
   obtain⟨hjun,oj',hoj',hall⟩:=mem_ready.1 hj
   rw[hoj] at hoj'
   cases hoj'
   have hnot:D j=false:=hnotD listed hDl hr j hj
   have hap:=hfree j oj hoj hji hjun hnot
   simp only[Oper.apartE,Bool.and_eq_true,Bool.not_eq_true',Bool.and_eq_false_iff] at hap
   obtain⟨a1,a2,a3⟩:=Oper.apart_spec hap.1
   have hyj':Yield P T ops h0 oj s h1 u h2:=(Yield.put a1).1 hyj
   have hyi':Yield P T ops h0 oi (put s oj.dst u) h v h1:=(Yield.put a3).2 hy
   have hfree':∀ k ok,ops[k]?=some ok→k≠i→(listed.setIfInBounds j true).getD k true=false →
     D k=false→Oper.apartE ops oi ok=true:=fun k ok hk hki hun hno=>by
    refine hfree k ok hk hki ?_ hno
    by_cases hjk:j=k
    ·
     subst hjk;exact hjun
    ·
     rw[getD_set_ne true hjk] at hun;exact hun
   have hDl':∀ k,D k=true→(listed.setIfInBounds j true).getD k true=false:=fun k hk=>by
    have hjk:j≠k:=fun e=>by subst e;rw[hnot] at hk;cases hk
    rw[getD_set_ne true hjk]
    exact hDl k hk
   rcases hap.2 with he|he
   ·
    obtain⟨rfl,hyi2⟩:=hyi'.quiet (g:=h2) he
    refine⟨oj,u,h2,hoj,hyj',ih (listed.setIfInBounds j true) _ _ _ hDl' hfree' (ready_mono hr (Ne.symm hji)) hyi2 ?_⟩
    rw[Array.setIfInBounds_comm _ _ hji,← put_comm a2]
    exact H1
   ·
    obtain⟨rfl,hyj2⟩:=hyj'.quiet (g:=h) he
    refine⟨oj,u,h,hoj,hyj2,ih (listed.setIfInBounds j true) _ _ _ hDl' hfree' (ready_mono hr (Ne.symm hji)) hyi' ?_⟩
    rw[Array.setIfInBounds_comm _ _ hji,← put_comm a2]
    exact H1
def lexFromZ (ops:Array Oper) (m:Nat):Nat→Nat→Array Bool→Bool
 | 0,_,listed=>(Region.ready .any ops listed==[m])&&(Region.ready .any ops (listed.setIfInBounds m true)).isEmpty
 | fuel+1,k,listed=>(Region.ready .any ops listed).contains k&&freeE ops listed k&&(decide (m<ops.size)&&(waitsFor ops k).getD m false)&&lexFromZ ops m fuel (k+1) (listed.setIfInBounds k true)
def lexZ (ops:Array Oper) (m:Nat):Bool:=lexFromZ ops m m 0 (Array.replicate ops.size false)
theorem anyZ_lex {ops:Array Oper} {h0:List Blk} {m:Nat} {B:List AV→List Blk→Prop}:∀(l:List Oper) (k:Nat) (listed:Array Bool) (s:List AV) (h:List Blk),(∀(j:Nat) o,l[j]?=some o→ops[k+j]?=some o) →
  lexFromZ ops m l.length k listed=true→LexY P T ops h0 B l s h→AnyZ P T ops h0 m B l.length listed s h
 | [],_,_,_,_,_,hB,hl=>by
  simp only[List.length_nil,lexFromZ,Bool.and_eq_true,beq_iff_eq,List.isEmpty_iff] at hB
  exact⟨hB.1,hB.2,hl⟩
 | o::l,k,listed,s,h,hl,hB,hx=>by
  have h0:ops[k]?=some o:=by simpa using hl 0 o rfl
  simp only[List.length_cons,lexFromZ,Bool.and_eq_true] at hB
  obtain⟨⟨⟨hr,hf⟩,hw⟩,hB'⟩:=hB
  obtain⟨v,h',hy,hK⟩:=hx
  obtain⟨D,hD1,hD2,hD3,hD4⟩:=freeE_spec h0 hf
  exact anyZ_first h0 D hD1 (hD4 m (of_decide_eq_true hw.1) hw.2) l.length listed s h h' hD2 hD3 (by simpa using hr) hy
   (anyZ_lex l (k+1) _ _ _ (fun j o hj=>by have:=hl (j+1) o (by simpa using hj);simpa[Nat.add_assoc,Nat.add_comm 1 j] using this) hB' hK)
theorem anyZ_sound (hT:TabOK P T) {ops:Array Oper} {h0:List Blk} {m:Nat} {om:Oper} (hom:ops[m]?=some om) {K:List AV→List Blk→Prop} {Q:Exit→Act→World→Prop} {ro:Option Nat}:∀(fuel:Nat) (listed:Array Bool) {S:Addr→Prop} {φ:Nat→Loc} {h:List Blk} {w:World} {s:List AV} {a:Act},
  MK n0 S φ h w a.defers→CAll S w φ s a.tmps→R S φ h w→MonoH h0 h→AnyZ P T ops h0 m (fun s h=>vcGuard P T ops om s h K) fuel listed s h→(∀ a' w',Conc n0 K S φ h w a' w'→Q .normal a' w')→wpAnyIn (FW ro) 0 P .any ops Q (fuel+1) listed a w
 | 0,listed,S,φ,h,w,s,a,hd,hs,hr,_,hv,hK=>by
  obtain⟨hv1,hv2,hv3⟩:=hv
  refine⟨fun h0=>(by rw[hv1] at h0;cases h0),fun i hi=>?_⟩
  have e:i=m:=by rw[hv1] at hi;simpa using hi
  subst e
  have hg:=vcGuard_sound (Q:=Q) (ro:=ro) (Kc:=fun a' w'=>wpAnyIn (FW ro) 0 P .any ops Q 0 (listed.setIfInBounds i true) a' w') hT om hd hs hr hv3 (by
    rintro a' w' k
    exact⟨hv2,hK _ _ k⟩)
  unfold wpOpIn
  simp only[hom]
  split
  ·
   rename_i hw
   rw[if_pos hw] at hg
   exact hg
  ·
   rename_i hw
   rw[if_neg hw] at hg
   exact hg
 | fuel+1,listed,S,φ,h,w,s,a,hd,hs,hr,hm,hv,hK=>by
  refine⟨fun h0=>absurd h0 hv.1,fun i hi=>?_⟩
  obtain⟨o,v,h',ho,hy,hA⟩:=hv.2 i hi
  have hm':=hy.mono hm
  have hg:=vcGuard_sound (Q:=Q) (ro:=ro) (Kc:=fun a' w'=>wpAnyIn (FW ro) 0 P .any ops Q (fuel+1) (listed.setIfInBounds i true) a' w') hT o hd hs hr
   (Yield.vc (K:=fun s' h''=>MonoH h0 h''∧AnyZ P T ops h0 m (fun s h=>vcGuard P T ops om s h K) fuel (listed.setIfInBounds i true) s' h'') hm hy ⟨hm',hA⟩) (by
    rintro a' w' ⟨s1,h1,S1,φ1,⟨hm1,hA1⟩,hd1,hs1,hr1,he1⟩
    refine anyZ_sound hT hom fuel _ hd1 hs1 hr1 hm1 hA1 fun a'' w'' k=>hK _ _ ?_
    obtain⟨s2,h2,S2,φ2,k1,k2,k3,k4,k5⟩:=k
    exact⟨s2,h2,S2,φ2,k1,k2,k3,k4,he1.trans k5⟩)
  unfold wpOpIn
  simp only[ho]
  split
  ·
   rename_i hw
   rw[if_pos hw] at hg
   exact hg
  ·
   rename_i hw
   rw[if_neg hw] at hg
   exact hg
theorem lexZ_sound (hT:TabOK P T) (hmo:P.follows .mixedOrders=true) {id:Nat} {l:List Oper} {o:Oper} {K:List AV→List Blk→Prop} {Q:Exit→Act→World→Prop} {ro:Option Nat} (hB:lexZ (l++[o]).toArray l.length=true) (hd:MK n0 S φ h w a.defers) (hs:CAll S w φ s a.tmps) (hr:R S φ h w)
  (hv:LexY P T (l++[o]).toArray h (fun s h=>vcGuard P T (l++[o]).toArray o s h K) l s h) (hK:∀ a' w',Conc n0 K S φ h w a' w'→Q .normal a' w'):(Code.region id (l++[o]).toArray true).wpIn (FW ro) 0 P Q a w:=by
 have hsz:(l++[o]).toArray.size=l.length+1:=by simp
 refine wpIn_region_any hmo ?_
 rw[hsz]
 refine anyZ_sound (K:=K) (h0:=h) (m:=l.length) (om:=o) hT (by simp) l.length _ (hd.ext (Ext.drew S φ h w)) ((Ext.drew S φ h w).CAll hs) hr.drew (MonoH.refl h) ?_ ?_
 ·
  have hB':lexFromZ (l++[o]).toArray l.length l.length 0 (Array.replicate (l.length+1) false)=true:=by rw[← hsz];exact hB
  exact anyZ_lex (P:=P) (T:=T) (h0:=h) l 0 _ s h (fun j x hj=>by
   rw[Nat.zero_add,List.getElem?_toArray,List.getElem?_append_left (by obtain⟨q,_⟩:=List.getElem?_eq_some_iff.1 hj;exact q)]
   exact hj) hB' hv
 ·
  rintro a' w' ⟨s2,h2,S2,φ2,k1,k2,k3,k4,k5⟩
  exact hK _ _ ⟨s2,h2,S2,φ2,k1,k2,k3,k4,(Ext.drew S φ h w).trans k5⟩
inductive Tr where
 | nil
 | one (k:Nat) (t:Tr)
 | two (k:Nat) (t:Tr) (l:Nat) (u:Tr)
def Tr.len:Tr→Nat
 | .nil=>0
 | .one _ t=>t.len+1
 | .two _ t _ _=>t.len+1
def lexT (ops:Array Oper):Tr→Array Bool→Bool
 | .nil,listed=>(Region.ready .any ops listed).isEmpty
 | .one k t,listed=>(Region.ready .any ops listed).contains k&&freeE ops listed k&&lexT ops t (listed.setIfInBounds k true)
 | .two k t l u,listed=>(Region.ready .any ops listed==[k,l])&&decide (t.len=u.len)&&lexT ops t (listed.setIfInBounds k true)&&lexT ops u (listed.setIfInBounds l true)
def WalkT (P:Program) (T:TypeId→TI) (ops:Array Oper) (h0:List Blk) (K:List AV→List Blk→Prop):Tr→List AV→List Blk→Prop
 | .nil,s,h=>K s h
 | .one k t,s,h=>∃ o v h',ops[k]?=some o∧Yield P T ops h0 o s h v h'∧WalkT P T ops h0 K t (put s o.dst v) h'
 | .two k t l u,s,h=>(∃ o v h',ops[k]?=some o∧Yield P T ops h0 o s h v h'∧WalkT P T ops h0 K t (put s o.dst v) h')∧∃ o v h',ops[l]?=some o∧Yield P T ops h0 o s h v h'∧WalkT P T ops h0 K u (put s o.dst v) h'
theorem anyY_tree {ops:Array Oper} {h0:List Blk} {K:List AV→List Blk→Prop}:∀(t:Tr) (listed:Array Bool) (s:List AV) (h:List Blk),lexT ops t listed=true→WalkT P T ops h0 K t s h→AnyY P T ops h0 K t.len listed s h
 | .nil,_,_,_,hB,hw=>⟨by simpa[lexT] using hB,hw⟩
 | .one k t,listed,s,h,hB,hw=>by
  simp only[lexT,Bool.and_eq_true] at hB
  obtain⟨⟨hr,hf⟩,hB'⟩:=hB
  obtain⟨o,v,h',ho,hy,hK⟩:=hw
  obtain⟨D,hD1,hD2,hD3,_⟩:=freeE_spec ho hf
  exact anyY_first ho D hD1 t.len listed s h h' hD2 hD3 (by simpa using hr) hy (anyY_tree t _ _ _ hB' hK)
 | .two k t l u,listed,s,h,hB,hw=>by
  simp only[lexT,Bool.and_eq_true,beq_iff_eq,decide_eq_true_eq] at hB
  obtain⟨⟨⟨hr,hlen⟩,hB1⟩,hB2⟩:=hB
  obtain⟨⟨o,v,h',ho,hy,hK⟩,⟨o2,v2,h2,ho2,hy2,hK2⟩⟩:=hw
  refine⟨fun e=>(by rw[hr] at e;cases e),fun i hi=>?_⟩
  rw[hr] at hi
  have:i=k∨i=l:=by simpa using hi
  rcases this with rfl|rfl
  ·
   exact⟨o,v,h',ho,hy,anyY_tree t _ _ _ hB1 hK⟩
  ·
   exact⟨o2,v2,h2,ho2,hy2,by rw[hlen];exact anyY_tree u _ _ _ hB2 hK2⟩
theorem lexT_sound (hT:TabOK P T) (hmo:P.follows .mixedOrders=true) {id:Nat} {ops:Array Oper} {t:Tr} {K:List AV→List Blk→Prop} {Q:Exit→Act→World→Prop} {ro:Option Nat} (hB:lexT ops t (Array.replicate ops.size false)=true) (hlen:t.len=ops.size) {h0:List Blk} (hm:MonoH h0 h) (hd:MK n0 S φ h w a.defers) (hs:CAll S w φ s a.tmps) (hr:R S φ h w)
  (hv:WalkT P T ops h0 K t s h) (hK:∀ a' w',Conc n0 K S φ h w a' w'→Q .normal a' w'):(Code.region id ops true).wpIn (FW ro) 0 P Q a w:=by
 refine wpIn_region_any hmo (anyY_sound (K:=K) (h0:=h0) hT ops.size _ (hd.ext (Ext.drew S φ h w)) ((Ext.drew S φ h w).CAll hs) hr.drew hm ?_ ?_)
 ·
  rw[← hlen] at hB ⊢
  exact anyY_tree t _ _ _ hB hv
 ·
  rintro a' w' ⟨s2,h2,S2,φ2,k1,k2,k3,k4,k5⟩
  exact hK _ _ ⟨s2,h2,S2,φ2,k1,k2,k3,k4,(Ext.drew S φ h w).trans k5⟩
def lexV (ops:Array Oper):Tr→Array Bool→Bool
 | .nil,listed=>(Region.ready .any ops listed).isEmpty
 | .one k t,listed=>(Region.ready .any ops listed==[k])&&lexV ops t (listed.setIfInBounds k true)
 | .two k t l u,listed=>(Region.ready .any ops listed==[k,l])&&decide (t.len=u.len)&&lexV ops t (listed.setIfInBounds k true)&&lexV ops u (listed.setIfInBounds l true)
def vgAt (P:Program) (T:TypeId→TI) (ops:Array Oper) (o:Option Oper) (s:List AV) (h:List Blk) (K:List AV→List Blk→Prop):Prop :=
 match o with
 | some o=>vcGuard P T ops o s h K
 | none=>False
def vTree (P:Program) (T:TypeId→TI) (ops:Array Oper) (K:List AV→List Blk→Prop):Tr→List AV→List Blk→Prop
 | .nil,s,h=>K s h
 | .one k t,s,h=>vgAt P T ops ops[k]? s h fun s' h'=>vTree P T ops K t s' h'
 | .two k t l u,s,h=>(vgAt P T ops ops[k]? s h fun s' h'=>vTree P T ops K t s' h')∧vgAt P T ops ops[l]? s h fun s' h'=>vTree P T ops K u s' h'
theorem vgAt_sound (hT:TabOK P T) {ops:Array Oper} {k:Nat} {K:List AV→List Blk→Prop} {Kc:Act→World→Prop} {Q:Exit→Act→World→Prop} {ro:Option Nat} (hd:MK n0 S φ h w a.defers) (hs:CAll S w φ s a.tmps) (hr:R S φ h w)
  (hv:vgAt P T ops ops[k]? s h K) (hK:∀ a' w',Conc n0 K S φ h w a' w'→Kc a' w'):wpOpIn (FW ro) 0 P ops Q k Kc a w:=by
 cases ho:ops[k]? with
 | none=>rw[ho] at hv;exact hv.elim
 | some o =>
  rw[ho] at hv
  have hg:=vcGuard_sound (Q:=Q) (ro:=ro) (Kc:=Kc) hT o hd hs hr hv hK
  unfold wpOpIn
  simp only[ho]
  split
  ·
   rename_i hw
   rw[if_pos hw] at hg
   exact hg
  ·
   rename_i hw
   rw[if_neg hw] at hg
   exact hg
theorem anyV_sound (hT:TabOK P T) {ops:Array Oper} {K:List AV→List Blk→Prop} {Q:Exit→Act→World→Prop} {ro:Option Nat}:∀(t:Tr) (listed:Array Bool) {S:Addr→Prop} {φ:Nat→Loc} {h:List Blk} {w:World} {s:List AV} {a:Act},
  MK n0 S φ h w a.defers→CAll S w φ s a.tmps→R S φ h w→lexV ops t listed=true→vTree P T ops K t s h→(∀ a' w',Conc n0 K S φ h w a' w'→Q .normal a' w')→wpAnyIn (FW ro) 0 P .any ops Q t.len listed a w
 | .nil,_,_,_,_,_,_,_,hd,hs,hr,hB,hv,hK=>⟨by simpa[lexV] using hB,hK _ _ ⟨_,_,_,_,hv,hd,hs,hr,Ext.refl _ _ _ _⟩⟩
 | .one k t,listed,S,φ,h,w,s,a,hd,hs,hr,hB,hv,hK=>by
  simp only[lexV,Bool.and_eq_true,beq_iff_eq] at hB
  refine⟨fun e=>(by rw[hB.1] at e;cases e),fun i hi=>?_⟩
  rw[hB.1] at hi
  have e:i=k:=by simpa using hi
  subst e
  refine vgAt_sound hT hd hs hr hv ?_
  rintro a' w' ⟨s1,h1,S1,φ1,hA1,hd1,hs1,hr1,he1⟩
  refine anyV_sound hT t _ hd1 hs1 hr1 hB.2 hA1 fun a'' w'' kk=>hK _ _ ?_
  obtain⟨s2,h2,S2,φ2,k1,k2,k3,k4,k5⟩:=kk
  exact⟨s2,h2,S2,φ2,k1,k2,k3,k4,he1.trans k5⟩
 | .two k t l u,listed,S,φ,h,w,s,a,hd,hs,hr,hB,hv,hK=>by
  simp only[lexV,Bool.and_eq_true,beq_iff_eq,decide_eq_true_eq] at hB
  obtain⟨⟨⟨hrd,hlen⟩,hB1⟩,hB2⟩:=hB
  refine⟨fun e=>(by rw[hrd] at e;cases e),fun i hi=>?_⟩
  rw[hrd] at hi
  have:i=k∨i=l:=by simpa using hi
  rcases this with rfl|rfl
  ·
   refine vgAt_sound hT hd hs hr hv.1 ?_
   rintro a' w' ⟨s1,h1,S1,φ1,hA1,hd1,hs1,hr1,he1⟩
   refine anyV_sound hT t _ hd1 hs1 hr1 hB1 hA1 fun a'' w'' kk=>hK _ _ ?_
   obtain⟨s2,h2,S2,φ2,k1,k2,k3,k4,k5⟩:=kk
   exact⟨s2,h2,S2,φ2,k1,k2,k3,k4,he1.trans k5⟩
  ·
   refine vgAt_sound hT hd hs hr hv.2 ?_
   rintro a' w' ⟨s1,h1,S1,φ1,hA1,hd1,hs1,hr1,he1⟩
   show wpAnyIn (FW ro) 0 P .any ops Q t.len _ a' w'
   rw[hlen]
   refine anyV_sound hT u _ hd1 hs1 hr1 hB2 hA1 fun a'' w'' kk=>hK _ _ ?_
   obtain⟨s2,h2,S2,φ2,k1,k2,k3,k4,k5⟩:=kk
   exact⟨s2,h2,S2,φ2,k1,k2,k3,k4,he1.trans k5⟩
theorem lexV_sound (hT:TabOK P T) (hmo:P.follows .mixedOrders=true) {id:Nat} {ops:Array Oper} {t:Tr} {K:List AV→List Blk→Prop} {Q:Exit→Act→World→Prop} {ro:Option Nat} (hB:lexV ops t (Array.replicate ops.size false)=true) (hlen:t.len=ops.size) (hd:MK n0 S φ h w a.defers) (hs:CAll S w φ s a.tmps) (hr:R S φ h w)
  (hv:vTree P T ops K t s h) (hK:∀ a' w',Conc n0 K S φ h w a' w'→Q .normal a' w'):(Code.region id ops true).wpIn (FW ro) 0 P Q a w:=by
 refine wpIn_region_any hmo ?_
 have:=anyV_sound (K:=K) (Q:=Q) (ro:=ro) hT t _ (hd.ext (Ext.drew S φ h w)) ((Ext.drew S φ h w).CAll hs) hr.drew hB hv (fun a' w' kk=>by
  obtain⟨s2,h2,S2,φ2,k1,k2,k3,k4,k5⟩:=kk
  exact hK _ _ ⟨s2,h2,S2,φ2,k1,k2,k3,k4,(Ext.drew S φ h w).trans k5⟩)
 rw[hlen] at this
 exact this
def vqStep (P:Program) (T:TypeId→TI) (h0:List Blk) (o:Oper) (s:List AV) (h:List Blk) (K:List AV→List Blk→Prop):Prop :=
 match o.op with
 | .call { callee:=.value f,args,.. }=>match opd s f with
  | .fn (.func g) first captured=>∃ v,RCall P h0 g (first++args.toList.map (opd s)++captured) v∧K (put s o.dst v) h
  | _=>False
 | op=>match Op.eff op with
  | true=>match stepHeap T s h op with
   | .ok u g=>MonoH h0 g∧K (put s o.dst u) g
   | .side p u g=>p∧MonoH h0 g∧K (put s o.dst u) g
   | .bad=>False
  | false=>match stepPure T s h0 op with
   | .ok u=>K (put s o.dst u) h
   | .side p u=>p∧K (put s o.dst u) h
   | .fact _ u=>K (put s o.dst u) h
   | .elem i es f=>∃ x,(0≤i∧es[i.toNat]?=some x)∧K (put s o.dst (f x)) h
   | .bad=>False
theorem vqStep.out {h0:List Blk} {o:Oper} {K:List AV→List Blk→Prop} (hv:vqStep P T h0 o s h K):∃ v h',QStep P T h0 o s h v h'∧K (put s o.dst v) h':=by
 obtain⟨dst,op,ty,pos,af,gd⟩:=o
 have fromPure:(match stepPure T s h0 op with
   | .ok u=>K (put s dst u) h
   | .side p u=>p∧K (put s dst u) h
   | .fact _ u=>K (put s dst u) h
   | .elem i es f=>∃ x,(0≤i∧es[i.toNat]?=some x)∧K (put s dst (f x)) h
   | .bad=>False)→∃ v,(match stepPure T s h0 op with
   | .ok u=>v=u
   | .side p u=>p∧v=u
   | .fact _ u=>v=u
   | .elem i es f=>∃ x,(0≤i∧es[i.toNat]?=some x)∧v=f x
   | .bad=>False)∧K (put s dst v) h:=by
  clear hv
  generalize stepPure T s h0 op=r
  intro hv
  cases r with
  | ok u=>exact⟨u,rfl,hv⟩
  | side p u=>exact⟨u,⟨hv.1,rfl⟩,hv.2⟩
  | fact p u=>exact⟨u,rfl,hv⟩
  | elem i es f=>obtain⟨x,hx,hk⟩:=hv;exact⟨f x,⟨x,hx,rfl⟩,hk⟩
  | bad=>exact hv.elim
 have fromHeap:(match stepHeap T s h op with
   | .ok u g=>MonoH h0 g∧K (put s dst u) g
   | .side p u g=>p∧MonoH h0 g∧K (put s dst u) g
   | .bad=>False)→∃ v h',(MonoH h0 h'∧match stepHeap T s h op with
   | .ok u g=>v=u∧h'=g
   | .side p u g=>p∧v=u∧h'=g
   | .bad=>False)∧K (put s dst v) h':=by
  clear hv
  generalize stepHeap T s h op=r
  intro hv
  cases r with
  | ok u g=>exact⟨u,g,⟨hv.1,rfl,rfl⟩,hv.2⟩
  | side p u g=>exact⟨u,g,⟨hv.2.1,hv.1,rfl,rfl⟩,hv.2.2⟩
  | bad=>exact hv.elim
 have pureOut:(∃ v,(match stepPure T s h0 op with
   | .ok u=>v=u
   | .side p u=>p∧v=u
   | .fact _ u=>v=u
   | .elem i es f=>∃ x,(0≤i∧es[i.toNat]?=some x)∧v=f x
   | .bad=>False)∧K (put s dst v) h)→(∀ v,(match stepPure T s h0 op with
   | .ok u=>v=u
   | .side p u=>p∧v=u
   | .fact _ u=>v=u
   | .elem i es f=>∃ x,(0≤i∧es[i.toNat]?=some x)∧v=f x
   | .bad=>False)→QStep P T h0 ⟨dst,op,ty,pos,af,gd⟩ s h v h)→∃ v h',QStep P T h0 ⟨dst,op,ty,pos,af,gd⟩ s h v h'∧K (put s dst v) h':=by
  rintro⟨v,h1,h2⟩ h3
  exact⟨v,h,h3 v h1,h2⟩
 cases op with
 | call c =>
  obtain⟨callee,args,tys⟩:=c
  cases callee with
  | value f =>
   simp only[vqStep] at hv
   split at hv
   ·
    rename_i g first captured hfe
    obtain⟨v,hp,hk⟩:=hv
    refine⟨v,h,?_,hk⟩
    simp only[QStep,Op.eff]
    rw[hfe]
    exact⟨trivial,hp⟩
   ·
    exact hv.elim
  | builtin b =>
   cases b<;>first
    | exact fromHeap hv
    | exact pureOut (fromPure hv) (fun v h=>⟨rfl,h⟩)
  | invoke r m=>exact pureOut (fromPure hv) (fun v h=>⟨rfl,h⟩)
 | slice t x lo hi mx =>
  cases mx with
  | none=>exact pureOut (fromPure hv) (fun v h=>⟨rfl,h⟩)
  | some m=>exact fromHeap hv
 | box t x=>exact fromHeap hv
 | alloc t=>exact fromHeap hv
 | store t x y=>exact fromHeap hv
 | buildSlice t n ps=>exact fromHeap hv
 | makeSlice t x y=>exact fromHeap hv
 | mapUpdate t m k v=>exact fromHeap hv
 | _=>exact pureOut (fromPure hv) (fun v h=>⟨rfl,h⟩)
def vqGuard (P:Program) (T:TypeId→TI) (ops:Array Oper) (h0:List Blk) (o:Oper) (s:List AV) (h:List Blk) (K:List AV→List Blk→Prop):Prop :=
 match o.guard with
 | none=>vqStep P T h0 o s h K
 | some (j,want)=>match guardSlot ops j with
  | none=>False
  | some d=>match s.getD d (.tup []) with
   | .raw (.bool b)=>match b with
    | true=>match want with
     | true=>vqStep P T h0 o (s.set d (.raw (.bool true))) h K
     | false=>K (put (s.set d (.raw (.bool true))) o.dst (.tup [])) h
    | false=>match want with
     | true=>K (put (s.set d (.raw (.bool false))) o.dst (.tup [])) h
     | false=>vqStep P T h0 o (s.set d (.raw (.bool false))) h K
   | .tup _=>K (put s o.dst (.tup [])) h
   | _=>False
theorem vqGuard.out {ops:Array Oper} {h0:List Blk} {o:Oper} {K:List AV→List Blk→Prop} (hv:vqGuard P T ops h0 o s h K):∃ v h',Yield P T ops h0 o s h v h'∧K (put s o.dst v) h':=by
 unfold vqGuard at hv
 unfold Yield
 split at hv
 ·
  exact hv.out
 ·
  unfold guardVal
  split at hv
  ·
   exact hv.elim
  ·
   generalize hx:List.getD s _ (AV.tup [])=x at hv
   split at hv
   ·
    have hs:=set_id hx
    split at hv<;>split at hv<;>rw[hs] at hv<;>first|exact hv.out|exact⟨_,_,⟨rfl,rfl⟩,hv⟩
   ·
    exact⟨_,_,⟨rfl,rfl⟩,hv⟩
   ·
    exact hv.elim
def vqOps (P:Program) (T:TypeId→TI) (ops:Array Oper) (h0:List Blk):List Oper→List AV→List Blk→(List AV→List Blk→Prop)→Prop
 | [],s,h,K=>K s h
 | o::rest,s,h,K=>vqGuard P T ops h0 o s h fun s' h'=>vqOps P T ops h0 rest s' h' K
theorem vqOps.out {ops:Array Oper} {h0:List Blk} {K:List AV→List Blk→Prop}:∀ {l:List Oper} {s:List AV} {h:List Blk},vqOps P T ops h0 l s h K→LexY P T ops h0 K l s h
 | [],_,_,hv=>hv
 | o::l,s,h,hv=>by
  obtain⟨v,h',hy,hk⟩:=vqGuard.out hv
  exact⟨v,h',hy,vqOps.out hk⟩
theorem ACall.mono {f:FuncId} {args:List AV} {K K':AV→List Blk→Prop} (hk:∀ r h,K r h→K' r h) (hc:ACall P f args h K):ACall P f args h K':=by
 intro S φ w vs hr hargs
 obtain⟨h1,h2⟩:=hc S φ w vs hr hargs
 refine⟨h1,Calls.mono h2 ?_⟩
 rintro e w' ⟨v,r,h',S',φ',e1,e2,e3⟩
 exact⟨v,r,h',S',φ',e1,hk _ _ e2,e3⟩
theorem vcStep_monoP {K K':List AV→List Blk→Prop} (hk:∀ s h,K s h→K' s h) (o:Oper) (hv:vcStep P T o s h K):vcStep P T o s h K':=by
 unfold vcStep at *
 split at hv
 ·
  split at hv
  ·
   exact hv.mono fun r h' hK=>hk _ _ hK
  ·
   exact hv.mono fun r h' hK=>hk _ _ hK
  ·
   exact hv.elim
 ·
  split at hv
  ·
   exact hk _ _ hv
  ·
   exact⟨hv.1,hk _ _ hv.2⟩
  ·
   exact fun hp=>hk _ _ (hv hp)
  ·
   obtain⟨x,h1,h2⟩:=hv
   exact⟨x,h1,hk _ _ h2⟩
  ·
   split at hv
   ·
    exact hk _ _ hv
   ·
    exact⟨hv.1,hk _ _ hv.2⟩
   ·
    exact hv.elim
theorem vcGuard_monoP {ops:Array Oper} {K K':List AV→List Blk→Prop} (hk:∀ s h,K s h→K' s h) (o:Oper) (hv:vcGuard P T ops o s h K):vcGuard P T ops o s h K':=by
 unfold vcGuard at *
 split at hv
 ·
  exact vcStep_monoP hk o hv
 ·
  split at hv
  ·
   exact hv.elim
  ·
   split at hv
   ·
    split at hv
    ·
     split at hv
     ·
      exact vcStep_monoP hk o hv
     ·
      exact hk _ _ hv
    ·
     split at hv
     ·
      exact hk _ _ hv
     ·
      exact vcStep_monoP hk o hv
   ·
    exact hk _ _ hv
   ·
    exact hv.elim
def vqAt (P:Program) (T:TypeId→TI) (ops:Array Oper) (h0:List Blk) (o:Option Oper) (s:List AV) (h:List Blk) (K:List AV→List Blk→Prop):Prop :=
 match o with
 | some o=>vqGuard P T ops h0 o s h K
 | none=>False
def vqTree (P:Program) (T:TypeId→TI) (ops:Array Oper) (h0:List Blk) (K:List AV→List Blk→Prop):Tr→List AV→List Blk→Prop
 | .nil,s,h=>K s h
 | .one k t,s,h=>vqAt P T ops h0 ops[k]? s h fun s' h'=>vqTree P T ops h0 K t s' h'
 | .two k t l u,s,h=>(vqAt P T ops h0 ops[k]? s h fun s' h'=>vqTree P T ops h0 K t s' h')∧vqAt P T ops h0 ops[l]? s h fun s' h'=>vqTree P T ops h0 K u s' h'
theorem vqAt.out {ops:Array Oper} {h0:List Blk} {k:Nat} {K:List AV→List Blk→Prop} (hv:vqAt P T ops h0 ops[k]? s h K):∃ o v h',ops[k]?=some o∧Yield P T ops h0 o s h v h'∧K (put s o.dst v) h':=by
 cases ho:ops[k]? with
 | none=>rw[ho] at hv;exact hv.elim
 | some o =>
  rw[ho] at hv
  obtain⟨v,h',hy,hk⟩:=vqGuard.out hv
  exact⟨o,v,h',rfl,hy,hk⟩
theorem vqTree.out {ops:Array Oper} {h0:List Blk} {K:List AV→List Blk→Prop}:∀ {t:Tr} {s:List AV} {h:List Blk},vqTree P T ops h0 K t s h→WalkT P T ops h0 K t s h
 | .nil,_,_,hv=>hv
 | .one k t,s,h,hv=>by
  obtain⟨o,v,h',ho,hy,hk⟩:=vqAt.out hv
  exact⟨o,v,h',ho,hy,vqTree.out hk⟩
 | .two k t l u,s,h,hv=>by
  obtain⟨o,v,h',ho,hy,hk⟩:=vqAt.out hv.1
  obtain⟨o2,v2,h2,ho2,hy2,hk2⟩:=vqAt.out hv.2
  exact⟨⟨o,v,h',ho,hy,vqTree.out hk⟩,⟨o2,v2,h2,ho2,hy2,vqTree.out hk2⟩⟩
inductive TrM where
 | nil
 | pur (k:Nat) (t:TrM)
 | eff (k:Nat) (t:TrM)
 | two (k:Nat) (t:TrM) (l:Nat) (u:TrM)
def TrM.len:TrM→Nat
 | .nil=>0
 | .pur _ t=>t.len+1
 | .eff _ t=>t.len+1
 | .two _ t _ _=>t.len+1
def still (o:Option Oper):Bool:=match o with
 | some o=>!(Op.eff o.op)
 | none=>false
def lexM (ops:Array Oper):TrM→Array Bool→Bool
 | .nil,listed=>(Region.ready .any ops listed).isEmpty
 | .pur k t,listed=>(Region.ready .any ops listed).contains k&&freeE ops listed k&&still ops[k]?&&lexM ops t (listed.setIfInBounds k true)
 | .eff k t,listed=>(Region.ready .any ops listed==[k])&&lexM ops t (listed.setIfInBounds k true)
 | .two k t l u,listed=>(Region.ready .any ops listed==[k,l])&&decide (t.len=u.len)&&lexM ops t (listed.setIfInBounds k true)&&lexM ops u (listed.setIfInBounds l true)
def AnyM (P:Program) (T:TypeId→TI) (ops:Array Oper) (h0:List Blk) (K:List AV→List Blk→Prop):Nat→Array Bool→List AV→List Blk→Prop
 | 0,listed,s,h=>Region.ready .any ops listed=[]∧K s h
 | fuel+1,listed,s,h=>(Region.ready .any ops listed=[]→K s h) ∧
  ∀ i∈Region.ready .any ops listed,vgAt P T ops ops[i]? s h fun s' h'=>MonoH h0 h'∧AnyM P T ops h0 K fuel (listed.setIfInBounds i true) s' h'
theorem vcStep_put {ops:Array Oper} {o:Oper} {s:List AV} {u:AV} {dst:Option Tmp} {K:List AV→List Blk→Prop} (hd:∀ d,dst=some d→d ∉ o.looksAt ops) (hc:∀ d,dst=some d→o.dst≠some d) (hv:vcStep P T o (put s dst u) h K) :
  vcStep P T o s h fun s' h'=>∃ r,s'=put s o.dst r∧K (put s' dst u) h':=by
 have ho:∀ x∈o.op.operands.toList,opd (Abs.put s dst u) x=opd s x:=fun x hx=>opd_put fun d e=>looks_operand (hd d e) x hx
 have hp:∀ r h',K (put (put s dst u) o.dst r) h'→∃ r',put s o.dst r=put s o.dst r'∧K (put (put s o.dst r) dst u) h':=fun r h' hk=>⟨r,rfl,by rw[← put_comm hc];exact hk⟩
 unfold vcStep at *
 split at hv
 ·
  rename_i f args ts hop
  have hf:opd (Abs.put s dst u) f=opd s f:=ho f (by rw[hop];simp[Op.operands,Call.operands])
  have hargs:args.toList.map (opd (Abs.put s dst u))=args.toList.map (opd s):=map_opd fun x hx=>ho x (by rw[hop];simp only[Op.operands,Call.operands,Array.toList_append,List.mem_append];exact .inr hx)
  rw[hf,hargs] at hv
  split at hv
  ·
   exact hv.mono fun r h' hk=>hp r h' hk
  ·
   exact hv.mono fun r h' hk=>hp r h' hk
  ·
   exact hv.elim
 ·
  rw[stepPure_congr o.op ho,stepHeap_congr o.op ho] at hv
  split at hv
  ·
   exact hp _ _ hv
  ·
   exact⟨hv.1,hp _ _ hv.2⟩
  ·
   exact fun q=>hp _ _ (hv q)
  ·
   obtain⟨x,h1,h2⟩:=hv
   exact⟨x,h1,hp _ _ h2⟩
  ·
   split at hv
   ·
    exact hp _ _ hv
   ·
    exact⟨hv.1,hp _ _ hv.2⟩
   ·
    exact hv.elim
theorem vcGuard_put {ops:Array Oper} {o:Oper} {s:List AV} {u:AV} {dst:Option Tmp} {K:List AV→List Blk→Prop} (hd:∀ d,dst=some d→d ∉ o.looksAt ops) (hc:∀ d,dst=some d→o.dst≠some d) (hv:vcGuard P T ops o (put s dst u) h K) :
  vcGuard P T ops o s h fun s' h'=>∃ r,s'=put s o.dst r∧K (put s' dst u) h':=by
 have hp:∀ r h',K (put (put s dst u) o.dst r) h'→∃ r',put s o.dst r=put s o.dst r'∧K (put (put s o.dst r) dst u) h':=fun r h' hk=>⟨r,rfl,by rw[← put_comm hc];exact hk⟩
 unfold vcGuard at *
 cases hg:o.guard with
 | none=>rw[hg] at hv;exact vcStep_put hd hc hv
 | some jw =>
  obtain⟨j,want⟩:=jw
  have hgv:=guardVal_put (v:=u) (s:=s) hg hd
  rw[hg] at hv
  dsimp only at hv ⊢
  unfold guardVal at hgv
  cases hgs:guardSlot ops j with
  | none=>rw[hgs] at hv;exact hv.elim
  | some d =>
   rw[hgs] at hv hgv
   dsimp only at hv hgv ⊢
   rw[hgv] at hv
   split at hv
   ·
    rename_i b e
    have hgv2:=hgv.trans e
    have hs:=set_id e
    have hs2:=set_id hgv2
    try rw[e]
    cases b<;>cases want<;>dsimp only at hv hs hs2 ⊢<;>rw[hs]<;>rw[hs2] at hv
    ·
     exact vcStep_put hd hc hv
    ·
     exact hp _ _ hv
    ·
     exact hp _ _ hv
    ·
     exact vcStep_put hd hc hv
   ·
    rename_i cs e
    try rw[e]
    exact hp _ _ hv
   ·
    exact hv.elim
theorem anyM_first {ops:Array Oper} {h0:List Blk} {K:List AV→List Blk→Prop} {i:Nat} {oi:Oper} {v:AV} (hi:ops[i]?=some oi) (hst:Op.eff oi.op=false) (D:Nat→Bool)
  (hD:∀ j oj,ops[j]?=some oj→D j=true→∃ e∈oj.after,Region.binds .any e=true∧(e.on=i∨D e.on=true)) :
  ∀(fuel:Nat) (listed:Array Bool) (s:List AV) (h:List Blk),MonoH h0 h→(∀ j,D j=true→listed.getD j true=false)→(∀ j oj,ops[j]?=some oj→j≠i→listed.getD j true=false→D j=false→Oper.apartE ops oi oj=true) →
   i∈Region.ready .any ops listed→Yield P T ops h0 oi s h v h→AnyM P T ops h0 K fuel (listed.setIfInBounds i true) (put s oi.dst v) h→AnyM P T ops h0 K (fuel+1) listed s h:=by
 intro fuel
 induction fuel with
 | zero =>
  intro listed s h hm _ _ hr hy H
  refine⟨fun h=>(by rw[h] at hr;cases hr),fun j hj=>?_⟩
  by_cases hji:j=i
  ·
   subst hji
   rw[hi]
   exact Yield.vc (K:=fun s' h'=>MonoH h0 h'∧AnyM P T ops h0 K 0 (listed.setIfInBounds j true) s' h') hm hy ⟨hm,H⟩
  ·
   have:=ready_mono hj hji
   rw[H.1] at this
   cases this
 | succ fuel ih =>
  intro listed s h hm hDl hfree hr hy H
  refine⟨fun h=>(by rw[h] at hr;cases hr),fun j hj=>?_⟩
  by_cases hji:j=i
  ·
   subst hji
   rw[hi]
   exact Yield.vc (K:=fun s' h'=>MonoH h0 h'∧AnyM P T ops h0 K (fuel+1) (listed.setIfInBounds j true) s' h') hm hy ⟨hm,H⟩
  ·
   have hvj:=H.2 j (ready_mono hj hji)
   obtain⟨hjun,oj,hoj,hall⟩:=mem_ready.1 hj
   have hnot:D j=false:=by
    cases hDj:D j with
    | false=>rfl
    | true =>
     exfalso
     obtain⟨e,he,hb,hor⟩:=hD j oj hoj hDj
     have h1:=hall e he hb
     rcases hor with heq|hDe
     ·
      have h0:=(mem_ready.1 hr).1
      rw[heq] at h1
      rcases Nat.lt_or_ge i listed.size with h'|h'
      ·
       simp[h'] at h0 h1;rw[h0] at h1;cases h1
      ·
       simp[Array.getElem?_eq_none h'] at h1
     ·
      have h0:=hDl e.on hDe
      rcases Nat.lt_or_ge e.on listed.size with h'|h'
      ·
       simp[h'] at h0 h1;rw[h0] at h1;cases h1
      ·
       simp[Array.getElem?_eq_none h'] at h1
   have hap:=hfree j oj hoj hji hjun hnot
   simp only[Oper.apartE,Bool.and_eq_true,Bool.not_eq_true',Bool.and_eq_false_iff] at hap
   obtain⟨a1,a2,a3⟩:=Oper.apart_spec hap.1
   rw[hoj] at hvj ⊢
   have hfree':∀ k ok,ops[k]?=some ok→k≠i→(listed.setIfInBounds j true).getD k true=false →
     D k=false→Oper.apartE ops oi ok=true:=fun k ok hk hki hun hno=>by
    refine hfree k ok hk hki ?_ hno
    by_cases hjk:j=k
    ·
     subst hjk;exact hjun
    ·
     rw[getD_set_ne true hjk] at hun;exact hun
   have hDl':∀ k,D k=true→(listed.setIfInBounds j true).getD k true=false:=fun k hk=>by
    have hjk:j≠k:=fun e=>by subst e;rw[hnot] at hk;cases hk
    rw[getD_set_ne true hjk]
    exact hDl k hk
   have hput:=vcGuard_put (P:=P) (T:=T) (o:=oj) (s:=s) (u:=v) (dst:=oi.dst) (K:=fun s' h'=>MonoH h0 h'∧AnyM P T ops h0 K fuel ((listed.setIfInBounds i true).setIfInBounds j true) s' h') a1 a2 hvj
   refine vcGuard_monoP ?_ oj hput
   rintro s' h' ⟨r,rfl,hm',hA⟩
   have hyi':Yield P T ops h0 oi (put s oj.dst r) h v h:=(Yield.put a3).2 hy
   obtain⟨_,hyi2⟩:=hyi'.quiet (g:=h') hst
   refine⟨hm',ih (listed.setIfInBounds j true) _ _ hm' hDl' hfree' (ready_mono hr (Ne.symm hji)) hyi2 ?_⟩
   rw[Array.setIfInBounds_comm _ _ hji]
   exact hA
theorem anyM_sound (hT:TabOK P T) {ops:Array Oper} {h0:List Blk} {K:List AV→List Blk→Prop} {Q:Exit→Act→World→Prop} {ro:Option Nat}:∀(fuel:Nat) (listed:Array Bool) {S:Addr→Prop} {φ:Nat→Loc} {h:List Blk} {w:World} {s:List AV} {a:Act},
  MK n0 S φ h w a.defers→CAll S w φ s a.tmps→R S φ h w→AnyM P T ops h0 K fuel listed s h→(∀ a' w',Conc n0 K S φ h w a' w'→Q .normal a' w')→wpAnyIn (FW ro) 0 P .any ops Q fuel listed a w
 | 0,_,_,_,_,_,_,_,hd,hs,hr,hv,hK=>⟨hv.1,hK _ _ ⟨_,_,_,_,hv.2,hd,hs,hr,Ext.refl _ _ _ _⟩⟩
 | fuel+1,listed,S,φ,h,w,s,a,hd,hs,hr,hv,hK=>by
  refine⟨fun h0=>hK _ _ ⟨_,_,_,_,hv.1 h0,hd,hs,hr,Ext.refl _ _ _ _⟩,fun i hi=>?_⟩
  refine vgAt_sound hT hd hs hr (hv.2 i hi) ?_
  rintro a' w' ⟨s1,h1,S1,φ1,⟨_,hA1⟩,hd1,hs1,hr1,he1⟩
  refine anyM_sound hT fuel _ hd1 hs1 hr1 hA1 fun a'' w'' k=>hK _ _ ?_
  obtain⟨s2,h2,S2,φ2,k1,k2,k3,k4,k5⟩:=k
  exact⟨s2,h2,S2,φ2,k1,k2,k3,k4,he1.trans k5⟩
def vmTree (P:Program) (T:TypeId→TI) (ops:Array Oper) (h0:List Blk) (K:List AV→List Blk→Prop):TrM→List AV→List Blk→Prop
 | .nil,s,h=>K s h
 | .pur k t,s,h=>vqAt P T ops h0 ops[k]? s h fun s' h'=>vmTree P T ops h0 K t s' h'
 | .eff k t,s,h=>vgAt P T ops ops[k]? s h fun s' h'=>MonoH h0 h'∧vmTree P T ops h0 K t s' h'
 | .two k t l u,s,h=>(vgAt P T ops ops[k]? s h fun s' h'=>MonoH h0 h'∧vmTree P T ops h0 K t s' h')∧vgAt P T ops ops[l]? s h fun s' h'=>MonoH h0 h'∧vmTree P T ops h0 K u s' h'
theorem vgAt_monoM {ops:Array Oper} {o:Option Oper} {K K':List AV→List Blk→Prop} (hk:∀ s h,K s h→K' s h) (hv:vgAt P T ops o s h K):vgAt P T ops o s h K':=by
 cases o with
 | none=>exact hv.elim
 | some o=>exact vcGuard_monoP hk o hv
theorem anyM_tree {ops:Array Oper} {h0:List Blk} {K:List AV→List Blk→Prop}:∀(t:TrM) (listed:Array Bool) (s:List AV) (h:List Blk),MonoH h0 h→lexM ops t listed=true→vmTree P T ops h0 K t s h→AnyM P T ops h0 K t.len listed s h
 | .nil,_,_,_,_,hB,hw=>⟨by simpa[lexM] using hB,hw⟩
 | .pur k t,listed,s,h,hm,hB,hw=>by
  simp only[lexM,Bool.and_eq_true] at hB
  obtain⟨⟨⟨hr,hf⟩,hst⟩,hB'⟩:=hB
  obtain⟨o,v,h',ho,hy,hK⟩:=vqAt.out hw
  rw[ho] at hst
  have hst:Op.eff o.op=false:=by simpa[still] using hst
  obtain⟨rfl,_⟩:=hy.quiet (g:=h) hst
  obtain⟨D,hD1,hD2,hD3,_⟩:=freeE_spec ho hf
  exact anyM_first ho hst D hD1 t.len listed s _ hm hD2 hD3 (by simpa using hr) hy (anyM_tree t _ _ _ hm hB' hK)
 | .eff k t,listed,s,h,hm,hB,hw=>by
  simp only[lexM,Bool.and_eq_true,beq_iff_eq] at hB
  refine⟨fun e=>(by rw[hB.1] at e;cases e),fun i hi=>?_⟩
  rw[hB.1] at hi
  have e:i=k:=by simpa using hi
  subst e
  exact vgAt_monoM (fun s' h' q=>⟨q.1,anyM_tree t _ _ _ q.1 hB.2 q.2⟩) hw
 | .two k t l u,listed,s,h,hm,hB,hw=>by
  simp only[lexM,Bool.and_eq_true,beq_iff_eq,decide_eq_true_eq] at hB
  obtain⟨⟨⟨hr,hlen⟩,hB1⟩,hB2⟩:=hB
  refine⟨fun e=>(by rw[hr] at e;cases e),fun i hi=>?_⟩
  rw[hr] at hi
  have:i=k∨i=l:=by simpa using hi
  rcases this with rfl|rfl
  ·
   exact vgAt_monoM (fun s' h' q=>⟨q.1,anyM_tree t _ _ _ q.1 hB1 q.2⟩) hw.1
  ·
   exact vgAt_monoM (fun s' h' q=>⟨q.1,by rw[hlen];exact anyM_tree u _ _ _ q.1 hB2 q.2⟩) hw.2
theorem lexM_sound (hT:TabOK P T) (hmo:P.follows .mixedOrders=true) {id:Nat} {ops:Array Oper} {t:TrM} {K:List AV→List Blk→Prop} {Q:Exit→Act→World→Prop} {ro:Option Nat} (hB:lexM ops t (Array.replicate ops.size false)=true) (hlen:t.len=ops.size) {h0:List Blk} (hm:MonoH h0 h) (hd:MK n0 S φ h w a.defers) (hs:CAll S w φ s a.tmps) (hr:R S φ h w)
  (hv:vmTree P T ops h0 K t s h) (hK:∀ a' w',Conc n0 K S φ h w a' w'→Q .normal a' w'):(Code.region id ops true).wpIn (FW ro) 0 P Q a w:=by
 refine wpIn_region_any hmo (anyM_sound (K:=K) (h0:=h0) hT ops.size _ (hd.ext (Ext.drew S φ h w)) ((Ext.drew S φ h w).CAll hs) hr.drew ?_ ?_)
 ·
  rw[← hlen] at hB ⊢
  exact anyM_tree t _ _ _ hm hB hv
 ·
  rintro a' w' ⟨s2,h2,S2,φ2,k1,k2,k3,k4,k5⟩
  exact hK _ _ ⟨s2,h2,S2,φ2,k1,k2,k3,k4,(Ext.drew S φ h w).trans k5⟩
def DrawK (P:Program) (T:TypeId→TI) (ops:Array Oper) (s:List AV) (h:List Blk) (K:List AV→List Blk→Prop):Prop :=
 P.follows .mixedOrders=true∧((lexE ops=true∧∃ h0,MonoH h0 h∧vqOps P T ops h0 ops.toList s h K) ∨
  (∃ l o,ops=(l++[o]).toArray∧lexZ ops l.length=true∧vqOps P T ops h l s h fun s' h'=>vcGuard P T ops o s' h' K) ∨
  (∃ t:Tr,lexT ops t (Array.replicate ops.size false)=true∧t.len=ops.size∧∃ h0,MonoH h0 h∧vqTree P T ops h0 K t s h) ∨
  (∃ t:Tr,lexV ops t (Array.replicate ops.size false)=true∧t.len=ops.size∧vTree P T ops K t s h) ∨
  ∃ t:TrM,lexM ops t (Array.replicate ops.size false)=true∧t.len=ops.size∧∃ h0,MonoH h0 h∧vmTree P T ops h0 K t s h)
theorem vqStep_mono {h0:List Blk} {K K':List AV→List Blk→Prop} (hk:∀ s h,K s h→K' s h) (o:Oper) (hv:vqStep P T h0 o s h K):vqStep P T h0 o s h K':=by
 unfold vqStep at *
 split at hv
 ·
  split at hv
  ·
   obtain⟨v,hp,hv⟩:=hv
   exact⟨v,hp,hk _ _ hv⟩
  ·
   exact hv.elim
 ·
  split at hv
  ·
   split at hv
   ·
    exact⟨hv.1,hk _ _ hv.2⟩
   ·
    exact⟨hv.1,hv.2.1,hk _ _ hv.2.2⟩
   ·
    exact hv.elim
  ·
   split at hv
   ·
    exact hk _ _ hv
   ·
    exact⟨hv.1,hk _ _ hv.2⟩
   ·
    exact hk _ _ hv
   ·
    obtain⟨x,h1,h2⟩:=hv
    exact⟨x,h1,hk _ _ h2⟩
   ·
    exact hv.elim
theorem vqGuard_mono {ops:Array Oper} {h0:List Blk} {K K':List AV→List Blk→Prop} (hk:∀ s h,K s h→K' s h) (o:Oper) (hv:vqGuard P T ops h0 o s h K):vqGuard P T ops h0 o s h K':=by
 unfold vqGuard at *
 split at hv
 ·
  exact vqStep_mono hk o hv
 ·
  split at hv
  ·
   exact hv.elim
  ·
   split at hv
   ·
    split at hv
    ·
     split at hv
     ·
      exact vqStep_mono hk o hv
     ·
      exact hk _ _ hv
    ·
     split at hv
     ·
      exact hk _ _ hv
     ·
      exact vqStep_mono hk o hv
   ·
    exact hk _ _ hv
   ·
    exact hv.elim
theorem vqOps_mono {ops:Array Oper} {h0:List Blk}:∀(l:List Oper) {K K':List AV→List Blk→Prop} {s:List AV} {h:List Blk},(∀ s h,K s h→K' s h)→vqOps P T ops h0 l s h K→vqOps P T ops h0 l s h K'
 | [],_,_,_,_,hk,hv=>hk _ _ hv
 | o::rest,_,_,_,_,hk,hv=>vqGuard_mono (fun _ _ hv=>vqOps_mono rest hk hv) o hv
theorem vqAt_mono {ops:Array Oper} {h0:List Blk} {o:Option Oper} {K K':List AV→List Blk→Prop} (hk:∀ s h,K s h→K' s h) (hv:vqAt P T ops h0 o s h K):vqAt P T ops h0 o s h K':=by
 cases o with
 | none=>exact hv.elim
 | some o=>exact vqGuard_mono hk o hv
theorem vqTree_mono {ops:Array Oper} {h0:List Blk} {K K':List AV→List Blk→Prop} (hk:∀ s h,K s h→K' s h):∀ {t:Tr} {s:List AV} {h:List Blk},vqTree P T ops h0 K t s h→vqTree P T ops h0 K' t s h
 | .nil,_,_,hv=>hk _ _ hv
 | .one _ _,_,_,hv=>vqAt_mono (fun _ _ x=>vqTree_mono hk x) hv
 | .two _ _ _ _,_,_,hv=>⟨vqAt_mono (fun _ _ x=>vqTree_mono hk x) hv.1,vqAt_mono (fun _ _ x=>vqTree_mono hk x) hv.2⟩
theorem vgAt_mono {ops:Array Oper} {o:Option Oper} {K K':List AV→List Blk→Prop} (hk:∀ s h,K s h→K' s h) (hv:vgAt P T ops o s h K):vgAt P T ops o s h K':=by
 cases o with
 | none=>exact hv.elim
 | some o=>exact vcGuard_monoP hk o hv
theorem vTree_mono {ops:Array Oper} {K K':List AV→List Blk→Prop} (hk:∀ s h,K s h→K' s h):∀ {t:Tr} {s:List AV} {h:List Blk},vTree P T ops K t s h→vTree P T ops K' t s h
 | .nil,_,_,hv=>hk _ _ hv
 | .one _ _,_,_,hv=>vgAt_mono (fun _ _ x=>vTree_mono hk x) hv
 | .two _ _ _ _,_,_,hv=>⟨vgAt_mono (fun _ _ x=>vTree_mono hk x) hv.1,vgAt_mono (fun _ _ x=>vTree_mono hk x) hv.2⟩
theorem vmTree_mono {ops:Array Oper} {h0:List Blk} {K K':List AV→List Blk→Prop} (hk:∀ s h,K s h→K' s h):∀ {t:TrM} {s:List AV} {h:List Blk},vmTree P T ops h0 K t s h→vmTree P T ops h0 K' t s h
 | .nil,_,_,hv=>hk _ _ hv
 | .pur _ _,_,_,hv=>vqAt_mono (fun _ _ x=>vmTree_mono hk x) hv
 | .eff _ _,_,_,hv=>vgAt_monoM (fun _ _ x=>⟨x.1,vmTree_mono hk x.2⟩) hv
 | .two _ _ _ _,_,_,hv=>⟨vgAt_monoM (fun _ _ x=>⟨x.1,vmTree_mono hk x.2⟩) hv.1,vgAt_monoM (fun _ _ x=>⟨x.1,vmTree_mono hk x.2⟩) hv.2⟩
theorem DrawK.mono {ops:Array Oper} {K K':List AV→List Blk→Prop} (hk:∀ s h,K s h→K' s h) (hv:DrawK P T ops s h K):DrawK P T ops s h K':=by
 refine⟨hv.1,?_⟩
 rcases hv.2 with g|⟨l,o,h1,h2,h3⟩|⟨t,h1,h2,h3⟩|⟨t,h1,h2,h3⟩|⟨t,h1,h2,h0,h3,h4⟩
 ·
  obtain⟨h0,g2,g3⟩:=g.2
  exact .inl ⟨g.1,h0,g2,vqOps_mono _ hk g3⟩
 ·
  exact .inr (.inl ⟨l,o,h1,h2,vqOps_mono _ (fun _ _ x=>vcGuard_monoP hk o x) h3⟩)
 ·
  obtain⟨h0,g2,g3⟩:=h3
  exact .inr (.inr (.inl ⟨t,h1,h2,h0,g2,vqTree_mono hk g3⟩))
 ·
  exact .inr (.inr (.inr (.inl ⟨t,h1,h2,vTree_mono hk h3⟩)))
 ·
  exact .inr (.inr (.inr (.inr ⟨t,h1,h2,h0,h3,vmTree_mono hk h4⟩)))
theorem drawK_sound (hT:TabOK P T) {id:Nat} {ops:Array Oper} {K:List AV→List Blk→Prop} {Q:Exit→Act→World→Prop} {ro:Option Nat} (hd:MK n0 S φ h w a.defers) (hs:CAll S w φ s a.tmps) (hr:R S φ h w)
  (hv:DrawK P T ops s h K) (hK:∀ a' w',Conc n0 K S φ h w a' w'→Q .normal a' w'):(Code.region id ops true).wpIn (FW ro) 0 P Q a w :=
 by
 rcases hv.2 with g|⟨l,o,rfl,h2,h3⟩|⟨t,h1,h2,h3⟩|⟨t,h1,h2,h3⟩|⟨t,h1,h2,h0,h3,h4⟩
 ·
  obtain⟨h0,g2,g3⟩:=g.2
  exact lexY_sound hT hv.1 g.1 g2 hd hs hr g3.out hK
 ·
  exact lexZ_sound hT hv.1 h2 hd hs hr h3.out hK
 ·
  obtain⟨h0,g2,g3⟩:=h3
  exact lexT_sound hT hv.1 h1 h2 g2 hd hs hr g3.out hK
 ·
  exact lexV_sound hT hv.1 h1 h2 hd hs hr h3 hK
 ·
  exact lexM_sound hT hv.1 h1 h2 h3 hd hs hr h4 hK
end
end Go.Abs
