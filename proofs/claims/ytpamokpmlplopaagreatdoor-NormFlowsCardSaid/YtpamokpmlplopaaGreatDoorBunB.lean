/-
  AbsP, AbsN, Tab, AbsO, AbsX, Parts, AbsR, AbsY, AbsZ, AbsI, AbsV, IdX, AbsJ, IdX2: put together.
-/
import Derived.Test.YtpamokpmlplopaaGreatDoorBunA
import Derived.Still
import Derived.RangeFuncLeaves
import Derived.RangeFuncRecord
import Derived.RangeFuncSeq
import Derived.Test.YtpamokpmlplopaaGreatDoorProg
import Derived.Shelf.SlicesQ.Reverse
import Derived.Lib.Bytealg
namespace Go.Abs
open Go.RowKit
section
variable {P: Program} {T: TypeId → TI} {S S': Addr → Prop} {φ φ': Nat → Loc} {h h': List Blk} {w w': World} {s s': List AV} {a a': Act} {n0: Nat}
inductive Pure: AV → Prop where
 | raw (v: Value): Pure (.raw v)
 | agg (cs: List AV) (h: ∀ c ∈ cs,Pure c): Pure (.agg cs)
 | tup (cs: List AV) (h: ∀ c ∈ cs,Pure c): Pure (.tup cs)
 | lst (sz: Nat) (es: List AV) (h: ∀ c ∈ flat es,Pure c): Pure (.lst sz es none)
 | eptr (cs: List AV) (h: ∀ c ∈ cs,Pure c): Pure (.eptr cs)
 | fn (f: Fn) (xs ys: List AV) (h: ∀ c ∈ xs,Pure c) (h': ∀ c ∈ ys,Pure c): Pure (.fn f xs ys)
theorem C.pure (φ': Nat → Loc) {x: AV} {v: Value} (hc: C S w φ x v): Pure x → C S w φ' x v := by
 induction hc with
 | raw v => intro _; exact .raw v
 | agg cs vs hl h h1 ih => intro hp; cases hp with | agg _ hp => exact .agg cs vs hl (fun i a v ha hv => ih i a v ha hv (hp a (List.mem_of_getElem? ha))) h1
 | tup cs vs hl h ih => intro hp; cases hp with | tup _ hp => exact .tup cs vs hl (fun i a v ha hv => ih i a v ha hv (hp a (List.mem_of_getElem? ha)))
 | lst sz es tok a len cap u hlen hcap hmax hsz hm hc h1 ht ih =>
  intro hp; cases hp with | lst _ _ hp => exact .lst sz es none a len cap u hlen hcap hmax hsz hm (fun j c hj => ih j c hj (hp c (List.mem_of_getElem? hj))) h1 trivial
 | lstnil sz tok ht => intro hp; cases hp; exact .lstnil sz none trivial
 | eptr cs a u hm hc h1 ih => intro hp; cases hp with | eptr _ hp => exact .eptr cs a u hm (fun j c hj => ih j c hj (hp c (List.mem_of_getElem? hj))) h1
 | ptr k off b h => intro hp; cases hp
 | sl sz k off len b cap h hcap hmax => intro hp; cases hp
 | fn f xs ys vs us hl hl' h h' ih ih' =>
  intro hp; cases hp with
  | fn _ _ _ hp hp' => exact .fn f xs ys vs us hl hl' (fun i a v ha hv => ih i a v ha hv (hp a (List.mem_of_getElem? ha))) (fun i a v ha hv => ih' i a v ha hv (hp' a (List.mem_of_getElem? ha)))
 | map k b h => intro hp; cases hp
 | own sz k n a cap hcap hmax ht => intro hp; cases hp
theorem CAll.pure (φ': Nat → Loc) {xs: List AV} {vs: Array Value} (hc: CAll S w φ xs vs) (hp: ∀ x ∈ xs,Pure x): CAll S w φ' xs vs :=
 ⟨hc.1,fun i x v hx hv => (hc.2 i x v hx hv).pure φ' (hp x (List.mem_of_getElem? hx))⟩
def PCall (P: Program) (f: FuncId) (args: List AV) (r: AV): Prop :=
 (∀ x ∈ args,Pure x) ∧ Pure r ∧ ∀ S w vs,(∀ a,S a → a.block < w.heap.size) → TabF (fun _ => .no) [] w → CAll S w (fun _ => .no) args vs → (callFunc f vs).run P w = .ok (.enter f vs) w ∧
  Calls P f vs w fun e w' => ∃ v S',e = .returned v ∧ C S' w' (fun _ => .no) r v ∧ R S' (fun _ => .no) [] w' ∧ Ext S (fun _ => .no) [] w S' (fun _ => .no) [] w'
theorem R.nil (hb: ∀ a,S a → a.block < w.heap.size) (ht: TabF (fun _ => .no) [] w): R S (fun _ => .no) [] w :=
 ⟨fun k x h => by simp at h,fun k k' x x' b h => by simp at h,hb,fun _ _ => rfl,ht⟩
theorem no_owns {b: Nat}: ¬ Owns (fun _ => .no) [] b := by
 rintro ⟨k,x,h,_⟩
 simp at h
theorem TabF.bare (t: TabF φ h w): TabF (fun _ => .no) [] w := fun x hx => ⟨(t x hx).1,no_owns⟩
theorem R.over (hr: R S φ h w) (he: Ext S (fun _ => .no) [] w S' (fun _ => .no) [] w') (hb: ∀ a,S' a → a.block < w'.heap.size): R S' φ h w' ∧ Ext S φ h w S' φ h w' := by
 have hk: ∀ b,b < w.heap.size → w'.heap[b]? = w.heap[b]? := fun b hb => he.keep b hb no_owns
 have hn: ∀ a,S' a → S a ∨ w.heap.size ≤ a.block := fun a ha => by
  rcases he.new a ha with g | g | g
  ·
   exact .inl g
  ·
   exact .inr g
  ·
   exact absurd g no_owns
 have hE: Ext S φ h w S' φ h w' := by
  refine ⟨he.os,he.tape,he.output,he.size,fun b hb _ => hk b hb,he.sub,he.cell,fun k => Loc.le_refl _,fun a ha => ?_,fun b hb => .inl hb⟩
  rcases hn a ha with g | g
  ·
   exact .inl g
  ·
   exact .inr (.inl g)
 refine ⟨⟨fun k x hx => (hr.blk k x hx).keep (fun b hb _ => hk b hb) he.sub he.cell (fun k => Loc.le_refl _) rfl (fun a ha => ?_),hr.inj,hb,hr.fresh,hr.tab.ext hE⟩,hE⟩
 rcases hn a ha with g | g
 ·
  exact .inl g
 ·
  exact .inr fun b _ hb => by omega
theorem PCall.call {f: FuncId} {args: List AV} {r: AV} {K: AV → List Blk → Prop} (hp: PCall P f args r) (hk: K r h): ACall P f args h K := by
 obtain ⟨h1,h2,h3⟩ := hp
 intro S φ w vs hr hargs
 obtain ⟨henter,hcalls⟩ := h3 S w vs hr.bnd hr.tab.bare (hargs.pure _ h1)
 refine ⟨henter,Calls.mono hcalls ?_⟩
 rintro e w' ⟨v,S',rfl,hc,hr',he⟩
 obtain ⟨k1,k2⟩ := hr.over he hr'.bnd
 exact ⟨v,r,h,S',φ,rfl,hk,hc.pure φ h2,k1,k2⟩
def MonoH: List Blk → List Blk → Prop
 | [],_ => True
 | _ :: _,[] => False
 | x :: r,x' :: r' => (match x with
  | .cells _ cs => match x' with
   | .cells _ cs' => cs = cs'
   | _ => False
  | _ => True) ∧ MonoH r r'
theorem MonoH.cells: ∀ {h h': List Blk},MonoH h h' → ∀ {k: Nat} {cs: List AV},blkCells h k = some cs → blkCells h' k = some cs
 | [],_,_,k,_,hk => by simp [blkCells] at hk
 | _ :: _,[],hm,_,_,_ => hm.elim
 | x :: r,x' :: r',hm,k,cs,hk => by
  cases k with
  | zero =>
   have h1 := hm.1
   cases x with
   | cells t cs =>
    cases x' with
    | cells t' cs' =>
     dsimp only at h1
     subst h1
     exact hk
    | _ => exact h1.elim
   | _ => simp [blkCells] at hk
  | succ k => exact MonoH.cells hm.2 hk
theorem MonoH.refl: ∀ h: List Blk,MonoH h h
 | [] => trivial
 | x :: r => ⟨by cases x <;> trivial,MonoH.refl r⟩
theorem MonoH.cut: ∀ (h: List Blk) (k: Nat),MonoH (h.set k .dead) h
 | [],_ => trivial
 | x :: r,0 => ⟨trivial,MonoH.refl r⟩
 | x :: r,k + 1 => ⟨by cases x <;> trivial,MonoH.cut r k⟩
theorem MonoH.trans: ∀ {h g f: List Blk},MonoH h g → MonoH g f → MonoH h f
 | [],_,_,_,_ => trivial
 | _ :: _,[],_,hm,_ => hm.elim
 | _ :: _,_ :: _,[],_,hm => hm.elim
 | x :: r,y :: g,z :: f,hm,hn => ⟨by
   have h1 := hm.1
   have h2 := hn.1
   cases x with
   | cells t cs =>
    cases y with
    | cells t' cs' =>
     cases z with
     | cells t'' cs'' => exact Eq.trans h1 h2
     | _ => exact h2.elim
    | _ => exact h1.elim
   | _ => trivial,MonoH.trans hm.2 hn.2⟩
def cutH: List Nat → List Blk → List Blk
 | [],h => h
 | k :: ks,h => cutH ks (h.set k .dead)
theorem MonoH.cuts: ∀ (ks: List Nat) (h: List Blk),MonoH (cutH ks h) h
 | [],h => MonoH.refl h
 | k :: ks,h => (MonoH.cuts ks (h.set k .dead)).trans (MonoH.cut h k)
def RCall (P: Program) (h0: List Blk) (g: FuncId) (args: List AV) (v: AV): Prop := ∀ (h: List Blk) (K: AV → List Blk → Prop),MonoH h0 h → K v h → ACall P g args h K
theorem PCall.toR {h0: List Blk} {g: FuncId} {args: List AV} {v: AV} (hp: PCall P g args v): RCall P h0 g args v := fun _ _ _ hk => hp.call hk
def Op.eff: Op → Bool
 | .box .. | .alloc .. | .store .. | .buildSlice .. | .makeSlice .. | .mapUpdate .. => true
 | .slice _ _ _ _ (some _) => true
 | .call { callee := .builtin .append,.. } => true
 | _ => false
def QStep (P: Program) (T: TypeId → TI) (h0: List Blk) (o: Oper) (s: List AV) (h: List Blk) (v: AV) (h': List Blk): Prop :=
 match Op.eff o.op with
 | true => MonoH h0 h' ∧ match stepHeap T s h o.op with
  | .ok u g => v = u ∧ h' = g
  | .side p u g => p ∧ v = u ∧ h' = g
  | .bad => False
 | false => h' = h ∧ match o.op with
  | .call { callee := .value f,args,.. } => match opd s f with
   | .fn (.func g) first captured => RCall P h0 g (first ++ args.toList.map (opd s) ++ captured) v
   | _ => False
  | op => match stepPure T s h0 op with
   | .ok u => v = u
   | .side p u => p ∧ v = u
   | .fact _ u => v = u
   | .elem i es f => ∃ x,(0 ≤ i ∧ es[i.toNat]? = some x) ∧ v = f x
   | .bad => False
def guardVal (ops: Array Oper) (s: List AV) (j: Nat): AV :=
 match guardSlot ops j with
 | none => .map 0
 | some d => s.getD d (.tup [])
def Yield (P: Program) (T: TypeId → TI) (ops: Array Oper) (h0: List Blk) (o: Oper) (s: List AV) (h: List Blk) (v: AV) (h': List Blk): Prop :=
 match o.guard with
 | none => QStep P T h0 o s h v h'
 | some (j,want) => match guardVal ops s j with
  | .raw (.bool b) => match b == want with
   | true => QStep P T h0 o s h v h'
   | false => v = .tup [] ∧ h' = h
  | .tup _ => v = .tup [] ∧ h' = h
  | _ => False
theorem set_id {s: List AV} {d: Nat} {v: AV} (h: s.getD d (.tup []) = v): s.set d v = s := by
 apply List.ext_getElem?
 intro i
 rw [List.getElem?_set]
 by_cases e: d = i
 ·
  subst e
  rw [if_pos rfl]
  split
  ·
   rename_i hlt
   rw [List.getD_eq_getElem?_getD,List.getElem?_eq_getElem hlt] at h
   rw [List.getElem?_eq_getElem hlt,← h]
   rfl
  ·
   rename_i hge
   exact (List.getElem?_eq_none (Nat.le_of_not_lt hge)).symm
 ·
  rw [if_neg e]
theorem stepPure_at {h0 h: List Blk} (hm: MonoH h0 h) (op: Op) (hb: stepPure T s h0 op ≠ .bad): stepPure T s h op = stepPure T s h0 op := by
 cases op with
 | load t x =>
  simp only [stepPure] at hb ⊢
  split
  ·
   rfl
  ·
   split
   ·
    rfl
   ·
    rename_i k off _
    cases hk: blkCells h0 k with
    | none => simp_all
    | some cs => rw [hm.cells hk]
   ·
    rfl
 | slice t x lo hi mx => cases mx <;> rfl
 | call c =>
  obtain ⟨callee,args,ts⟩ := c
  cases callee with
  | builtin b => cases b <;> rfl
  | _ => rfl
 | _ => rfl
theorem QStep.mono {h0 h h': List Blk} {o: Oper} {v: AV} (hm: MonoH h0 h) (q: QStep P T h0 o s h v h'): MonoH h0 h' := by
 unfold QStep at q
 split at q
 ·
  exact q.1
 ·
  exact q.1 ▸ hm
theorem QStep.vc {h0: List Blk} {o: Oper} {v: AV} {K: List AV → List Blk → Prop} (hm: MonoH h0 h) (q: QStep P T h0 o s h v h') (hk: K (put s o.dst v) h'): vcStep P T o s h K := by
 obtain ⟨dst,op,ty,pos,af,gd⟩ := o
 unfold QStep at q
 have fromPure: (∀ f args tys,op ≠ .call { callee := .value f,args := args,argTypes := tys }) → Op.eff op = false → h' = h → (match stepPure T s h0 op with
   | .ok u => v = u
   | .side p u => p ∧ v = u
   | .fact _ u => v = u
   | .elem i es f => ∃ x,(0 ≤ i ∧ es[i.toNat]? = some x) ∧ v = f x
   | .bad => False) → (match stepPure T s h op with
  | .ok v => K (put s dst v) h
  | .side p v => p ∧ K (put s dst v) h
  | .fact p v => p → K (put s dst v) h
  | .elem i es f => ∃ x,(0 ≤ i ∧ es[i.toNat]? = some x) ∧ K (put s dst (f x)) h
  | .bad => match stepHeap T s h op with
   | .ok v h' => K (put s dst v) h'
   | .side p v h' => p ∧ K (put s dst v) h'
   | .bad => False) := by
  clear q
  intro _ _ he q
  subst he
  have hb: stepPure T s h0 op ≠ .bad := fun e => by rw [e] at q; exact q
  rw [stepPure_at hm op hb]
  generalize stepPure T s h0 op = r at q hb
  cases r with
  | ok u => subst q; exact hk
  | side p u => obtain ⟨hp,rfl⟩ := q; exact ⟨hp,hk⟩
  | fact p u => subst q; exact fun _ => hk
  | elem i es f => obtain ⟨x,hx,rfl⟩ := q; exact ⟨x,hx,hk⟩
  | bad => exact q.elim
 have fromHeap: stepPure T s h op = .bad → (match stepHeap T s h op with
  | .ok u g => v = u ∧ h' = g
  | .side p u g => p ∧ v = u ∧ h' = g
  | .bad => False) → (match stepPure T s h op with
  | .ok v => K (put s dst v) h
  | .side p v => p ∧ K (put s dst v) h
  | .fact p v => p → K (put s dst v) h
  | .elem i es f => ∃ x,(0 ≤ i ∧ es[i.toNat]? = some x) ∧ K (put s dst (f x)) h
  | .bad => match stepHeap T s h op with
   | .ok v h' => K (put s dst v) h'
   | .side p v h' => p ∧ K (put s dst v) h'
   | .bad => False) := by
  clear q
  intro he q
  rw [he]
  dsimp only
  generalize stepHeap T s h op = r at q
  cases r with
  | ok u g => obtain ⟨rfl,rfl⟩ := q; exact hk
  | side p u g => obtain ⟨hp,rfl,rfl⟩ := q; exact ⟨hp,hk⟩
  | bad => exact q.elim
 cases op with
 | call c =>
  obtain ⟨callee,args,tys⟩ := c
  cases callee with
  | value f =>
   simp only [Op.eff] at q
   obtain ⟨rfl,q⟩ := q
   simp only [vcStep]
   split at q
   ·
    rename_i hfe
    rw [hfe]
    exact q h' (fun r h' => K (Abs.put s dst r) h') hm hk
   ·
    exact q.elim
  | builtin b =>
   cases b <;> first
    | exact fromHeap rfl q.2
    | exact fromPure (fun f args tys e => by cases e) rfl q.1 q.2
  | invoke r m => exact fromPure (fun f args tys e => by cases e) rfl q.1 q.2
 | slice t x lo hi mx =>
  cases mx with
  | none => exact fromPure (fun f args tys e => by cases e) rfl q.1 q.2
  | some m => exact fromHeap rfl q.2
 | box t x => exact fromHeap rfl q.2
 | alloc t => exact fromHeap rfl q.2
 | store t x y => exact fromHeap rfl q.2
 | buildSlice t n ps => exact fromHeap rfl q.2
 | makeSlice t x y => exact fromHeap rfl q.2
 | mapUpdate t m k v => exact fromHeap rfl q.2
 | _ => exact fromPure (fun f args tys e => by cases e) rfl q.1 q.2
theorem Yield.mono {ops: Array Oper} {h0 h h': List Blk} {o: Oper} {v: AV} (hm: MonoH h0 h) (q: Yield P T ops h0 o s h v h'): MonoH h0 h' := by
 unfold Yield at q
 split at q
 ·
  exact QStep.mono hm q
 ·
  split at q
  ·
   split at q
   ·
    exact QStep.mono hm q
   ·
    exact q.2 ▸ hm
  ·
   exact q.2 ▸ hm
  ·
   exact q.elim
theorem Yield.vc {ops: Array Oper} {h0: List Blk} {o: Oper} {v: AV} {K: List AV → List Blk → Prop} (hm: MonoH h0 h) (q: Yield P T ops h0 o s h v h') (hk: K (put s o.dst v) h'): vcGuard P T ops o s h K := by
 unfold Yield at q
 unfold vcGuard
 cases hg: o.guard with
 | none => rw [hg] at q; exact QStep.vc hm q hk
 | some jw =>
  obtain ⟨j,want⟩ := jw
  rw [hg] at q
  dsimp only at q ⊢
  unfold guardVal at q
  cases hgs: guardSlot ops j with
  | none => rw [hgs] at q; exact q.elim
  | some d =>
   rw [hgs] at q
   dsimp only at q ⊢
   split at q
   ·
    rename_i b e
    rw [e]
    dsimp only
    have hs := set_id e
    cases b <;> cases want <;> dsimp only at q ⊢ <;> rw [hs]
    ·
     exact QStep.vc hm q hk
    ·
     obtain ⟨rfl,rfl⟩ := q; exact hk
    ·
     obtain ⟨rfl,rfl⟩ := q; exact hk
    ·
     exact QStep.vc hm q hk
   ·
    rename_i cs e
    rw [e]
    obtain ⟨rfl,rfl⟩ := q
    exact hk
   ·
    exact q.elim
theorem opd_set {s: List AV} {d: Nat} {v: AV} {x: Operand} (hx: x ≠ .tmp d): opd (s.set d v) x = opd s x := by
 cases x with
 | tmp t =>
  have: d ≠ t := fun e => hx (e ▸ rfl)
  simp only [opd,List.getD_eq_getElem?_getD,List.getElem?_set_ne this]
 | _ => rfl
theorem opd_put {s: List AV} {dst: Option Tmp} {v: AV} {x: Operand} (hx: ∀ d,dst = some d → x ≠ .tmp d): opd (put s dst v) x = opd s x := by
 cases dst with
 | none => rfl
 | some d => exact opd_set (hx d rfl)
theorem put_comm {s: List AV} {x y: Option Tmp} {v u: AV} (h: ∀ d,x = some d → y ≠ some d): put (put s x v) y u = put (put s y u) x v := by
 cases x with
 | none => rfl
 | some d =>
  cases y with
  | none => rfl
  | some e =>
   have: d ≠ e := fun e' => h d rfl (by rw [e'])
   exact List.set_comm _ _ this
theorem map_opd {s s': List AV} {l: List Operand} (h: ∀ x ∈ l,opd s x = opd s' x): l.map (opd s) = l.map (opd s') := List.map_congr_left h
theorem stepPure_congr {s s': List AV} {h: List Blk} (op: Op) (ho: ∀ x ∈ op.operands.toList,opd s x = opd s' x): stepPure T s h op = stepPure T s' h op := by
 cases op with
 | move x => simp only [stepPure]; rw [ho x (by simp [Op.operands])]
 | assign x => simp only [stepPure]; rw [ho x (by simp [Op.operands])]
 | pick c a b => simp only [stepPure]; rw [ho c (by simp [Op.operands]),ho a (by simp [Op.operands]),ho b (by simp [Op.operands])]
 | load t x => simp only [stepPure]; rw [ho x (by simp [Op.operands])]
 | fieldAddr t x f => simp only [stepPure]; rw [ho x (by simp [Op.operands])]
 | field t x f => simp only [stepPure]; rw [ho x (by simp [Op.operands])]
 | indexAddr t x i => simp only [stepPure]; rw [ho x (by simp [Op.operands]),ho i (by simp [Op.operands])]
 | index t x i => simp only [stepPure]; rw [ho x (by simp [Op.operands]),ho i (by simp [Op.operands])]
 | binOp op t x y u => simp only [stepPure]; rw [ho x (by simp [Op.operands]),ho y (by simp [Op.operands])]
 | unOp op t x => simp only [stepPure]; rw [ho x (by simp [Op.operands])]
 | extract x i => simp only [stepPure]; rw [ho x (by simp [Op.operands])]
 | convert t u x => simp only [stepPure]; rw [ho x (by simp [Op.operands])]
 | nilCheck x => simp only [stepPure]; rw [ho x (by simp [Op.operands])]
 | build t ps =>
  simp only [stepPure]
  have: (ps.toList.map fun p => (p.1,opd s p.2)) = ps.toList.map fun p => (p.1,opd s' p.2) := List.map_congr_left fun p hp => by
   rw [ho p.2 (by simp only [Op.operands]; exact List.mem_map.2 ⟨p,hp,rfl⟩)]
  rw [this]
 | makeFunc f xs ys =>
  simp only [stepPure]
  rw [map_opd (s' := s') (l := xs.toList) fun x hx => ho x (by simp only [Op.operands,Array.toList_append,List.mem_append]; exact .inl hx),
   map_opd (s' := s') (l := ys.toList) fun x hx => ho x (by simp only [Op.operands,Array.toList_append,List.mem_append]; exact .inr hx)]
 | slice t x lo hi mx =>
  cases mx with
  | some m => rfl
  | none =>
   simp only [stepPure]
   have hlo: lo.map (opd s) = lo.map (opd s') := by
    cases lo with
    | none => rfl
    | some l => simp only [Option.map_some]; rw [ho l (by simp [Op.operands])]
   have hhi: hi.map (opd s) = hi.map (opd s') := by
    cases hi with
    | none => rfl
    | some l => simp only [Option.map_some]; rw [ho l (by simp [Op.operands])]
   rw [ho x (by simp [Op.operands]),hlo,hhi]
 | call c =>
  obtain ⟨callee,args,ts⟩ := c
  cases callee with
  | builtin b =>
   have hargs: ∀ x ∈ args.toList,opd s x = opd s' x := fun x hx => ho x (by simp only [Op.operands,Call.operands,Array.toList_append,List.mem_append]; exact .inr hx)
   cases b <;> first | rfl | skip
   ·
    simp only [stepPure]
    split
    ·
     rename_i x t ha ht
     rw [hargs x (by rw [ha]; simp)]
    ·
     rfl
   ·
    simp only [stepPure]; rw [map_opd hargs]
   ·
    simp only [stepPure]; rw [map_opd hargs]
  | _ => rfl
 | _ => rfl
theorem looks_operand {ops: Array Oper} {o: Oper} {d: Nat} (h: d ∉ o.looksAt ops): ∀ x ∈ o.op.operands.toList,x ≠ .tmp d := by
 intro x hx e
 subst e
 apply h
 unfold Oper.looksAt
 exact List.mem_append.2 (.inl (List.mem_filterMap.2 ⟨.tmp d,hx,rfl⟩))
theorem stepHeap_congr {h: List Blk} (op: Op) (ho: ∀ x ∈ op.operands.toList,opd s x = opd s' x): stepHeap T s h op = stepHeap T s' h op := by
 cases op with
 | box t x => simp only [stepHeap]; rw [ho x (by simp [Op.operands])]
 | alloc t => rfl
 | store t a x => simp only [stepHeap]; rw [ho a (by simp [Op.operands]),ho x (by simp [Op.operands])]
 | buildSlice t n ps =>
  simp only [stepHeap]
  have: (ps.toList.map fun p => opd s p.2) = ps.toList.map fun p => opd s' p.2 := List.map_congr_left fun p hp => by
   rw [ho p.2 (by simp only [Op.operands]; exact List.mem_map.2 ⟨p,hp,rfl⟩)]
  rw [this]
 | makeSlice t l c => simp only [stepHeap]; rw [ho l (by simp [Op.operands]),ho c (by simp [Op.operands])]
 | slice t x lo hi mx =>
  cases hi with
  | none => rfl
  | some hi =>
   cases mx with
   | none => rfl
   | some m =>
    simp only [stepHeap]
    have hlo: lo.map (opd s) = lo.map (opd s') := by
     cases lo with
     | none => rfl
     | some l => simp only [Option.map_some]; rw [ho l (by simp [Op.operands])]
    rw [ho x (by simp [Op.operands]),hlo,ho hi (by simp [Op.operands]),ho m (by simp [Op.operands])]
 | call c =>
  obtain ⟨callee,args,ts⟩ := c
  cases callee with
  | builtin b =>
   have hargs: ∀ x ∈ args.toList,opd s x = opd s' x := fun x hx => ho x (by simp only [Op.operands,Call.operands,Array.toList_append,List.mem_append]; exact .inr hx)
   cases b <;> first | rfl | skip
   all_goals simp only [stepHeap]
   all_goals split
   ·
    rename_i x y t u ha ht
    rw [hargs x (by rw [ha]; simp),hargs y (by rw [ha]; simp)]
   ·
    rfl
   ·
    rename_i x y t u ha ht
    rw [hargs x (by rw [ha]; simp),hargs y (by rw [ha]; simp)]
   ·
    rfl
   ·
    rename_i x t ha ht
    rw [hargs x (by rw [ha]; simp)]
   ·
    rfl
  | _ => rfl
 | makeMap t r => cases r <;> rfl
 | range t x => simp only [stepHeap]; rw [ho x (by simp [Op.operands])]
 | next x q => simp only [stepHeap]; rw [ho x (by simp [Op.operands])]
 | lookup t x i ok => simp only [stepHeap]; rw [ho x (by simp [Op.operands]),ho i (by simp [Op.operands])]
 | mapUpdate t m k v => simp only [stepHeap]; rw [ho m (by simp [Op.operands]),ho k (by simp [Op.operands]),ho v (by simp [Op.operands])]
 | _ => rfl
theorem QStep.put {ops: Array Oper} {h0 h h': List Blk} {o: Oper} {s: List AV} {u: AV} {dst: Option Tmp} {v: AV} (hd: ∀ d,dst = some d → d ∉ o.looksAt ops): QStep P T h0 o (put s dst v) h u h' ↔ QStep P T h0 o s h u h' := by
 have ho: ∀ x ∈ o.op.operands.toList,opd (Abs.put s dst v) x = opd s x := fun x hx => opd_put fun d e => looks_operand (hd d e) x hx
 unfold QStep
 split
 ·
  rw [stepHeap_congr o.op ho]
 ·
  split
  ·
   rename_i f args ts hop
   have hf: opd (Abs.put s dst v) f = opd s f := ho f (by rw [hop]; simp [Op.operands,Call.operands])
   have hargs: args.toList.map (opd (Abs.put s dst v)) = args.toList.map (opd s) := map_opd fun x hx => ho x (by rw [hop]; simp only [Op.operands,Call.operands,Array.toList_append,List.mem_append]; exact .inr hx)
   rw [hf,hargs]
  ·
   rw [stepPure_congr o.op ho]
theorem guardVal_put {ops: Array Oper} {o: Oper} {s: List AV} {dst: Option Tmp} {v: AV} {j: Nat} {want: Bool} (hg: o.guard = some (j,want)) (hd: ∀ d,dst = some d → d ∉ o.looksAt ops): guardVal ops (put s dst v) j = guardVal ops s j := by
 unfold guardVal
 cases hgs: guardSlot ops j with
 | none => rfl
 | some e =>
  cases dst with
  | none => rfl
  | some d =>
   have hne: d ≠ e := by
    rintro rfl
    apply hd d rfl
    unfold Oper.looksAt
    rw [hg]
    refine List.mem_append.2 (.inr ?_)
    unfold guardSlot at hgs
    cases ho: ops.toList[j]? with
    | none => rw [ho] at hgs; cases hgs
    | some o' =>
     rw [ho] at hgs
     have: ops[j]? = some o' := by simpa using ho
     simp [this,hgs]
   simp only [put,List.getD_eq_getElem?_getD,List.getElem?_set_ne hne]
theorem Yield.put {ops: Array Oper} {h0 h h': List Blk} {o: Oper} {s: List AV} {u: AV} {dst: Option Tmp} {v: AV} (hd: ∀ d,dst = some d → d ∉ o.looksAt ops): Yield P T ops h0 o (put s dst v) h u h' ↔ Yield P T ops h0 o s h u h' := by
 unfold Yield
 cases hg: o.guard with
 | none => exact QStep.put hd
 | some jw =>
  obtain ⟨j,want⟩ := jw
  dsimp only
  rw [guardVal_put hg hd,QStep.put hd]
theorem Yield.quiet {ops: Array Oper} {h0 h h' g: List Blk} {o: Oper} {v: AV} (he: Op.eff o.op = false) (q: Yield P T ops h0 o s h v h'): h' = h ∧ Yield P T ops h0 o s g v g := by
 unfold Yield at q ⊢
 unfold QStep at q ⊢
 rw [he] at q ⊢
 dsimp only at q ⊢
 cases hg: o.guard with
 | none =>
  rw [hg] at q
  exact ⟨q.1,rfl,q.2⟩
 | some jw =>
  obtain ⟨j,want⟩ := jw
  rw [hg] at q
  dsimp only at q ⊢
  generalize guardVal ops s j = gv at q
  split at q
  ·
   split at q
   ·
    exact ⟨q.1,rfl,q.2⟩
   ·
    exact ⟨q.2,q.1,rfl⟩
  ·
   exact ⟨q.2,q.1,rfl⟩
  ·
   exact q.elim
def AnyY (P: Program) (T: TypeId → TI) (ops: Array Oper) (h0: List Blk) (K: List AV → List Blk → Prop): Nat → Array Bool → List AV → List Blk → Prop
 | 0,listed,s,h => Region.ready .any ops listed = [] ∧ K s h
 | fuel + 1,listed,s,h => (Region.ready .any ops listed = [] → K s h) ∧
  ∀ i ∈ Region.ready .any ops listed,∃ o v h',ops[i]? = some o ∧ Yield P T ops h0 o s h v h' ∧ AnyY P T ops h0 K fuel (listed.setIfInBounds i true) (put s o.dst v) h'
def Oper.apartE (ops: Array Oper) (x y: Oper): Bool := x.apart ops y && !(Op.eff x.op && Op.eff y.op)
theorem anyY_first {ops: Array Oper} {h0: List Blk} {K: List AV → List Blk → Prop} {i: Nat} {oi: Oper} {v: AV} (hi: ops[i]? = some oi) (D: Nat → Bool)
  (hD: ∀ j oj,ops[j]? = some oj → D j = true → ∃ e ∈ oj.after,Region.binds .any e = true ∧ (e.on = i ∨ D e.on = true)) :
  ∀ (fuel: Nat) (listed: Array Bool) (s: List AV) (h h1: List Blk),(∀ j,D j = true → listed.getD j true = false) → (∀ j oj,ops[j]? = some oj → j ≠ i → listed.getD j true = false → D j = false → Oper.apartE ops oi oj = true) →
   i ∈ Region.ready .any ops listed → Yield P T ops h0 oi s h v h1 → AnyY P T ops h0 K fuel (listed.setIfInBounds i true) (put s oi.dst v) h1 → AnyY P T ops h0 K (fuel + 1) listed s h := by
 intro fuel
 induction fuel with
 | zero =>
  intro listed s h h1 _ _ hr hy H
  refine ⟨fun h => (by rw [h] at hr; cases hr),fun j hj => ?_⟩
  by_cases hji: j = i
  ·
   subst hji; exact ⟨oi,v,h1,hi,hy,H⟩
  ·
   have := ready_mono hj hji
   rw [H.1] at this
   cases this
 | succ fuel ih =>
  intro listed s h h1 hDl hfree hr hy H
  refine ⟨fun h => (by rw [h] at hr; cases hr),fun j hj => ?_⟩
  by_cases hji: j = i
  ·
   subst hji; exact ⟨oi,v,h1,hi,hy,H⟩
  ·
   obtain ⟨oj,u,h2,hoj,hyj,H1⟩ := H.2 j (ready_mono hj hji)
   obtain ⟨hjun,oj',hoj',hall⟩ := mem_ready.1 hj
   rw [hoj] at hoj'
   cases hoj'
   have hnot: D j = false := by
    cases hDj: D j with
    | false => rfl
    | true =>
     exfalso
     obtain ⟨e,he,hb,hor⟩ := hD j oj hoj hDj
     have h1 := hall e he hb
     rcases hor with heq | hDe
     ·
      have h0 := (mem_ready.1 hr).1
      rw [heq] at h1
      rcases Nat.lt_or_ge i listed.size with h' | h'
      ·
       simp [h'] at h0 h1; rw [h0] at h1; cases h1
      ·
       simp [Array.getElem?_eq_none h'] at h1
     ·
      have h0 := hDl e.on hDe
      rcases Nat.lt_or_ge e.on listed.size with h' | h'
      ·
       simp [h'] at h0 h1; rw [h0] at h1; cases h1
      ·
       simp [Array.getElem?_eq_none h'] at h1
   have hap := hfree j oj hoj hji hjun hnot
   simp only [Oper.apartE,Bool.and_eq_true,Bool.not_eq_true',Bool.and_eq_false_iff] at hap
   obtain ⟨a1,a2,a3⟩ := Oper.apart_spec hap.1
   have hyj': Yield P T ops h0 oj s h1 u h2 := (Yield.put a1).1 hyj
   have hyi': Yield P T ops h0 oi (put s oj.dst u) h v h1 := (Yield.put a3).2 hy
   have hfree': ∀ k ok,ops[k]? = some ok → k ≠ i → (listed.setIfInBounds j true).getD k true = false →
     D k = false → Oper.apartE ops oi ok = true := fun k ok hk hki hun hno => by
    refine hfree k ok hk hki ?_ hno
    by_cases hjk: j = k
    ·
     subst hjk; exact hjun
    ·
     rw [getD_set_ne true hjk] at hun; exact hun
   have hDl': ∀ k,D k = true → (listed.setIfInBounds j true).getD k true = false := fun k hk => by
    have hjk: j ≠ k := fun e => by subst e; rw [hnot] at hk; cases hk
    rw [getD_set_ne true hjk]
    exact hDl k hk
   rcases hap.2 with he | he
   ·
    obtain ⟨rfl,hyi2⟩ := hyi'.quiet (g := h2) he
    refine ⟨oj,u,h2,hoj,hyj',ih (listed.setIfInBounds j true) _ _ _ hDl' hfree' (ready_mono hr (Ne.symm hji)) hyi2 ?_⟩
    rw [Array.setIfInBounds_comm _ _ hji,← put_comm a2]
    exact H1
   ·
    obtain ⟨rfl,hyj2⟩ := hyj'.quiet (g := h) he
    refine ⟨oj,u,h,hoj,hyj2,ih (listed.setIfInBounds j true) _ _ _ hDl' hfree' (ready_mono hr (Ne.symm hji)) hyi' ?_⟩
    rw [Array.setIfInBounds_comm _ _ hji,← put_comm a2]
    exact H1
def waitsFor (ops: Array Oper) (i: Nat): Array Bool :=
 ops.foldl (fun acc o => acc.push (o.after.any fun e => Region.binds .any e && (e.on == i || acc.getD e.on false))) #[]
theorem waitsFor_size (ops: Array Oper) (i: Nat): (waitsFor ops i).size = ops.size := by
 unfold waitsFor
 rw [← Array.foldl_toList]
 have key: ∀ (l: List Oper) (acc: Array Bool),(l.foldl (fun acc o => acc.push (o.after.any fun e => Region.binds .any e && (e.on == i || acc.getD e.on false))) acc).size = acc.size + l.length := by
  intro l
  induction l with
  | nil => intro acc; rfl
  | cons o l ih => intro acc; rw [List.foldl_cons,ih]; simp; omega
 rw [key]
 simp
def freeE (ops: Array Oper) (listed: Array Bool) (i: Nat): Bool :=
 let D := waitsFor ops i
 match ops[i]? with
 | none => false
 | some oi => (List.range ops.size).all fun j => match ops[j]? with
   | some oj => (!(D.getD j false) || (oj.after.any (fun e => Region.binds .any e && (e.on == i || D.getD e.on false)) && !(listed.getD j true))) && (j == i || listed.getD j true || D.getD j false || Oper.apartE ops oi oj)
   | none => true
theorem freeE_spec {ops: Array Oper} {i: Nat} {oi: Oper} {listed: Array Bool} (hi: ops[i]? = some oi) (h: freeE ops listed i = true) :
  ∃ D: Nat → Bool,(∀ j oj,ops[j]? = some oj → D j = true → ∃ e ∈ oj.after,Region.binds .any e = true ∧ (e.on = i ∨ D e.on = true)) ∧ (∀ j,D j = true → listed.getD j true = false) ∧
   (∀ j oj,ops[j]? = some oj → j ≠ i → listed.getD j true = false → D j = false → Oper.apartE ops oi oj = true) ∧ ∀ j,j < ops.size → (waitsFor ops i).getD j false = true → D j = true := by
 simp only [freeE,hi,List.all_eq_true,List.mem_range] at h
 have at': ∀ j oj,ops[j]? = some oj → ((waitsFor ops i).getD j false = false ∨ (oj.after.any (fun e => Region.binds .any e && (e.on == i || (waitsFor ops i).getD e.on false)) = true ∧ listed.getD j true = false)) ∧
   (j = i ∨ listed.getD j true = true ∨ (waitsFor ops i).getD j false = true ∨ Oper.apartE ops oi oj = true) := by
  intro j oj hj
  have h1 := h j (Array.getElem?_eq_some_iff.1 hj).1
  simp only [hj,Bool.and_eq_true,Bool.or_eq_true,Bool.not_eq_true',beq_iff_eq] at h1
  refine ⟨h1.1,?_⟩
  rcases h1.2 with ((h2 | h2) | h2) | h2
  ·
   exact .inl h2
  ·
   exact .inr (.inl h2)
  ·
   exact .inr (.inr (.inl h2))
  ·
   exact .inr (.inr (.inr h2))
 refine ⟨fun j => decide (j < ops.size) && (waitsFor ops i).getD j false,fun j oj hj hD => ?_,fun j hD => ?_,fun j oj hj hne hun hD => ?_,fun j hj hw => by show (decide (j < ops.size) && (waitsFor ops i).getD j false) = true; rw [decide_eq_true hj,hw]; rfl⟩
 ·
  simp only [Bool.and_eq_true,decide_eq_true_eq] at hD
  rcases (at' j oj hj).1 with g | g
  ·
   rw [hD.2] at g; cases g
  ·
   obtain ⟨e,he,hb⟩ := Array.any_eq_true'.1 g.1
   simp only [Bool.and_eq_true,Bool.or_eq_true,beq_iff_eq] at hb
   refine ⟨e,he,hb.1,?_⟩
   rcases hb.2 with q | q
   ·
    exact .inl q
   ·
    by_cases hlt: e.on < ops.size
    ·
     right; simp [hlt,q]
    ·
     exact absurd q (by
      have hs: (waitsFor ops i).size = ops.size := waitsFor_size ops i
      simp [Array.getElem?_eq_none (by rw [hs]; omega: (waitsFor ops i).size ≤ e.on)])
 ·
  simp only [Bool.and_eq_true,decide_eq_true_eq] at hD
  have hj: ops[j]? = some ops[j] := Array.getElem?_eq_getElem hD.1
  rcases (at' j _ hj).1 with g | g
  ·
   rw [hD.2] at g; cases g
  ·
   exact g.2
 ·
  have hlt := (Array.getElem?_eq_some_iff.1 hj).1
  simp only [hlt,decide_true,Bool.true_and] at hD
  rcases (at' j oj hj).2 with g | g | g | g
  ·
   exact absurd g hne
  ·
   rw [hun] at g; cases g
  ·
   rw [hD] at g; cases g
  ·
   exact g
def lexFromE (ops: Array Oper): Nat → Nat → Array Bool → Bool
 | 0,_,listed => (Region.ready .any ops listed).isEmpty
 | fuel + 1,k,listed => (Region.ready .any ops listed).contains k && freeE ops listed k && lexFromE ops fuel (k + 1) (listed.setIfInBounds k true)
def lexE (ops: Array Oper): Bool := lexFromE ops ops.size 0 (Array.replicate ops.size false)
def LexY (P: Program) (T: TypeId → TI) (ops: Array Oper) (h0: List Blk) (K: List AV → List Blk → Prop): List Oper → List AV → List Blk → Prop
 | [],s,h => K s h
 | o :: l,s,h => ∃ v h',Yield P T ops h0 o s h v h' ∧ LexY P T ops h0 K l (put s o.dst v) h'
theorem anyY_lex {ops: Array Oper} {h0: List Blk} {K: List AV → List Blk → Prop}: ∀ (l: List Oper) (k: Nat) (listed: Array Bool) (s: List AV) (h: List Blk),(∀ j,l[j]? = ops[k + j]?) →
  lexFromE ops l.length k listed = true → LexY P T ops h0 K l s h → AnyY P T ops h0 K l.length listed s h
 | [],_,_,_,_,_,hB,hl => ⟨by simpa [lexFromE] using hB,hl⟩
 | o :: l,k,listed,s,h,hl,hB,hx => by
  have h0: ops[k]? = some o := by simpa using (hl 0).symm
  simp only [List.length_cons,lexFromE,Bool.and_eq_true] at hB
  obtain ⟨⟨hr,hf⟩,hB'⟩ := hB
  obtain ⟨v,h',hy,hK⟩ := hx
  obtain ⟨D,hD1,hD2,hD3,_⟩ := freeE_spec h0 hf
  exact anyY_first h0 D hD1 l.length listed s h h' hD2 hD3 (by simpa using hr) hy
   (anyY_lex l (k + 1) _ _ _ (fun j => by have := hl (j + 1); simpa [Nat.add_assoc,Nat.add_comm 1 j] using this) hB' hK)
theorem anyY_sound (hT: TabOK P T) {ops: Array Oper} {h0: List Blk} {K: List AV → List Blk → Prop} {Q: Exit → Act → World → Prop} {ro: Option Nat}: ∀ (fuel: Nat) (listed: Array Bool) {S: Addr → Prop} {φ: Nat → Loc} {h: List Blk} {w: World} {s: List AV} {a: Act},
  MK n0 S φ h w a.defers → CAll S w φ s a.tmps → R S φ h w → MonoH h0 h → AnyY P T ops h0 K fuel listed s h → (∀ a' w',Conc n0 K S φ h w a' w' → Q .normal a' w') → wpAnyIn (FW ro) 0 P .any ops Q fuel listed a w
 | 0,_,_,_,_,_,_,_,hd,hs,hr,_,hv,hK => ⟨hv.1,hK _ _ ⟨_,_,_,_,hv.2,hd,hs,hr,Ext.refl _ _ _ _⟩⟩
 | fuel + 1,listed,S,φ,h,w,s,a,hd,hs,hr,hm,hv,hK => by
  refine ⟨fun h0 => hK _ _ ⟨_,_,_,_,hv.1 h0,hd,hs,hr,Ext.refl _ _ _ _⟩,fun i hi => ?_⟩
  obtain ⟨o,v,h',ho,hy,hA⟩ := hv.2 i hi
  have hm' := hy.mono hm
  have hg := vcGuard_sound (Q := Q) (ro := ro) (Kc := fun a' w' => wpAnyIn (FW ro) 0 P .any ops Q fuel (listed.setIfInBounds i true) a' w') hT o hd hs hr
   (Yield.vc (K := fun s' h'' => MonoH h0 h'' ∧ AnyY P T ops h0 K fuel (listed.setIfInBounds i true) s' h'') hm hy ⟨hm',hA⟩) (by
    rintro a' w' ⟨s1,h1,S1,φ1,⟨hm1,hA1⟩,hd1,hs1,hr1,he1⟩
    refine anyY_sound hT fuel _ hd1 hs1 hr1 hm1 hA1 fun a'' w'' k => hK _ _ ?_
    obtain ⟨s2,h2,S2,φ2,k1,k2,k3,k4,k5⟩ := k
    exact ⟨s2,h2,S2,φ2,k1,k2,k3,k4,he1.trans k5⟩)
  unfold wpOpIn
  simp only [ho]
  split
  ·
   rename_i hw
   rw [if_pos hw] at hg
   exact hg
  ·
   rename_i hw
   rw [if_neg hw] at hg
   exact hg
theorem lexY_sound (hT: TabOK P T) (hmo: P.follows .mixedOrders = true) {id: Nat} {ops: Array Oper} {K: List AV → List Blk → Prop} {Q: Exit → Act → World → Prop} {ro: Option Nat} (hB: lexE ops = true) {h0: List Blk} (hm: MonoH h0 h) (hd: MK n0 S φ h w a.defers) (hs: CAll S w φ s a.tmps) (hr: R S φ h w)
  (hv: LexY P T ops h0 K ops.toList s h) (hK: ∀ a' w',Conc n0 K S φ h w a' w' → Q .normal a' w'): (Code.region id ops true).wpIn (FW ro) 0 P Q a w := by
 refine wpIn_region_any hmo (anyY_sound (K := K) (h0 := h0) hT ops.size _ (hd.ext (Ext.drew S φ h w)) ((Ext.drew S φ h w).CAll hs) hr.drew hm ?_ ?_)
 ·
  have := anyY_lex (P := P) (T := T) (h0 := h0) (K := K) ops.toList 0 (Array.replicate ops.size false) s h (by simp) (by simpa [lexE] using hB) hv
  simpa using this
 ·
  rintro a' w' ⟨s2,h2,S2,φ2,k1,k2,k3,k4,k5⟩
  exact hK _ _ ⟨s2,h2,S2,φ2,k1,k2,k3,k4,(Ext.drew S φ h w).trans k5⟩
def AnyZ (P: Program) (T: TypeId → TI) (ops: Array Oper) (h0: List Blk) (m: Nat) (B: List AV → List Blk → Prop): Nat → Array Bool → List AV → List Blk → Prop
 | 0,listed,s,h => Region.ready .any ops listed = [m] ∧ Region.ready .any ops (listed.setIfInBounds m true) = [] ∧ B s h
 | fuel + 1,listed,s,h => Region.ready .any ops listed ≠ [] ∧
  ∀ i ∈ Region.ready .any ops listed,∃ o v h',ops[i]? = some o ∧ Yield P T ops h0 o s h v h' ∧ AnyZ P T ops h0 m B fuel (listed.setIfInBounds i true) (put s o.dst v) h'
theorem anyZ_first {ops: Array Oper} {h0: List Blk} {m: Nat} {B: List AV → List Blk → Prop} {i: Nat} {oi: Oper} {v: AV} (hi: ops[i]? = some oi) (D: Nat → Bool)
  (hD: ∀ j oj,ops[j]? = some oj → D j = true → ∃ e ∈ oj.after,Region.binds .any e = true ∧ (e.on = i ∨ D e.on = true)) (hm: D m = true) :
  ∀ (fuel: Nat) (listed: Array Bool) (s: List AV) (h h1: List Blk),(∀ j,D j = true → listed.getD j true = false) → (∀ j oj,ops[j]? = some oj → j ≠ i → listed.getD j true = false → D j = false → Oper.apartE ops oi oj = true) →
   i ∈ Region.ready .any ops listed → Yield P T ops h0 oi s h v h1 → AnyZ P T ops h0 m B fuel (listed.setIfInBounds i true) (put s oi.dst v) h1 → AnyZ P T ops h0 m B (fuel + 1) listed s h := by
 intro fuel
 have hnotD: ∀ (listed: Array Bool),(∀ j,D j = true → listed.getD j true = false) → i ∈ Region.ready .any ops listed → ∀ j,j ∈ Region.ready .any ops listed → D j = false := by
  intro listed hDl hr j hj
  obtain ⟨hjun,oj,hoj,hall⟩ := mem_ready.1 hj
  cases hDj: D j with
  | false => rfl
  | true =>
   exfalso
   obtain ⟨e,he,hb,hor⟩ := hD j oj hoj hDj
   have h1 := hall e he hb
   rcases hor with heq | hDe
   ·
    have h0 := (mem_ready.1 hr).1
    rw [heq] at h1
    rcases Nat.lt_or_ge i listed.size with h' | h'
    ·
     simp [h'] at h0 h1; rw [h0] at h1; cases h1
    ·
     simp [Array.getElem?_eq_none h'] at h1
   ·
    have h0 := hDl e.on hDe
    rcases Nat.lt_or_ge e.on listed.size with h' | h'
    ·
     simp [h'] at h0 h1; rw [h0] at h1; cases h1
    ·
     simp [Array.getElem?_eq_none h'] at h1
 induction fuel with
 | zero =>
  intro listed s h h1 hDl _ hr hy H
  refine ⟨fun h => (by rw [h] at hr; cases hr),fun j hj => ?_⟩
  by_cases hji: j = i
  ·
   subst hji; exact ⟨oi,v,h1,hi,hy,H⟩
  ·
   have := ready_mono hj hji
   rw [H.1] at this
   have e: j = m := by simpa using this
   subst e
   have := hnotD listed hDl hr j hj
   rw [hm] at this
   cases this
 | succ fuel ih =>
  intro listed s h h1 hDl hfree hr hy H
  refine ⟨fun h => (by rw [h] at hr; cases hr),fun j hj => ?_⟩
  by_cases hji: j = i
  ·
   subst hji; exact ⟨oi,v,h1,hi,hy,H⟩
  ·
   obtain ⟨oj,u,h2,hoj,hyj,H1⟩ := H.2 j (ready_mono hj hji)
   obtain ⟨hjun,oj',hoj',hall⟩ := mem_ready.1 hj
   rw [hoj] at hoj'
   cases hoj'
   have hnot: D j = false := hnotD listed hDl hr j hj
   have hap := hfree j oj hoj hji hjun hnot
   simp only [Oper.apartE,Bool.and_eq_true,Bool.not_eq_true',Bool.and_eq_false_iff] at hap
   obtain ⟨a1,a2,a3⟩ := Oper.apart_spec hap.1
   have hyj': Yield P T ops h0 oj s h1 u h2 := (Yield.put a1).1 hyj
   have hyi': Yield P T ops h0 oi (put s oj.dst u) h v h1 := (Yield.put a3).2 hy
   have hfree': ∀ k ok,ops[k]? = some ok → k ≠ i → (listed.setIfInBounds j true).getD k true = false →
     D k = false → Oper.apartE ops oi ok = true := fun k ok hk hki hun hno => by
    refine hfree k ok hk hki ?_ hno
    by_cases hjk: j = k
    ·
     subst hjk; exact hjun
    ·
     rw [getD_set_ne true hjk] at hun; exact hun
   have hDl': ∀ k,D k = true → (listed.setIfInBounds j true).getD k true = false := fun k hk => by
    have hjk: j ≠ k := fun e => by subst e; rw [hnot] at hk; cases hk
    rw [getD_set_ne true hjk]
    exact hDl k hk
   rcases hap.2 with he | he
   ·
    obtain ⟨rfl,hyi2⟩ := hyi'.quiet (g := h2) he
    refine ⟨oj,u,h2,hoj,hyj',ih (listed.setIfInBounds j true) _ _ _ hDl' hfree' (ready_mono hr (Ne.symm hji)) hyi2 ?_⟩
    rw [Array.setIfInBounds_comm _ _ hji,← put_comm a2]
    exact H1
   ·
    obtain ⟨rfl,hyj2⟩ := hyj'.quiet (g := h) he
    refine ⟨oj,u,h,hoj,hyj2,ih (listed.setIfInBounds j true) _ _ _ hDl' hfree' (ready_mono hr (Ne.symm hji)) hyi' ?_⟩
    rw [Array.setIfInBounds_comm _ _ hji,← put_comm a2]
    exact H1
def lexFromZ (ops: Array Oper) (m: Nat): Nat → Nat → Array Bool → Bool
 | 0,_,listed => (Region.ready .any ops listed == [m]) && (Region.ready .any ops (listed.setIfInBounds m true)).isEmpty
 | fuel + 1,k,listed => (Region.ready .any ops listed).contains k && freeE ops listed k && (decide (m < ops.size) && (waitsFor ops k).getD m false) && lexFromZ ops m fuel (k + 1) (listed.setIfInBounds k true)
def lexZ (ops: Array Oper) (m: Nat): Bool := lexFromZ ops m m 0 (Array.replicate ops.size false)
theorem anyZ_lex {ops: Array Oper} {h0: List Blk} {m: Nat} {B: List AV → List Blk → Prop}: ∀ (l: List Oper) (k: Nat) (listed: Array Bool) (s: List AV) (h: List Blk),(∀ (j: Nat) o,l[j]? = some o → ops[k + j]? = some o) →
  lexFromZ ops m l.length k listed = true → LexY P T ops h0 B l s h → AnyZ P T ops h0 m B l.length listed s h
 | [],_,_,_,_,_,hB,hl => by
  simp only [List.length_nil,lexFromZ,Bool.and_eq_true,beq_iff_eq,List.isEmpty_iff] at hB
  exact ⟨hB.1,hB.2,hl⟩
 | o :: l,k,listed,s,h,hl,hB,hx => by
  have h0: ops[k]? = some o := by simpa using hl 0 o rfl
  simp only [List.length_cons,lexFromZ,Bool.and_eq_true] at hB
  obtain ⟨⟨⟨hr,hf⟩,hw⟩,hB'⟩ := hB
  obtain ⟨v,h',hy,hK⟩ := hx
  obtain ⟨D,hD1,hD2,hD3,hD4⟩ := freeE_spec h0 hf
  exact anyZ_first h0 D hD1 (hD4 m (of_decide_eq_true hw.1) hw.2) l.length listed s h h' hD2 hD3 (by simpa using hr) hy
   (anyZ_lex l (k + 1) _ _ _ (fun j o hj => by have := hl (j + 1) o (by simpa using hj); simpa [Nat.add_assoc,Nat.add_comm 1 j] using this) hB' hK)
theorem anyZ_sound (hT: TabOK P T) {ops: Array Oper} {h0: List Blk} {m: Nat} {om: Oper} (hom: ops[m]? = some om) {K: List AV → List Blk → Prop} {Q: Exit → Act → World → Prop} {ro: Option Nat}: ∀ (fuel: Nat) (listed: Array Bool) {S: Addr → Prop} {φ: Nat → Loc} {h: List Blk} {w: World} {s: List AV} {a: Act},
  MK n0 S φ h w a.defers → CAll S w φ s a.tmps → R S φ h w → MonoH h0 h → AnyZ P T ops h0 m (fun s h => vcGuard P T ops om s h K) fuel listed s h → (∀ a' w',Conc n0 K S φ h w a' w' → Q .normal a' w') → wpAnyIn (FW ro) 0 P .any ops Q (fuel + 1) listed a w
 | 0,listed,S,φ,h,w,s,a,hd,hs,hr,_,hv,hK => by
  obtain ⟨hv1,hv2,hv3⟩ := hv
  refine ⟨fun h0 => (by rw [hv1] at h0; cases h0),fun i hi => ?_⟩
  have e: i = m := by rw [hv1] at hi; simpa using hi
  subst e
  have hg := vcGuard_sound (Q := Q) (ro := ro) (Kc := fun a' w' => wpAnyIn (FW ro) 0 P .any ops Q 0 (listed.setIfInBounds i true) a' w') hT om hd hs hr hv3 (by
    rintro a' w' k
    exact ⟨hv2,hK _ _ k⟩)
  unfold wpOpIn
  simp only [hom]
  split
  ·
   rename_i hw
   rw [if_pos hw] at hg
   exact hg
  ·
   rename_i hw
   rw [if_neg hw] at hg
   exact hg
 | fuel + 1,listed,S,φ,h,w,s,a,hd,hs,hr,hm,hv,hK => by
  refine ⟨fun h0 => absurd h0 hv.1,fun i hi => ?_⟩
  obtain ⟨o,v,h',ho,hy,hA⟩ := hv.2 i hi
  have hm' := hy.mono hm
  have hg := vcGuard_sound (Q := Q) (ro := ro) (Kc := fun a' w' => wpAnyIn (FW ro) 0 P .any ops Q (fuel + 1) (listed.setIfInBounds i true) a' w') hT o hd hs hr
   (Yield.vc (K := fun s' h'' => MonoH h0 h'' ∧ AnyZ P T ops h0 m (fun s h => vcGuard P T ops om s h K) fuel (listed.setIfInBounds i true) s' h'') hm hy ⟨hm',hA⟩) (by
    rintro a' w' ⟨s1,h1,S1,φ1,⟨hm1,hA1⟩,hd1,hs1,hr1,he1⟩
    refine anyZ_sound hT hom fuel _ hd1 hs1 hr1 hm1 hA1 fun a'' w'' k => hK _ _ ?_
    obtain ⟨s2,h2,S2,φ2,k1,k2,k3,k4,k5⟩ := k
    exact ⟨s2,h2,S2,φ2,k1,k2,k3,k4,he1.trans k5⟩)
  unfold wpOpIn
  simp only [ho]
  split
  ·
   rename_i hw
   rw [if_pos hw] at hg
   exact hg
  ·
   rename_i hw
   rw [if_neg hw] at hg
   exact hg
theorem lexZ_sound (hT: TabOK P T) (hmo: P.follows .mixedOrders = true) {id: Nat} {l: List Oper} {o: Oper} {K: List AV → List Blk → Prop} {Q: Exit → Act → World → Prop} {ro: Option Nat} (hB: lexZ (l ++ [o]).toArray l.length = true) (hd: MK n0 S φ h w a.defers) (hs: CAll S w φ s a.tmps) (hr: R S φ h w)
  (hv: LexY P T (l ++ [o]).toArray h (fun s h => vcGuard P T (l ++ [o]).toArray o s h K) l s h) (hK: ∀ a' w',Conc n0 K S φ h w a' w' → Q .normal a' w'): (Code.region id (l ++ [o]).toArray true).wpIn (FW ro) 0 P Q a w := by
 have hsz: (l ++ [o]).toArray.size = l.length + 1 := by simp
 refine wpIn_region_any hmo ?_
 rw [hsz]
 refine anyZ_sound (K := K) (h0 := h) (m := l.length) (om := o) hT (by simp) l.length _ (hd.ext (Ext.drew S φ h w)) ((Ext.drew S φ h w).CAll hs) hr.drew (MonoH.refl h) ?_ ?_
 ·
  have hB': lexFromZ (l ++ [o]).toArray l.length l.length 0 (Array.replicate (l.length + 1) false) = true := by rw [← hsz]; exact hB
  exact anyZ_lex (P := P) (T := T) (h0 := h) l 0 _ s h (fun j x hj => by
   rw [Nat.zero_add,List.getElem?_toArray,List.getElem?_append_left (by obtain ⟨q,_⟩ := List.getElem?_eq_some_iff.1 hj; exact q)]
   exact hj) hB' hv
 ·
  rintro a' w' ⟨s2,h2,S2,φ2,k1,k2,k3,k4,k5⟩
  exact hK _ _ ⟨s2,h2,S2,φ2,k1,k2,k3,k4,(Ext.drew S φ h w).trans k5⟩
inductive Tr where
 | nil
 | one (k: Nat) (t: Tr)
 | two (k: Nat) (t: Tr) (l: Nat) (u: Tr)
def Tr.len: Tr → Nat
 | .nil => 0
 | .one _ t => t.len + 1
 | .two _ t _ _ => t.len + 1
def lexT (ops: Array Oper): Tr → Array Bool → Bool
 | .nil,listed => (Region.ready .any ops listed).isEmpty
 | .one k t,listed => (Region.ready .any ops listed).contains k && freeE ops listed k && lexT ops t (listed.setIfInBounds k true)
 | .two k t l u,listed => (Region.ready .any ops listed == [k,l]) && decide (t.len = u.len) && lexT ops t (listed.setIfInBounds k true) && lexT ops u (listed.setIfInBounds l true)
def WalkT (P: Program) (T: TypeId → TI) (ops: Array Oper) (h0: List Blk) (K: List AV → List Blk → Prop): Tr → List AV → List Blk → Prop
 | .nil,s,h => K s h
 | .one k t,s,h => ∃ o v h',ops[k]? = some o ∧ Yield P T ops h0 o s h v h' ∧ WalkT P T ops h0 K t (put s o.dst v) h'
 | .two k t l u,s,h => (∃ o v h',ops[k]? = some o ∧ Yield P T ops h0 o s h v h' ∧ WalkT P T ops h0 K t (put s o.dst v) h') ∧ ∃ o v h',ops[l]? = some o ∧ Yield P T ops h0 o s h v h' ∧ WalkT P T ops h0 K u (put s o.dst v) h'
theorem anyY_tree {ops: Array Oper} {h0: List Blk} {K: List AV → List Blk → Prop}: ∀ (t: Tr) (listed: Array Bool) (s: List AV) (h: List Blk),lexT ops t listed = true → WalkT P T ops h0 K t s h → AnyY P T ops h0 K t.len listed s h
 | .nil,_,_,_,hB,hw => ⟨by simpa [lexT] using hB,hw⟩
 | .one k t,listed,s,h,hB,hw => by
  simp only [lexT,Bool.and_eq_true] at hB
  obtain ⟨⟨hr,hf⟩,hB'⟩ := hB
  obtain ⟨o,v,h',ho,hy,hK⟩ := hw
  obtain ⟨D,hD1,hD2,hD3,_⟩ := freeE_spec ho hf
  exact anyY_first ho D hD1 t.len listed s h h' hD2 hD3 (by simpa using hr) hy (anyY_tree t _ _ _ hB' hK)
 | .two k t l u,listed,s,h,hB,hw => by
  simp only [lexT,Bool.and_eq_true,beq_iff_eq,decide_eq_true_eq] at hB
  obtain ⟨⟨⟨hr,hlen⟩,hB1⟩,hB2⟩ := hB
  obtain ⟨⟨o,v,h',ho,hy,hK⟩,⟨o2,v2,h2,ho2,hy2,hK2⟩⟩ := hw
  refine ⟨fun e => (by rw [hr] at e; cases e),fun i hi => ?_⟩
  rw [hr] at hi
  have: i = k ∨ i = l := by simpa using hi
  rcases this with rfl | rfl
  ·
   exact ⟨o,v,h',ho,hy,anyY_tree t _ _ _ hB1 hK⟩
  ·
   exact ⟨o2,v2,h2,ho2,hy2,by rw [hlen]; exact anyY_tree u _ _ _ hB2 hK2⟩
theorem lexT_sound (hT: TabOK P T) (hmo: P.follows .mixedOrders = true) {id: Nat} {ops: Array Oper} {t: Tr} {K: List AV → List Blk → Prop} {Q: Exit → Act → World → Prop} {ro: Option Nat} (hB: lexT ops t (Array.replicate ops.size false) = true) (hlen: t.len = ops.size) {h0: List Blk} (hm: MonoH h0 h) (hd: MK n0 S φ h w a.defers) (hs: CAll S w φ s a.tmps) (hr: R S φ h w)
  (hv: WalkT P T ops h0 K t s h) (hK: ∀ a' w',Conc n0 K S φ h w a' w' → Q .normal a' w'): (Code.region id ops true).wpIn (FW ro) 0 P Q a w := by
 refine wpIn_region_any hmo (anyY_sound (K := K) (h0 := h0) hT ops.size _ (hd.ext (Ext.drew S φ h w)) ((Ext.drew S φ h w).CAll hs) hr.drew hm ?_ ?_)
 ·
  rw [← hlen] at hB ⊢
  exact anyY_tree t _ _ _ hB hv
 ·
  rintro a' w' ⟨s2,h2,S2,φ2,k1,k2,k3,k4,k5⟩
  exact hK _ _ ⟨s2,h2,S2,φ2,k1,k2,k3,k4,(Ext.drew S φ h w).trans k5⟩
def lexV (ops: Array Oper): Tr → Array Bool → Bool
 | .nil,listed => (Region.ready .any ops listed).isEmpty
 | .one k t,listed => (Region.ready .any ops listed == [k]) && lexV ops t (listed.setIfInBounds k true)
 | .two k t l u,listed => (Region.ready .any ops listed == [k,l]) && decide (t.len = u.len) && lexV ops t (listed.setIfInBounds k true) && lexV ops u (listed.setIfInBounds l true)
def vgAt (P: Program) (T: TypeId → TI) (ops: Array Oper) (o: Option Oper) (s: List AV) (h: List Blk) (K: List AV → List Blk → Prop): Prop :=
 match o with
 | some o => vcGuard P T ops o s h K
 | none => False
def vTree (P: Program) (T: TypeId → TI) (ops: Array Oper) (K: List AV → List Blk → Prop): Tr → List AV → List Blk → Prop
 | .nil,s,h => K s h
 | .one k t,s,h => vgAt P T ops ops[k]? s h fun s' h' => vTree P T ops K t s' h'
 | .two k t l u,s,h => (vgAt P T ops ops[k]? s h fun s' h' => vTree P T ops K t s' h') ∧ vgAt P T ops ops[l]? s h fun s' h' => vTree P T ops K u s' h'
theorem vgAt_sound (hT: TabOK P T) {ops: Array Oper} {k: Nat} {K: List AV → List Blk → Prop} {Kc: Act → World → Prop} {Q: Exit → Act → World → Prop} {ro: Option Nat} (hd: MK n0 S φ h w a.defers) (hs: CAll S w φ s a.tmps) (hr: R S φ h w)
  (hv: vgAt P T ops ops[k]? s h K) (hK: ∀ a' w',Conc n0 K S φ h w a' w' → Kc a' w'): wpOpIn (FW ro) 0 P ops Q k Kc a w := by
 cases ho: ops[k]? with
 | none => rw [ho] at hv; exact hv.elim
 | some o =>
  rw [ho] at hv
  have hg := vcGuard_sound (Q := Q) (ro := ro) (Kc := Kc) hT o hd hs hr hv hK
  unfold wpOpIn
  simp only [ho]
  split
  ·
   rename_i hw
   rw [if_pos hw] at hg
   exact hg
  ·
   rename_i hw
   rw [if_neg hw] at hg
   exact hg
theorem anyV_sound (hT: TabOK P T) {ops: Array Oper} {K: List AV → List Blk → Prop} {Q: Exit → Act → World → Prop} {ro: Option Nat}: ∀ (t: Tr) (listed: Array Bool) {S: Addr → Prop} {φ: Nat → Loc} {h: List Blk} {w: World} {s: List AV} {a: Act},
  MK n0 S φ h w a.defers → CAll S w φ s a.tmps → R S φ h w → lexV ops t listed = true → vTree P T ops K t s h → (∀ a' w',Conc n0 K S φ h w a' w' → Q .normal a' w') → wpAnyIn (FW ro) 0 P .any ops Q t.len listed a w
 | .nil,_,_,_,_,_,_,_,hd,hs,hr,hB,hv,hK => ⟨by simpa [lexV] using hB,hK _ _ ⟨_,_,_,_,hv,hd,hs,hr,Ext.refl _ _ _ _⟩⟩
 | .one k t,listed,S,φ,h,w,s,a,hd,hs,hr,hB,hv,hK => by
  simp only [lexV,Bool.and_eq_true,beq_iff_eq] at hB
  refine ⟨fun e => (by rw [hB.1] at e; cases e),fun i hi => ?_⟩
  rw [hB.1] at hi
  have e: i = k := by simpa using hi
  subst e
  refine vgAt_sound hT hd hs hr hv ?_
  rintro a' w' ⟨s1,h1,S1,φ1,hA1,hd1,hs1,hr1,he1⟩
  refine anyV_sound hT t _ hd1 hs1 hr1 hB.2 hA1 fun a'' w'' kk => hK _ _ ?_
  obtain ⟨s2,h2,S2,φ2,k1,k2,k3,k4,k5⟩ := kk
  exact ⟨s2,h2,S2,φ2,k1,k2,k3,k4,he1.trans k5⟩
 | .two k t l u,listed,S,φ,h,w,s,a,hd,hs,hr,hB,hv,hK => by
  simp only [lexV,Bool.and_eq_true,beq_iff_eq,decide_eq_true_eq] at hB
  obtain ⟨⟨⟨hrd,hlen⟩,hB1⟩,hB2⟩ := hB
  refine ⟨fun e => (by rw [hrd] at e; cases e),fun i hi => ?_⟩
  rw [hrd] at hi
  have: i = k ∨ i = l := by simpa using hi
  rcases this with rfl | rfl
  ·
   refine vgAt_sound hT hd hs hr hv.1 ?_
   rintro a' w' ⟨s1,h1,S1,φ1,hA1,hd1,hs1,hr1,he1⟩
   refine anyV_sound hT t _ hd1 hs1 hr1 hB1 hA1 fun a'' w'' kk => hK _ _ ?_
   obtain ⟨s2,h2,S2,φ2,k1,k2,k3,k4,k5⟩ := kk
   exact ⟨s2,h2,S2,φ2,k1,k2,k3,k4,he1.trans k5⟩
  ·
   refine vgAt_sound hT hd hs hr hv.2 ?_
   rintro a' w' ⟨s1,h1,S1,φ1,hA1,hd1,hs1,hr1,he1⟩
   show wpAnyIn (FW ro) 0 P .any ops Q t.len _ a' w'
   rw [hlen]
   refine anyV_sound hT u _ hd1 hs1 hr1 hB2 hA1 fun a'' w'' kk => hK _ _ ?_
   obtain ⟨s2,h2,S2,φ2,k1,k2,k3,k4,k5⟩ := kk
   exact ⟨s2,h2,S2,φ2,k1,k2,k3,k4,he1.trans k5⟩
theorem lexV_sound (hT: TabOK P T) (hmo: P.follows .mixedOrders = true) {id: Nat} {ops: Array Oper} {t: Tr} {K: List AV → List Blk → Prop} {Q: Exit → Act → World → Prop} {ro: Option Nat} (hB: lexV ops t (Array.replicate ops.size false) = true) (hlen: t.len = ops.size) (hd: MK n0 S φ h w a.defers) (hs: CAll S w φ s a.tmps) (hr: R S φ h w)
  (hv: vTree P T ops K t s h) (hK: ∀ a' w',Conc n0 K S φ h w a' w' → Q .normal a' w'): (Code.region id ops true).wpIn (FW ro) 0 P Q a w := by
 refine wpIn_region_any hmo ?_
 have := anyV_sound (K := K) (Q := Q) (ro := ro) hT t _ (hd.ext (Ext.drew S φ h w)) ((Ext.drew S φ h w).CAll hs) hr.drew hB hv (fun a' w' kk => by
  obtain ⟨s2,h2,S2,φ2,k1,k2,k3,k4,k5⟩ := kk
  exact hK _ _ ⟨s2,h2,S2,φ2,k1,k2,k3,k4,(Ext.drew S φ h w).trans k5⟩)
 rw [hlen] at this
 exact this
def vqStep (P: Program) (T: TypeId → TI) (h0: List Blk) (o: Oper) (s: List AV) (h: List Blk) (K: List AV → List Blk → Prop): Prop :=
 match o.op with
 | .call { callee := .value f,args,.. } => match opd s f with
  | .fn (.func g) first captured => ∃ v,RCall P h0 g (first ++ args.toList.map (opd s) ++ captured) v ∧ K (put s o.dst v) h
  | _ => False
 | op => match Op.eff op with
  | true => match stepHeap T s h op with
   | .ok u g => MonoH h0 g ∧ K (put s o.dst u) g
   | .side p u g => p ∧ MonoH h0 g ∧ K (put s o.dst u) g
   | .bad => False
  | false => match stepPure T s h0 op with
   | .ok u => K (put s o.dst u) h
   | .side p u => p ∧ K (put s o.dst u) h
   | .fact _ u => K (put s o.dst u) h
   | .elem i es f => ∃ x,(0 ≤ i ∧ es[i.toNat]? = some x) ∧ K (put s o.dst (f x)) h
   | .bad => False
theorem vqStep.out {h0: List Blk} {o: Oper} {K: List AV → List Blk → Prop} (hv: vqStep P T h0 o s h K): ∃ v h',QStep P T h0 o s h v h' ∧ K (put s o.dst v) h' := by
 obtain ⟨dst,op,ty,pos,af,gd⟩ := o
 have fromPure: (match stepPure T s h0 op with
   | .ok u => K (put s dst u) h
   | .side p u => p ∧ K (put s dst u) h
   | .fact _ u => K (put s dst u) h
   | .elem i es f => ∃ x,(0 ≤ i ∧ es[i.toNat]? = some x) ∧ K (put s dst (f x)) h
   | .bad => False) → ∃ v,(match stepPure T s h0 op with
   | .ok u => v = u
   | .side p u => p ∧ v = u
   | .fact _ u => v = u
   | .elem i es f => ∃ x,(0 ≤ i ∧ es[i.toNat]? = some x) ∧ v = f x
   | .bad => False) ∧ K (put s dst v) h := by
  clear hv
  generalize stepPure T s h0 op = r
  intro hv
  cases r with
  | ok u => exact ⟨u,rfl,hv⟩
  | side p u => exact ⟨u,⟨hv.1,rfl⟩,hv.2⟩
  | fact p u => exact ⟨u,rfl,hv⟩
  | elem i es f => obtain ⟨x,hx,hk⟩ := hv; exact ⟨f x,⟨x,hx,rfl⟩,hk⟩
  | bad => exact hv.elim
 have fromHeap: (match stepHeap T s h op with
   | .ok u g => MonoH h0 g ∧ K (put s dst u) g
   | .side p u g => p ∧ MonoH h0 g ∧ K (put s dst u) g
   | .bad => False) → ∃ v h',(MonoH h0 h' ∧ match stepHeap T s h op with
   | .ok u g => v = u ∧ h' = g
   | .side p u g => p ∧ v = u ∧ h' = g
   | .bad => False) ∧ K (put s dst v) h' := by
  clear hv
  generalize stepHeap T s h op = r
  intro hv
  cases r with
  | ok u g => exact ⟨u,g,⟨hv.1,rfl,rfl⟩,hv.2⟩
  | side p u g => exact ⟨u,g,⟨hv.2.1,hv.1,rfl,rfl⟩,hv.2.2⟩
  | bad => exact hv.elim
 have pureOut: (∃ v,(match stepPure T s h0 op with
   | .ok u => v = u
   | .side p u => p ∧ v = u
   | .fact _ u => v = u
   | .elem i es f => ∃ x,(0 ≤ i ∧ es[i.toNat]? = some x) ∧ v = f x
   | .bad => False) ∧ K (put s dst v) h) → (∀ v,(match stepPure T s h0 op with
   | .ok u => v = u
   | .side p u => p ∧ v = u
   | .fact _ u => v = u
   | .elem i es f => ∃ x,(0 ≤ i ∧ es[i.toNat]? = some x) ∧ v = f x
   | .bad => False) → QStep P T h0 ⟨dst,op,ty,pos,af,gd⟩ s h v h) → ∃ v h',QStep P T h0 ⟨dst,op,ty,pos,af,gd⟩ s h v h' ∧ K (put s dst v) h' := by
  rintro ⟨v,h1,h2⟩ h3
  exact ⟨v,h,h3 v h1,h2⟩
 cases op with
 | call c =>
  obtain ⟨callee,args,tys⟩ := c
  cases callee with
  | value f =>
   simp only [vqStep] at hv
   split at hv
   ·
    rename_i g first captured hfe
    obtain ⟨v,hp,hk⟩ := hv
    refine ⟨v,h,?_,hk⟩
    simp only [QStep,Op.eff]
    rw [hfe]
    exact ⟨trivial,hp⟩
   ·
    exact hv.elim
  | builtin b =>
   cases b <;> first
    | exact fromHeap hv
    | exact pureOut (fromPure hv) (fun v h => ⟨rfl,h⟩)
  | invoke r m => exact pureOut (fromPure hv) (fun v h => ⟨rfl,h⟩)
 | slice t x lo hi mx =>
  cases mx with
  | none => exact pureOut (fromPure hv) (fun v h => ⟨rfl,h⟩)
  | some m => exact fromHeap hv
 | box t x => exact fromHeap hv
 | alloc t => exact fromHeap hv
 | store t x y => exact fromHeap hv
 | buildSlice t n ps => exact fromHeap hv
 | makeSlice t x y => exact fromHeap hv
 | mapUpdate t m k v => exact fromHeap hv
 | _ => exact pureOut (fromPure hv) (fun v h => ⟨rfl,h⟩)
def vqGuard (P: Program) (T: TypeId → TI) (ops: Array Oper) (h0: List Blk) (o: Oper) (s: List AV) (h: List Blk) (K: List AV → List Blk → Prop): Prop :=
 match o.guard with
 | none => vqStep P T h0 o s h K
 | some (j,want) => match guardSlot ops j with
  | none => False
  | some d => match s.getD d (.tup []) with
   | .raw (.bool b) => match b with
    | true => match want with
     | true => vqStep P T h0 o (s.set d (.raw (.bool true))) h K
     | false => K (put (s.set d (.raw (.bool true))) o.dst (.tup [])) h
    | false => match want with
     | true => K (put (s.set d (.raw (.bool false))) o.dst (.tup [])) h
     | false => vqStep P T h0 o (s.set d (.raw (.bool false))) h K
   | .tup _ => K (put s o.dst (.tup [])) h
   | _ => False
theorem vqGuard.out {ops: Array Oper} {h0: List Blk} {o: Oper} {K: List AV → List Blk → Prop} (hv: vqGuard P T ops h0 o s h K): ∃ v h',Yield P T ops h0 o s h v h' ∧ K (put s o.dst v) h' := by
 unfold vqGuard at hv
 unfold Yield
 split at hv
 ·
  exact hv.out
 ·
  unfold guardVal
  split at hv
  ·
   exact hv.elim
  ·
   generalize hx: List.getD s _ (AV.tup []) = x at hv
   split at hv
   ·
    have hs := set_id hx
    split at hv <;> split at hv <;> rw [hs] at hv <;> first | exact hv.out | exact ⟨_,_,⟨rfl,rfl⟩,hv⟩
   ·
    exact ⟨_,_,⟨rfl,rfl⟩,hv⟩
   ·
    exact hv.elim
def vqOps (P: Program) (T: TypeId → TI) (ops: Array Oper) (h0: List Blk): List Oper → List AV → List Blk → (List AV → List Blk → Prop) → Prop
 | [],s,h,K => K s h
 | o :: rest,s,h,K => vqGuard P T ops h0 o s h fun s' h' => vqOps P T ops h0 rest s' h' K
theorem vqOps.out {ops: Array Oper} {h0: List Blk} {K: List AV → List Blk → Prop}: ∀ {l: List Oper} {s: List AV} {h: List Blk},vqOps P T ops h0 l s h K → LexY P T ops h0 K l s h
 | [],_,_,hv => hv
 | o :: l,s,h,hv => by
  obtain ⟨v,h',hy,hk⟩ := vqGuard.out hv
  exact ⟨v,h',hy,vqOps.out hk⟩
theorem ACall.mono {f: FuncId} {args: List AV} {K K': AV → List Blk → Prop} (hk: ∀ r h,K r h → K' r h) (hc: ACall P f args h K): ACall P f args h K' := by
 intro S φ w vs hr hargs
 obtain ⟨h1,h2⟩ := hc S φ w vs hr hargs
 refine ⟨h1,Calls.mono h2 ?_⟩
 rintro e w' ⟨v,r,h',S',φ',e1,e2,e3⟩
 exact ⟨v,r,h',S',φ',e1,hk _ _ e2,e3⟩
theorem vcStep_monoP {K K': List AV → List Blk → Prop} (hk: ∀ s h,K s h → K' s h) (o: Oper) (hv: vcStep P T o s h K): vcStep P T o s h K' := by
 unfold vcStep at *
 split at hv
 ·
  split at hv
  ·
   exact hv.mono fun r h' hK => hk _ _ hK
  ·
   exact hv.mono fun r h' hK => hk _ _ hK
  ·
   exact hv.elim
 ·
  split at hv
  ·
   exact hk _ _ hv
  ·
   exact ⟨hv.1,hk _ _ hv.2⟩
  ·
   exact fun hp => hk _ _ (hv hp)
  ·
   obtain ⟨x,h1,h2⟩ := hv
   exact ⟨x,h1,hk _ _ h2⟩
  ·
   split at hv
   ·
    exact hk _ _ hv
   ·
    exact ⟨hv.1,hk _ _ hv.2⟩
   ·
    exact hv.elim
theorem vcGuard_monoP {ops: Array Oper} {K K': List AV → List Blk → Prop} (hk: ∀ s h,K s h → K' s h) (o: Oper) (hv: vcGuard P T ops o s h K): vcGuard P T ops o s h K' := by
 unfold vcGuard at *
 split at hv
 ·
  exact vcStep_monoP hk o hv
 ·
  split at hv
  ·
   exact hv.elim
  ·
   split at hv
   ·
    split at hv
    ·
     split at hv
     ·
      exact vcStep_monoP hk o hv
     ·
      exact hk _ _ hv
    ·
     split at hv
     ·
      exact hk _ _ hv
     ·
      exact vcStep_monoP hk o hv
   ·
    exact hk _ _ hv
   ·
    exact hv.elim
def vqAt (P: Program) (T: TypeId → TI) (ops: Array Oper) (h0: List Blk) (o: Option Oper) (s: List AV) (h: List Blk) (K: List AV → List Blk → Prop): Prop :=
 match o with
 | some o => vqGuard P T ops h0 o s h K
 | none => False
def vqTree (P: Program) (T: TypeId → TI) (ops: Array Oper) (h0: List Blk) (K: List AV → List Blk → Prop): Tr → List AV → List Blk → Prop
 | .nil,s,h => K s h
 | .one k t,s,h => vqAt P T ops h0 ops[k]? s h fun s' h' => vqTree P T ops h0 K t s' h'
 | .two k t l u,s,h => (vqAt P T ops h0 ops[k]? s h fun s' h' => vqTree P T ops h0 K t s' h') ∧ vqAt P T ops h0 ops[l]? s h fun s' h' => vqTree P T ops h0 K u s' h'
theorem vqAt.out {ops: Array Oper} {h0: List Blk} {k: Nat} {K: List AV → List Blk → Prop} (hv: vqAt P T ops h0 ops[k]? s h K): ∃ o v h',ops[k]? = some o ∧ Yield P T ops h0 o s h v h' ∧ K (put s o.dst v) h' := by
 cases ho: ops[k]? with
 | none => rw [ho] at hv; exact hv.elim
 | some o =>
  rw [ho] at hv
  obtain ⟨v,h',hy,hk⟩ := vqGuard.out hv
  exact ⟨o,v,h',rfl,hy,hk⟩
theorem vqTree.out {ops: Array Oper} {h0: List Blk} {K: List AV → List Blk → Prop}: ∀ {t: Tr} {s: List AV} {h: List Blk},vqTree P T ops h0 K t s h → WalkT P T ops h0 K t s h
 | .nil,_,_,hv => hv
 | .one k t,s,h,hv => by
  obtain ⟨o,v,h',ho,hy,hk⟩ := vqAt.out hv
  exact ⟨o,v,h',ho,hy,vqTree.out hk⟩
 | .two k t l u,s,h,hv => by
  obtain ⟨o,v,h',ho,hy,hk⟩ := vqAt.out hv.1
  obtain ⟨o2,v2,h2,ho2,hy2,hk2⟩ := vqAt.out hv.2
  exact ⟨⟨o,v,h',ho,hy,vqTree.out hk⟩,⟨o2,v2,h2,ho2,hy2,vqTree.out hk2⟩⟩
inductive TrM where
 | nil
 | pur (k: Nat) (t: TrM)
 | eff (k: Nat) (t: TrM)
 | two (k: Nat) (t: TrM) (l: Nat) (u: TrM)
def TrM.len: TrM → Nat
 | .nil => 0
 | .pur _ t => t.len + 1
 | .eff _ t => t.len + 1
 | .two _ t _ _ => t.len + 1
def still (o: Option Oper): Bool := match o with
 | some o => !(Op.eff o.op)
 | none => false
def lexM (ops: Array Oper): TrM → Array Bool → Bool
 | .nil,listed => (Region.ready .any ops listed).isEmpty
 | .pur k t,listed => (Region.ready .any ops listed).contains k && freeE ops listed k && still ops[k]? && lexM ops t (listed.setIfInBounds k true)
 | .eff k t,listed => (Region.ready .any ops listed == [k]) && lexM ops t (listed.setIfInBounds k true)
 | .two k t l u,listed => (Region.ready .any ops listed == [k,l]) && decide (t.len = u.len) && lexM ops t (listed.setIfInBounds k true) && lexM ops u (listed.setIfInBounds l true)
def AnyM (P: Program) (T: TypeId → TI) (ops: Array Oper) (h0: List Blk) (K: List AV → List Blk → Prop): Nat → Array Bool → List AV → List Blk → Prop
 | 0,listed,s,h => Region.ready .any ops listed = [] ∧ K s h
 | fuel + 1,listed,s,h => (Region.ready .any ops listed = [] → K s h) ∧
  ∀ i ∈ Region.ready .any ops listed,vgAt P T ops ops[i]? s h fun s' h' => MonoH h0 h' ∧ AnyM P T ops h0 K fuel (listed.setIfInBounds i true) s' h'
theorem vcStep_put {ops: Array Oper} {o: Oper} {s: List AV} {u: AV} {dst: Option Tmp} {K: List AV → List Blk → Prop} (hd: ∀ d,dst = some d → d ∉ o.looksAt ops) (hc: ∀ d,dst = some d → o.dst ≠ some d) (hv: vcStep P T o (put s dst u) h K) :
  vcStep P T o s h fun s' h' => ∃ r,s' = put s o.dst r ∧ K (put s' dst u) h' := by
 have ho: ∀ x ∈ o.op.operands.toList,opd (Abs.put s dst u) x = opd s x := fun x hx => opd_put fun d e => looks_operand (hd d e) x hx
 have hp: ∀ r h',K (put (put s dst u) o.dst r) h' → ∃ r',put s o.dst r = put s o.dst r' ∧ K (put (put s o.dst r) dst u) h' := fun r h' hk => ⟨r,rfl,by rw [← put_comm hc]; exact hk⟩
 unfold vcStep at *
 split at hv
 ·
  rename_i f args ts hop
  have hf: opd (Abs.put s dst u) f = opd s f := ho f (by rw [hop]; simp [Op.operands,Call.operands])
  have hargs: args.toList.map (opd (Abs.put s dst u)) = args.toList.map (opd s) := map_opd fun x hx => ho x (by rw [hop]; simp only [Op.operands,Call.operands,Array.toList_append,List.mem_append]; exact .inr hx)
  rw [hf,hargs] at hv
  split at hv
  ·
   exact hv.mono fun r h' hk => hp r h' hk
  ·
   exact hv.mono fun r h' hk => hp r h' hk
  ·
   exact hv.elim
 ·
  rw [stepPure_congr o.op ho,stepHeap_congr o.op ho] at hv
  split at hv
  ·
   exact hp _ _ hv
  ·
   exact ⟨hv.1,hp _ _ hv.2⟩
  ·
   exact fun q => hp _ _ (hv q)
  ·
   obtain ⟨x,h1,h2⟩ := hv
   exact ⟨x,h1,hp _ _ h2⟩
  ·
   split at hv
   ·
    exact hp _ _ hv
   ·
    exact ⟨hv.1,hp _ _ hv.2⟩
   ·
    exact hv.elim
theorem vcGuard_put {ops: Array Oper} {o: Oper} {s: List AV} {u: AV} {dst: Option Tmp} {K: List AV → List Blk → Prop} (hd: ∀ d,dst = some d → d ∉ o.looksAt ops) (hc: ∀ d,dst = some d → o.dst ≠ some d) (hv: vcGuard P T ops o (put s dst u) h K) :
  vcGuard P T ops o s h fun s' h' => ∃ r,s' = put s o.dst r ∧ K (put s' dst u) h' := by
 have hp: ∀ r h',K (put (put s dst u) o.dst r) h' → ∃ r',put s o.dst r = put s o.dst r' ∧ K (put (put s o.dst r) dst u) h' := fun r h' hk => ⟨r,rfl,by rw [← put_comm hc]; exact hk⟩
 unfold vcGuard at *
 cases hg: o.guard with
 | none => rw [hg] at hv; exact vcStep_put hd hc hv
 | some jw =>
  obtain ⟨j,want⟩ := jw
  have hgv := guardVal_put (v := u) (s := s) hg hd
  rw [hg] at hv
  dsimp only at hv ⊢
  unfold guardVal at hgv
  cases hgs: guardSlot ops j with
  | none => rw [hgs] at hv; exact hv.elim
  | some d =>
   rw [hgs] at hv hgv
   dsimp only at hv hgv ⊢
   rw [hgv] at hv
   split at hv
   ·
    rename_i b e
    have hgv2 := hgv.trans e
    have hs := set_id e
    have hs2 := set_id hgv2
    try rw [e]
    cases b <;> cases want <;> dsimp only at hv hs hs2 ⊢ <;> rw [hs] <;> rw [hs2] at hv
    ·
     exact vcStep_put hd hc hv
    ·
     exact hp _ _ hv
    ·
     exact hp _ _ hv
    ·
     exact vcStep_put hd hc hv
   ·
    rename_i cs e
    try rw [e]
    exact hp _ _ hv
   ·
    exact hv.elim
theorem anyM_first {ops: Array Oper} {h0: List Blk} {K: List AV → List Blk → Prop} {i: Nat} {oi: Oper} {v: AV} (hi: ops[i]? = some oi) (hst: Op.eff oi.op = false) (D: Nat → Bool)
  (hD: ∀ j oj,ops[j]? = some oj → D j = true → ∃ e ∈ oj.after,Region.binds .any e = true ∧ (e.on = i ∨ D e.on = true)) :
  ∀ (fuel: Nat) (listed: Array Bool) (s: List AV) (h: List Blk),MonoH h0 h → (∀ j,D j = true → listed.getD j true = false) → (∀ j oj,ops[j]? = some oj → j ≠ i → listed.getD j true = false → D j = false → Oper.apartE ops oi oj = true) →
   i ∈ Region.ready .any ops listed → Yield P T ops h0 oi s h v h → AnyM P T ops h0 K fuel (listed.setIfInBounds i true) (put s oi.dst v) h → AnyM P T ops h0 K (fuel + 1) listed s h := by
 intro fuel
 induction fuel with
 | zero =>
  intro listed s h hm _ _ hr hy H
  refine ⟨fun h => (by rw [h] at hr; cases hr),fun j hj => ?_⟩
  by_cases hji: j = i
  ·
   subst hji
   rw [hi]
   exact Yield.vc (K := fun s' h' => MonoH h0 h' ∧ AnyM P T ops h0 K 0 (listed.setIfInBounds j true) s' h') hm hy ⟨hm,H⟩
  ·
   have := ready_mono hj hji
   rw [H.1] at this
   cases this
 | succ fuel ih =>
  intro listed s h hm hDl hfree hr hy H
  refine ⟨fun h => (by rw [h] at hr; cases hr),fun j hj => ?_⟩
  by_cases hji: j = i
  ·
   subst hji
   rw [hi]
   exact Yield.vc (K := fun s' h' => MonoH h0 h' ∧ AnyM P T ops h0 K (fuel + 1) (listed.setIfInBounds j true) s' h') hm hy ⟨hm,H⟩
  ·
   have hvj := H.2 j (ready_mono hj hji)
   obtain ⟨hjun,oj,hoj,hall⟩ := mem_ready.1 hj
   have hnot: D j = false := by
    cases hDj: D j with
    | false => rfl
    | true =>
     exfalso
     obtain ⟨e,he,hb,hor⟩ := hD j oj hoj hDj
     have h1 := hall e he hb
     rcases hor with heq | hDe
     ·
      have h0 := (mem_ready.1 hr).1
      rw [heq] at h1
      rcases Nat.lt_or_ge i listed.size with h' | h'
      ·
       simp [h'] at h0 h1; rw [h0] at h1; cases h1
      ·
       simp [Array.getElem?_eq_none h'] at h1
     ·
      have h0 := hDl e.on hDe
      rcases Nat.lt_or_ge e.on listed.size with h' | h'
      ·
       simp [h'] at h0 h1; rw [h0] at h1; cases h1
      ·
       simp [Array.getElem?_eq_none h'] at h1
   have hap := hfree j oj hoj hji hjun hnot
   simp only [Oper.apartE,Bool.and_eq_true,Bool.not_eq_true',Bool.and_eq_false_iff] at hap
   obtain ⟨a1,a2,a3⟩ := Oper.apart_spec hap.1
   rw [hoj] at hvj ⊢
   have hfree': ∀ k ok,ops[k]? = some ok → k ≠ i → (listed.setIfInBounds j true).getD k true = false →
     D k = false → Oper.apartE ops oi ok = true := fun k ok hk hki hun hno => by
    refine hfree k ok hk hki ?_ hno
    by_cases hjk: j = k
    ·
     subst hjk; exact hjun
    ·
     rw [getD_set_ne true hjk] at hun; exact hun
   have hDl': ∀ k,D k = true → (listed.setIfInBounds j true).getD k true = false := fun k hk => by
    have hjk: j ≠ k := fun e => by subst e; rw [hnot] at hk; cases hk
    rw [getD_set_ne true hjk]
    exact hDl k hk
   have hput := vcGuard_put (P := P) (T := T) (o := oj) (s := s) (u := v) (dst := oi.dst) (K := fun s' h' => MonoH h0 h' ∧ AnyM P T ops h0 K fuel ((listed.setIfInBounds i true).setIfInBounds j true) s' h') a1 a2 hvj
   refine vcGuard_monoP ?_ oj hput
   rintro s' h' ⟨r,rfl,hm',hA⟩
   have hyi': Yield P T ops h0 oi (put s oj.dst r) h v h := (Yield.put a3).2 hy
   obtain ⟨_,hyi2⟩ := hyi'.quiet (g := h') hst
   refine ⟨hm',ih (listed.setIfInBounds j true) _ _ hm' hDl' hfree' (ready_mono hr (Ne.symm hji)) hyi2 ?_⟩
   rw [Array.setIfInBounds_comm _ _ hji]
   exact hA
theorem anyM_sound (hT: TabOK P T) {ops: Array Oper} {h0: List Blk} {K: List AV → List Blk → Prop} {Q: Exit → Act → World → Prop} {ro: Option Nat}: ∀ (fuel: Nat) (listed: Array Bool) {S: Addr → Prop} {φ: Nat → Loc} {h: List Blk} {w: World} {s: List AV} {a: Act},
  MK n0 S φ h w a.defers → CAll S w φ s a.tmps → R S φ h w → AnyM P T ops h0 K fuel listed s h → (∀ a' w',Conc n0 K S φ h w a' w' → Q .normal a' w') → wpAnyIn (FW ro) 0 P .any ops Q fuel listed a w
 | 0,_,_,_,_,_,_,_,hd,hs,hr,hv,hK => ⟨hv.1,hK _ _ ⟨_,_,_,_,hv.2,hd,hs,hr,Ext.refl _ _ _ _⟩⟩
 | fuel + 1,listed,S,φ,h,w,s,a,hd,hs,hr,hv,hK => by
  refine ⟨fun h0 => hK _ _ ⟨_,_,_,_,hv.1 h0,hd,hs,hr,Ext.refl _ _ _ _⟩,fun i hi => ?_⟩
  refine vgAt_sound hT hd hs hr (hv.2 i hi) ?_
  rintro a' w' ⟨s1,h1,S1,φ1,⟨_,hA1⟩,hd1,hs1,hr1,he1⟩
  refine anyM_sound hT fuel _ hd1 hs1 hr1 hA1 fun a'' w'' k => hK _ _ ?_
  obtain ⟨s2,h2,S2,φ2,k1,k2,k3,k4,k5⟩ := k
  exact ⟨s2,h2,S2,φ2,k1,k2,k3,k4,he1.trans k5⟩
def vmTree (P: Program) (T: TypeId → TI) (ops: Array Oper) (h0: List Blk) (K: List AV → List Blk → Prop): TrM → List AV → List Blk → Prop
 | .nil,s,h => K s h
 | .pur k t,s,h => vqAt P T ops h0 ops[k]? s h fun s' h' => vmTree P T ops h0 K t s' h'
 | .eff k t,s,h => vgAt P T ops ops[k]? s h fun s' h' => MonoH h0 h' ∧ vmTree P T ops h0 K t s' h'
 | .two k t l u,s,h => (vgAt P T ops ops[k]? s h fun s' h' => MonoH h0 h' ∧ vmTree P T ops h0 K t s' h') ∧ vgAt P T ops ops[l]? s h fun s' h' => MonoH h0 h' ∧ vmTree P T ops h0 K u s' h'
theorem vgAt_monoM {ops: Array Oper} {o: Option Oper} {K K': List AV → List Blk → Prop} (hk: ∀ s h,K s h → K' s h) (hv: vgAt P T ops o s h K): vgAt P T ops o s h K' := by
 cases o with
 | none => exact hv.elim
 | some o => exact vcGuard_monoP hk o hv
theorem anyM_tree {ops: Array Oper} {h0: List Blk} {K: List AV → List Blk → Prop}: ∀ (t: TrM) (listed: Array Bool) (s: List AV) (h: List Blk),MonoH h0 h → lexM ops t listed = true → vmTree P T ops h0 K t s h → AnyM P T ops h0 K t.len listed s h
 | .nil,_,_,_,_,hB,hw => ⟨by simpa [lexM] using hB,hw⟩
 | .pur k t,listed,s,h,hm,hB,hw => by
  simp only [lexM,Bool.and_eq_true] at hB
  obtain ⟨⟨⟨hr,hf⟩,hst⟩,hB'⟩ := hB
  obtain ⟨o,v,h',ho,hy,hK⟩ := vqAt.out hw
  rw [ho] at hst
  have hst: Op.eff o.op = false := by simpa [still] using hst
  obtain ⟨rfl,_⟩ := hy.quiet (g := h) hst
  obtain ⟨D,hD1,hD2,hD3,_⟩ := freeE_spec ho hf
  exact anyM_first ho hst D hD1 t.len listed s _ hm hD2 hD3 (by simpa using hr) hy (anyM_tree t _ _ _ hm hB' hK)
 | .eff k t,listed,s,h,hm,hB,hw => by
  simp only [lexM,Bool.and_eq_true,beq_iff_eq] at hB
  refine ⟨fun e => (by rw [hB.1] at e; cases e),fun i hi => ?_⟩
  rw [hB.1] at hi
  have e: i = k := by simpa using hi
  subst e
  exact vgAt_monoM (fun s' h' q => ⟨q.1,anyM_tree t _ _ _ q.1 hB.2 q.2⟩) hw
 | .two k t l u,listed,s,h,hm,hB,hw => by
  simp only [lexM,Bool.and_eq_true,beq_iff_eq,decide_eq_true_eq] at hB
  obtain ⟨⟨⟨hr,hlen⟩,hB1⟩,hB2⟩ := hB
  refine ⟨fun e => (by rw [hr] at e; cases e),fun i hi => ?_⟩
  rw [hr] at hi
  have: i = k ∨ i = l := by simpa using hi
  rcases this with rfl | rfl
  ·
   exact vgAt_monoM (fun s' h' q => ⟨q.1,anyM_tree t _ _ _ q.1 hB1 q.2⟩) hw.1
  ·
   exact vgAt_monoM (fun s' h' q => ⟨q.1,by rw [hlen]; exact anyM_tree u _ _ _ q.1 hB2 q.2⟩) hw.2
theorem lexM_sound (hT: TabOK P T) (hmo: P.follows .mixedOrders = true) {id: Nat} {ops: Array Oper} {t: TrM} {K: List AV → List Blk → Prop} {Q: Exit → Act → World → Prop} {ro: Option Nat} (hB: lexM ops t (Array.replicate ops.size false) = true) (hlen: t.len = ops.size) {h0: List Blk} (hm: MonoH h0 h) (hd: MK n0 S φ h w a.defers) (hs: CAll S w φ s a.tmps) (hr: R S φ h w)
  (hv: vmTree P T ops h0 K t s h) (hK: ∀ a' w',Conc n0 K S φ h w a' w' → Q .normal a' w'): (Code.region id ops true).wpIn (FW ro) 0 P Q a w := by
 refine wpIn_region_any hmo (anyM_sound (K := K) (h0 := h0) hT ops.size _ (hd.ext (Ext.drew S φ h w)) ((Ext.drew S φ h w).CAll hs) hr.drew ?_ ?_)
 ·
  rw [← hlen] at hB ⊢
  exact anyM_tree t _ _ _ hm hB hv
 ·
  rintro a' w' ⟨s2,h2,S2,φ2,k1,k2,k3,k4,k5⟩
  exact hK _ _ ⟨s2,h2,S2,φ2,k1,k2,k3,k4,(Ext.drew S φ h w).trans k5⟩
def DrawK (P: Program) (T: TypeId → TI) (ops: Array Oper) (s: List AV) (h: List Blk) (K: List AV → List Blk → Prop): Prop :=
 P.follows .mixedOrders = true ∧ ((lexE ops = true ∧ ∃ h0,MonoH h0 h ∧ vqOps P T ops h0 ops.toList s h K) ∨
  (∃ l o,ops = (l ++ [o]).toArray ∧ lexZ ops l.length = true ∧ vqOps P T ops h l s h fun s' h' => vcGuard P T ops o s' h' K) ∨
  (∃ t: Tr,lexT ops t (Array.replicate ops.size false) = true ∧ t.len = ops.size ∧ ∃ h0,MonoH h0 h ∧ vqTree P T ops h0 K t s h) ∨
  (∃ t: Tr,lexV ops t (Array.replicate ops.size false) = true ∧ t.len = ops.size ∧ vTree P T ops K t s h) ∨
  ∃ t: TrM,lexM ops t (Array.replicate ops.size false) = true ∧ t.len = ops.size ∧ ∃ h0,MonoH h0 h ∧ vmTree P T ops h0 K t s h)
theorem vqStep_mono {h0: List Blk} {K K': List AV → List Blk → Prop} (hk: ∀ s h,K s h → K' s h) (o: Oper) (hv: vqStep P T h0 o s h K): vqStep P T h0 o s h K' := by
 unfold vqStep at *
 split at hv
 ·
  split at hv
  ·
   obtain ⟨v,hp,hv⟩ := hv
   exact ⟨v,hp,hk _ _ hv⟩
  ·
   exact hv.elim
 ·
  split at hv
  ·
   split at hv
   ·
    exact ⟨hv.1,hk _ _ hv.2⟩
   ·
    exact ⟨hv.1,hv.2.1,hk _ _ hv.2.2⟩
   ·
    exact hv.elim
  ·
   split at hv
   ·
    exact hk _ _ hv
   ·
    exact ⟨hv.1,hk _ _ hv.2⟩
   ·
    exact hk _ _ hv
   ·
    obtain ⟨x,h1,h2⟩ := hv
    exact ⟨x,h1,hk _ _ h2⟩
   ·
    exact hv.elim
theorem vqGuard_mono {ops: Array Oper} {h0: List Blk} {K K': List AV → List Blk → Prop} (hk: ∀ s h,K s h → K' s h) (o: Oper) (hv: vqGuard P T ops h0 o s h K): vqGuard P T ops h0 o s h K' := by
 unfold vqGuard at *
 split at hv
 ·
  exact vqStep_mono hk o hv
 ·
  split at hv
  ·
   exact hv.elim
  ·
   split at hv
   ·
    split at hv
    ·
     split at hv
     ·
      exact vqStep_mono hk o hv
     ·
      exact hk _ _ hv
    ·
     split at hv
     ·
      exact hk _ _ hv
     ·
      exact vqStep_mono hk o hv
   ·
    exact hk _ _ hv
   ·
    exact hv.elim
theorem vqOps_mono {ops: Array Oper} {h0: List Blk}: ∀ (l: List Oper) {K K': List AV → List Blk → Prop} {s: List AV} {h: List Blk},(∀ s h,K s h → K' s h) → vqOps P T ops h0 l s h K → vqOps P T ops h0 l s h K'
 | [],_,_,_,_,hk,hv => hk _ _ hv
 | o :: rest,_,_,_,_,hk,hv => vqGuard_mono (fun _ _ hv => vqOps_mono rest hk hv) o hv
theorem vqAt_mono {ops: Array Oper} {h0: List Blk} {o: Option Oper} {K K': List AV → List Blk → Prop} (hk: ∀ s h,K s h → K' s h) (hv: vqAt P T ops h0 o s h K): vqAt P T ops h0 o s h K' := by
 cases o with
 | none => exact hv.elim
 | some o => exact vqGuard_mono hk o hv
theorem vqTree_mono {ops: Array Oper} {h0: List Blk} {K K': List AV → List Blk → Prop} (hk: ∀ s h,K s h → K' s h): ∀ {t: Tr} {s: List AV} {h: List Blk},vqTree P T ops h0 K t s h → vqTree P T ops h0 K' t s h
 | .nil,_,_,hv => hk _ _ hv
 | .one _ _,_,_,hv => vqAt_mono (fun _ _ x => vqTree_mono hk x) hv
 | .two _ _ _ _,_,_,hv => ⟨vqAt_mono (fun _ _ x => vqTree_mono hk x) hv.1,vqAt_mono (fun _ _ x => vqTree_mono hk x) hv.2⟩
theorem vgAt_mono {ops: Array Oper} {o: Option Oper} {K K': List AV → List Blk → Prop} (hk: ∀ s h,K s h → K' s h) (hv: vgAt P T ops o s h K): vgAt P T ops o s h K' := by
 cases o with
 | none => exact hv.elim
 | some o => exact vcGuard_monoP hk o hv
theorem vTree_mono {ops: Array Oper} {K K': List AV → List Blk → Prop} (hk: ∀ s h,K s h → K' s h): ∀ {t: Tr} {s: List AV} {h: List Blk},vTree P T ops K t s h → vTree P T ops K' t s h
 | .nil,_,_,hv => hk _ _ hv
 | .one _ _,_,_,hv => vgAt_mono (fun _ _ x => vTree_mono hk x) hv
 | .two _ _ _ _,_,_,hv => ⟨vgAt_mono (fun _ _ x => vTree_mono hk x) hv.1,vgAt_mono (fun _ _ x => vTree_mono hk x) hv.2⟩
theorem vmTree_mono {ops: Array Oper} {h0: List Blk} {K K': List AV → List Blk → Prop} (hk: ∀ s h,K s h → K' s h): ∀ {t: TrM} {s: List AV} {h: List Blk},vmTree P T ops h0 K t s h → vmTree P T ops h0 K' t s h
 | .nil,_,_,hv => hk _ _ hv
 | .pur _ _,_,_,hv => vqAt_mono (fun _ _ x => vmTree_mono hk x) hv
 | .eff _ _,_,_,hv => vgAt_monoM (fun _ _ x => ⟨x.1,vmTree_mono hk x.2⟩) hv
 | .two _ _ _ _,_,_,hv => ⟨vgAt_monoM (fun _ _ x => ⟨x.1,vmTree_mono hk x.2⟩) hv.1,vgAt_monoM (fun _ _ x => ⟨x.1,vmTree_mono hk x.2⟩) hv.2⟩
theorem DrawK.mono {ops: Array Oper} {K K': List AV → List Blk → Prop} (hk: ∀ s h,K s h → K' s h) (hv: DrawK P T ops s h K): DrawK P T ops s h K' := by
 refine ⟨hv.1,?_⟩
 rcases hv.2 with g | ⟨l,o,h1,h2,h3⟩ | ⟨t,h1,h2,h3⟩ | ⟨t,h1,h2,h3⟩ | ⟨t,h1,h2,h0,h3,h4⟩
 ·
  obtain ⟨h0,g2,g3⟩ := g.2
  exact .inl ⟨g.1,h0,g2,vqOps_mono _ hk g3⟩
 ·
  exact .inr (.inl ⟨l,o,h1,h2,vqOps_mono _ (fun _ _ x => vcGuard_monoP hk o x) h3⟩)
 ·
  obtain ⟨h0,g2,g3⟩ := h3
  exact .inr (.inr (.inl ⟨t,h1,h2,h0,g2,vqTree_mono hk g3⟩))
 ·
  exact .inr (.inr (.inr (.inl ⟨t,h1,h2,vTree_mono hk h3⟩)))
 ·
  exact .inr (.inr (.inr (.inr ⟨t,h1,h2,h0,h3,vmTree_mono hk h4⟩)))
theorem drawK_sound (hT: TabOK P T) {id: Nat} {ops: Array Oper} {K: List AV → List Blk → Prop} {Q: Exit → Act → World → Prop} {ro: Option Nat} (hd: MK n0 S φ h w a.defers) (hs: CAll S w φ s a.tmps) (hr: R S φ h w)
  (hv: DrawK P T ops s h K) (hK: ∀ a' w',Conc n0 K S φ h w a' w' → Q .normal a' w'): (Code.region id ops true).wpIn (FW ro) 0 P Q a w :=
 by
 rcases hv.2 with g | ⟨l,o,rfl,h2,h3⟩ | ⟨t,h1,h2,h3⟩ | ⟨t,h1,h2,h3⟩ | ⟨t,h1,h2,h0,h3,h4⟩
 ·
  obtain ⟨h0,g2,g3⟩ := g.2
  exact lexY_sound hT hv.1 g.1 g2 hd hs hr g3.out hK
 ·
  exact lexZ_sound hT hv.1 h2 hd hs hr h3.out hK
 ·
  obtain ⟨h0,g2,g3⟩ := h3
  exact lexT_sound hT hv.1 h1 h2 g2 hd hs hr g3.out hK
 ·
  exact lexV_sound hT hv.1 h1 h2 hd hs hr h3 hK
 ·
  exact lexM_sound hT hv.1 h1 h2 h3 hd hs hr h4 hK
end
end Go.Abs
namespace Go.Abs
open Go.RowKit
abbrev Post := AExit → List AV → List Blk → Prop
def condSet (s: List AV) (c: Operand) (b: Bool): List AV :=
 match c with
 | .tmp t => s.set t (.raw (.bool b))
 | _ => s
def Ghost (s: List AV) (h: List Blk) (s': List AV) (h': List Blk): Prop :=
 ∀ S φ w vs,CAll S w φ s vs → R S φ h w → ∃ S' φ',CAll S' w φ' s' vs ∧ R S' φ' h' w ∧ Ext S φ h w S' φ' h' w
theorem Ghost.refl (s: List AV) (h: List Blk): Ghost s h s h := fun S φ _ _ hs hr => ⟨S,φ,hs,hr,Ext.refl _ _ _ _⟩
theorem Ghost.trans {s s' s'': List AV} {h h' h'': List Blk} (g: Ghost s h s' h') (k: Ghost s' h' s'' h''): Ghost s h s'' h'' := by
 intro S φ w vs hs hr
 obtain ⟨S',φ',h1,h2,h3⟩ := g S φ w vs hs hr
 obtain ⟨S'',φ'',k1,k2,k3⟩ := k S' φ' w vs h1 h2
 exact ⟨S'',φ'',k1,k2,h3.trans k3⟩
def noR: Code → Bool
 | .seq x y => noR x && noR y
 | .cond _ x y => noR x && noR y
 | .block _ c => noR c
 | .loop c => noR c
 | .scope c => noR c
 | .rangeFunc _ _ _ _ => false
 | _ => true
def loopEnd (Q: Post) (s: List AV) (k: Nat) (h: List Blk): Prop :=
 match h[k]? with
 | some (.lp _ .ready none _ _ _ _) => Q .normal s (h.set k .dead)
 | some (.lp _ .done (some .ret) _ _ _ _) => Q .ret s (h.set k .dead)
 | some (.lp _ .done (some (.exit id)) _ _ _ _) => Q (.exit id) s (h.set k .dead)
 | _ => False
def RangeK (P: Program) (g: Operand) (ps: Array Tmp) (x y: Code) (Q: Post) (s: List AV) (h: List Blk): Prop :=
 match opd s g with
 | .fn (.func gf) [] captured => ∀ l: Nat,ACall P gf (.fn (.yield l) [] [] :: captured) (h ++ [.lp l .ready none ps x y s]) fun _ h' => loopEnd Q s h.length h'
 | _ => False
def vc (P: Program) (T: TypeId → TI): Code → Post → List AV → List Blk → Prop
 | .skip,Q,s,h => Q .normal s h
 | .region _ ops false,Q,s,h => vcOps P T ops ops.toList s h (Q .normal)
 | .region _ ops true,Q,s,h => DrawK P T ops s h (Q .normal)
 | .seq x y,Q,s,h => vc P T x (fun e s h => match e with
  | .normal => vc P T y Q s h
  | .exit i => Q (.exit i) s h
  | .ret => Q .ret s h
  | .goto l => Q (.goto l) s h) s h
 | .cond c x y,Q,s,h => match opd s c with
  | .raw (.bool b) => match b with
   | true => vc P T x Q (condSet s c true) h
   | false => vc P T y Q (condSet s c false) h
  | _ => False
 | .block id c,Q,s,h => vc P T c (fun e s h => match e with
  | .normal => Q .normal s h
  | .exit i => match decide (i = id) with
   | true => Q .normal s h
   | false => Q (.exit i) s h
  | .ret => Q .ret s h
  | .goto l => Q (.goto l) s h) s h
 | .loop c,Q,s,h => ∃ s' h',Ghost s h s' h' ∧ ∃ n,LoopN (fun Q' s h => vc P T c Q' s h) Q n s' h'
 | .exit id,Q,s,h => Q (.exit id) s h
 | .ret,Q,s,h => Q .ret s h
 | .label _,Q,s,h => Q .normal s h
 | .scope c,Q,s,h => vc P T c (fun e s h => match e with
  | .normal => Q .normal s h
  | .exit i => Q (.exit i) s h
  | .ret => Q .ret s h
  | .goto _ => False) s h
 | .goto l,Q,s,h => Q (.goto l) s h
 | .rangeFunc g ps x y,Q,s,h => RangeK P g ps x y Q s h
 | _,_,_,_ => False
def exitOf: Exit → Option AExit
 | .normal => some .normal
 | .exit i => some (.exit i)
 | .ret => some .ret
 | .goto l => some (.goto l)
 | _ => none
def ConcX (n0: Nat) (Q: Post) (S: Addr → Prop) (φ: Nat → Loc) (h: List Blk) (w: World) (e: Exit) (a': Act) (w': World): Prop :=
 ∃ x,exitOf e = some x ∧ Conc n0 (Q x) S φ h w a' w'
section
variable {P: Program} {T: TypeId → TI} {S S': Addr → Prop} {φ φ': Nat → Loc} {h h': List Blk} {w w': World} {s s': List AV} {a a': Act} {n0: Nat}
theorem Conc.trans {K: List AV → List Blk → Prop} {a'': Act} {w'': World} (he: Ext S φ h w S' φ' h' w') (k: Conc n0 K S' φ' h' w' a'' w''): Conc n0 K S φ h w a'' w'' := by
 obtain ⟨s'',h'',S'',φ'',hK'',hd'',hs'',hr'',he'⟩ := k
 exact ⟨s'',h'',S'',φ'',hK'',hd'',hs'',hr'',he.trans he'⟩
theorem ConcX.trans {Q: Post} {e: Exit} {a'': Act} {w'': World} (he: Ext S φ h w S' φ' h' w') (k: ConcX n0 Q S' φ' h' w' e a'' w''): ConcX n0 Q S φ h w e a'' w'' := by
 obtain ⟨x,hx,k⟩ := k
 exact ⟨x,hx,k.trans he⟩
theorem exists_least {p: Nat → Prop} (h: ∃ n,p n): ∃ n,p n ∧ ∀ m,p m → n ≤ m := by
 obtain ⟨n,hn⟩ := h
 induction n using Nat.strongRecOn with
 | _ n ih =>
  by_cases hm: ∃ m,m < n ∧ p m
  ·
   obtain ⟨m,hlt,hpm⟩ := hm
   exact ih m hlt hpm
  ·
   exact ⟨n,hn,fun m hpm => Nat.le_of_not_lt fun hlt => hm ⟨m,hlt,hpm⟩⟩
theorem condSet_same {c: Operand} {b: Bool} (hs: CAll S w φ s a.tmps) (hb: opd s c = .raw (.bool b)): CAll S w φ (condSet s c b) a.tmps := by
 cases c with
 | tmp t => exact set_same_bool hs hb
 | _ => exact hs
def LoopIn (n0: Nat) (P: Program) (T: TypeId → TI) (c: Code) (Q: Post) (S: Addr → Prop) (φ: Nat → Loc) (h: List Blk) (w: World) (a': Act) (w': World) (n: Nat): Prop :=
 ∃ s' h' S' φ',LoopN (fun Q' s h => vc P T c Q' s h) Q n s' h' ∧ MK n0 S' φ' h' w' a'.defers ∧ CAll S' w' φ' s' a'.tmps ∧ R S' φ' h' w' ∧ Ext S φ h w S' φ' h' w'
theorem wpIn_scope_fw {ro: Option Nat} {c: Code} {Q: Exit → Act → World → Prop} {a: Act} {w: World} (h: c.wpIn (FW ro) 0 P (Exit.noGoto Q) a w): (Code.scope c).wpIn (FW ro) 0 P Q a w := by
 intro b k cs hro hb hr
 have st: ∀ {a: Act} {w: World} {k: List Item} {c: Code},step P (lone (b.atR a (.code (.scope c) :: k)) cs w) = .next (lone (b.atR a (.code c :: .inScope c :: k)) cs w) := step_lone_go (by simp [stepG,stepG.exec,Frame.atR])
 have si: ∀ {a: Act} {w: World} {k: List Item} {c: Code},step P (lone (b.atR a (.inScope c :: k)) cs w) = .next (lone (b.atR a k) cs w) := step_lone_go (by simp [stepG,stepG.exec,Frame.atR])
 have h0: (lone (b.atR a (.code (.scope c) :: k)) cs w).fenced P (FW ro) := fenced_calm hb hr rfl
 obtain ⟨e,a₁,w₁,hq,harr⟩ := h b (.inScope c :: k) cs hro hb hr
 cases e with
 | normal => exact ⟨.normal,a₁,w₁,hq,.head h0 st (StepsIn.trans harr (.one (fenced_calm hb hr rfl) si))⟩
 | exit id =>
  have hx: exitTo id (.inScope c :: k) = exitTo id k := by simp [exitTo]
  exact ⟨.exit id,a₁,w₁,hq,fun k' hk => .head h0 st (harr.1 k' (by rw [hx]; exact hk)),
   fun hr' hk => let ⟨k₁,h1,h2⟩ := harr.2 hr' (by rw [hx]; exact hk); ⟨k₁,h1,.head h0 st h2⟩⟩
 | goto l => exact hq.elim
 | ret => exact ⟨_,a₁,w₁,hq,.of_steps (.one h0 st) harr⟩
 | panic ch => exact ⟨_,a₁,w₁,hq,.of_steps (.one h0 st) harr⟩
 | outgrown => exact ⟨_,a₁,w₁,hq,.of_steps (.one h0 st) harr⟩
set_option maxHeartbeats 1000000 in
theorem range_sound {g: Operand} {ps: Array Tmp} {x y: Code} {Q: Post} (hv: RangeK P g ps x y Q s h) (hd: MK n0 S φ h w a.defers) (hs: CAll S w φ s a.tmps) (hr: R S φ h w) :
  (Code.rangeFunc g ps x y).wpIn (FW none) 0 P (ConcX n0 Q S φ h w) a w := by
 unfold RangeK at hv
 have hg := C.opd hs g
 split at hv
 ·
  rename_i gf captured hge
  rw [hge] at hg
  generalize hvg: a.eval g = vg at hg
  cases hg with
  | fn _ _ _ vs us hl hl' hc1 hc2 =>
   have hvs: vs = #[] := Array.eq_empty_of_size_eq_zero hl
   subst hvs
   refine wpIn_rangeFunc ?_
   intro fn _
   obtain ⟨rec,hrec⟩: ∃ rec: Loop,rec = { state := .ready,pending := none,fn,tmps := a.tmps,params := ps,assign := x,body := y,defers := w.heap.size } := ⟨_,rfl⟩
   have hd0: n0 ≤ w.heap.size := hd.1
   obtain ⟨W1,hW1⟩: ∃ W1,(w.alloc (.deferred (some []))).alloc (.loop rec) = W1 := ⟨_,rfl⟩
   have hsz1: W1.heap.size = w.heap.size + 2 := by rw [← hW1]; simp
   have hL1: W1.heap[w.heap.size + 1]? = some (.loop rec) := by
    rw [← hW1]; have := World.alloc_heap_new (w.alloc (.deferred (some []))) (.loop rec); rwa [World.size_alloc] at this
   have hK1: W1.heap[w.heap.size]? = some (.deferred (some [])) := by
    rw [← hW1]; exact (Below.heap_alloc _ _ _ (by simp)).trans (World.alloc_heap_new w _)
   have hold: ∀ b,b < w.heap.size → W1.heap[b]? = w.heap[b]? := fun b hb => by
    rw [← hW1]; exact (Below.heap_alloc _ _ _ (by simp; omega)).trans (Below.heap_alloc _ _ _ hb)
   have hcell: ∀ c,S c → W1.cell? c = w.cell? c := fun c hc => cell_of_heap (hold c.block (hr.bnd c hc))
   obtain ⟨l,hlD⟩: ∃ l,l = w.heap.size + 1 := ⟨_,rfl⟩
   have hle2: ∀ k,(φ k).le (upd φ h.length (.obj l) k) := fun k => by
    by_cases e: k = h.length
    ·
     subst e; rw [hr.fresh _ (Nat.le_refl _)]; trivial
    ·
     rw [upd_other _ e]; exact Loc.le_refl _
   have hos: W1.os = w.os ∧ W1.tape = w.tape ∧ W1.output = w.output := by rw [← hW1]; exact ⟨rfl,rfl,rfl⟩
   obtain ⟨k1,k2⟩ := hr.push (l := .obj l) (x := .lp l .ready none ps x y s) (S' := S) (w' := W1) hos.1 hos.2.1 hos.2.2 (by omega) hold (fun _ h => h) (fun _ h => .inl h) (fun c hc => by have := hr.bnd c hc; omega)
    ⟨upd_same _ _ _,fn,a.tmps,w.heap.size,by rw [hlD,hL1,hrec],hs.mono (fun _ h => h) hcell hle2,fun c hc e => by have := hr.bnd c hc; omega⟩ (fun b hb => by cases hb; omega)
   have hargs: CAll S W1 (upd φ h.length (.obj l)) (.fn (.yield l) [] [] :: captured) (#[.func (.yield l) #[] #[]] ++ us) := by
    have q1: CAll S W1 (upd φ h.length (.obj l)) [.fn (.yield l) [] []] #[.func (.yield l) #[] #[]] :=
     ⟨rfl,fun i u v hu hv => by
      cases i with
      | zero => cases hu; cases hv; exact .fn _ _ _ _ _ rfl rfl (fun i a v h => by simp at h) (fun i a v h => by simp at h)
      | succ i => simp at hu⟩
    have q2: CAll S W1 (upd φ h.length (.obj l)) captured us := CAll.mono (S := S) (w := w) (φ := φ) (fun _ h => h) hcell hle2 ⟨hl',hc2⟩
    exact q1.append q2
   obtain ⟨henter,hcalls⟩ := hv l S (upd φ h.length (.obj l)) W1 _ k1 hargs
   have hnoD: ¬ Owns (upd φ h.length (.obj l)) (h ++ [.lp l .ready none ps x y s]) w.heap.size := fun ho => by
    obtain ⟨j,z,hj,hb⟩ := ho
    rcases Nat.lt_or_ge j h.length with g | g
    ·
     rw [List.getElem?_append_left g] at hj
     rw [upd_other _ (by omega)] at hb
     exact absurd (owned_lt (hr.blk j z hj) hb) (by omega)
    ·
     rw [List.getElem?_append_right g] at hj
     have e0: j - h.length = 0 := by
      rcases Nat.eq_zero_or_pos (j - h.length) with q | q
      ·
       exact q
      ·
       rw [List.getElem?_eq_none (by simp; omega)] at hj; cases hj
     rw [e0] at hj
     have ej: j = h.length := by omega
     subst ej
     simp at hj
     subst hj
     rw [upd_same] at hb
     cases hb
     omega
   have hd1: MK n0 S (upd φ h.length (.obj l)) (h ++ [.lp l .ready none ps x y s]) W1 ({ target := .collected w.heap.size,args := #[] } :: a.defers) := by
    obtain ⟨_,Ds,p1,p2,p3⟩ := hd
    refine ⟨by omega,w.heap.size :: Ds,by rw [p1]; rfl,List.nodup_cons.2 ⟨fun hm => ?_,p2⟩,fun D hm => ?_⟩
    ·
     have := (Array.getElem?_eq_some_iff.1 (p3 _ hm).2.1).1
     omega
    ·
     rcases List.mem_cons.1 hm with rfl | hm
     ·
      exact ⟨by have := hd0; omega,hK1,hnoD,fun c hc e => by have := hr.bnd c hc; omega⟩
     ·
      exact mk_ext k2 p3 D hm
   refine ⟨l,[{ target := .collected w.heap.size,args := #[] }],W1,{ target := .fn (.func gf) us,args := #[.func (.yield l) #[] #[]] },W1,gf,#[.func (.yield l) #[] #[]] ++ us,W1,?_,?_,fun _ _ => trivial,?_,fun h => (by cases h),?_⟩
   ·
    rw [hlD,← hW1,hrec]; exact run_enterLoop_outer _ _ _ _ _
   ·
    simp only [resolve,hvg]
    simp [go_sem]
   ·
    simp only [invoke]
    exact henter
   ·
    refine callsIn_fw.2 (Calls.mono hcalls ?_)
    rintro e W3 ⟨v,r,h',S',φ',rfl,hK,_,hr3,he3⟩
    unfold loopEnd at hK
    have hφk: φ' h.length = .obj l := by have := he3.loc h.length; rw [upd_same] at this; exact this
    have hs3: CAll S' W3 φ' s a.tmps := he3.CAll (k2.CAll hs)
    have hd3 := hd1.ext he3
    have step: ∀ {l': Nat} {st: LoopState} {pe: Option Code} {ps': Array Tmp} {x' y': Code} {s': List AV},h'[h.length]? = some (.lp l' st pe ps' x' y' s') → st ≠ .busy →
      ∃ w4,(Instr.endLoop l).run P W3 = .ok pe w4 ∧ MK n0 S' (upd φ' h.length (.obj l)) (h'.set h.length .dead) w4 ({ target := .collected w.heap.size,args := #[] } :: a.defers) ∧ CAll S' w4 (upd φ' h.length (.obj l)) s a.tmps ∧
       R S' (upd φ' h.length (.obj l)) (h'.set h.length .dead) w4 ∧ Ext S φ h w S' (upd φ' h.length (.obj l)) (h'.set h.length .dead) w4 := by
     intro l' st pe ps' x' y' s' hb hst
     obtain ⟨g1,fn',tmps',D',g2,g3,g4⟩ := hr3.blk _ _ hb
     rw [hφk] at g1
     cases g1
     have hend := run_endLoop (P := P) g2 hst
     have hlt := (Array.getElem?_eq_some_iff.1 g2).1
     have hown: blockOf (φ' h.length) (.lp l st pe ps' x' y' s') = some l := by rw [hφk]; rfl
     have hoth: ∀ (o: Obj) b,b ≠ l → (W3.putObj l o).heap[b]? = W3.heap[b]? := fun o b hb => World.putObj_heap_other hb
     obtain ⟨m1,m2⟩ := hr3.put (k := h.length) (x := .dead) (l := .obj l) (S' := S') (w' := W3.putObj l (.loop { state := .exhausted,pending := pe,fn := fn',tmps := tmps',params := ps',assign := x',body := y',defers := D' })) hb rfl rfl rfl (by simp)
      (fun b _ hne => hoth _ b (fun e => hne (by rw [hown,e]))) (fun _ h => h) (fun c hc => cell_of_heap (hoth _ c.block (g4 c hc))) (fun _ h => .inl h) (fun c hc => by have := hr3.bnd c hc; simpa using this) (by rw [hφk]; rfl) trivial (fun b hb => by cases hb)
     exact ⟨_,hend,hd3.ext m2,m2.CAll hs3,m1,(k2.trans he3).trans m2⟩
    split at hK
    ·
     rename_i hb
     obtain ⟨w4,e1,e2,e3,e4,e5⟩ := step hb (by simp)
     exact ⟨none,w4,e1,.normal,rfl,s,_,S',_,hK,e2,e3,e4,e5⟩
    ·
     rename_i hb
     obtain ⟨w4,e1,e2,e3,e4,e5⟩ := step hb (by simp)
     exact ⟨some .ret,w4,e1,wpIn_ret ⟨.ret,rfl,s,_,S',_,hK,e2,e3,e4,e5⟩⟩
    ·
     rename_i id _ _ _ _ hb
     obtain ⟨w4,e1,e2,e3,e4,e5⟩ := step hb (by simp)
     exact ⟨some (.exit id),w4,e1,wpIn_exit ⟨.exit id,rfl,s,_,S',_,hK,e2,e3,e4,e5⟩⟩
    ·
     exact hK.elim
 ·
  exact hv.elim
theorem vc_soundIn (hT: TabOK P T) {ro: Option Nat} (c: Code): (ro.isSome = true → noR c = true) → ∀ {Q: Post} {S φ h w s a},vc P T c Q s h → MK n0 S φ h w a.defers → CAll S w φ s a.tmps → R S φ h w → c.wpIn (FW ro) 0 P (ConcX n0 Q S φ h w) a w := by
 induction c with
 | skip => intro hro Q S φ h w s a hv hd hs hr; exact wpIn_skip ⟨.normal,rfl,s,h,S,φ,hv,hd,hs,hr,Ext.refl _ _ _ _⟩
 | region id ops draw =>
  intro hro Q S φ h w s a hv hd hs hr
  cases draw with
  | true => exact drawK_sound hT hd hs hr hv fun a' w' k => ⟨.normal,rfl,k⟩
  | false => exact wpIn_region_list (vcOps_sound hT ops.toList hd hs hr hv fun a' w' k => ⟨.normal,rfl,k⟩)
 | seq x y ihx ihy =>
  intro hro Q S φ h w s a hv hd hs hr
  refine wpIn_seq (wpIn_mono (ihx (fun e => (Bool.and_eq_true_iff.1 (hro e)).1) hv hd hs hr) ?_)
  rintro e a' w' ⟨x',hx,s',h',S',φ',hK,hd',hs',hr',he⟩
  cases e <;> simp only [exitOf] at hx <;> cases hx
  ·
   exact wpIn_mono (ihy (fun e => (Bool.and_eq_true_iff.1 (hro e)).2) hK hd' hs' hr') fun e a'' w'' k => k.trans he
  ·
   exact ⟨_,rfl,s',h',S',φ',hK,hd',hs',hr',he⟩
  ·
   exact ⟨_,rfl,s',h',S',φ',hK,hd',hs',hr',he⟩
  ·
   exact ⟨_,rfl,s',h',S',φ',hK,hd',hs',hr',he⟩
 | cond c x y ihx ihy =>
  intro hro Q S φ h w s a hv hd hs hr
  simp only [vc] at hv
  have hc := C.opd hs c
  split at hv
  ·
   rename_i b hb
   rw [hb] at hc
   generalize hvc: a.eval c = v at hc
   cases hc
   cases b with
   | true => exact wpIn_cond_true hvc (ihx (fun e => (Bool.and_eq_true_iff.1 (hro e)).1) hv hd (condSet_same hs hb) hr)
   | false => exact wpIn_cond_false hvc (ihy (fun e => (Bool.and_eq_true_iff.1 (hro e)).2) hv hd (condSet_same hs hb) hr)
  ·
   exact hv.elim
 | block id c ih =>
  intro hro Q S φ h w s a hv hd hs hr
  refine wpIn_block (wpIn_mono (ih hro hv hd hs hr) ?_)
  rintro e a' w' ⟨x',hx,s',h',S',φ',hK,hd',hs',hr',he⟩
  cases e <;> simp only [exitOf] at hx <;> cases hx
  ·
   exact ⟨_,rfl,s',h',S',φ',hK,hd',hs',hr',he⟩
  ·
   rename_i i
   dsimp only at hK
   simp only [Exit.inBlock]
   by_cases e: i = id
   ·
    rw [if_pos e]
    rw [decide_eq_true e] at hK
    exact ⟨_,rfl,s',h',S',φ',hK,hd',hs',hr',he⟩
   ·
    rw [if_neg e]
    rw [decide_eq_false e] at hK
    exact ⟨_,rfl,s',h',S',φ',hK,hd',hs',hr',he⟩
  ·
   exact ⟨_,rfl,s',h',S',φ',hK,hd',hs',hr',he⟩
  ·
   exact ⟨_,rfl,s',h',S',φ',hK,hd',hs',hr',he⟩
 | loop c ih =>
  intro hro Q S φ h w s a hv hd hs hr
  obtain ⟨s0,h0,hg,n,hn⟩ := hv
  obtain ⟨S0,φ0,hs0,hr0,he0⟩ := hg S φ w a.tmps hs hr
  have hle: ∀ a' w',(∃ n,LoopIn n0 P T c Q S φ h w a' w' n) → ∃ n,LoopIn n0 P T c Q S φ h w a' w' n ∧ ∀ m,LoopIn n0 P T c Q S φ h w a' w' m → n ≤ m := fun a' w' hx => exists_least hx
  classical
  refine wpIn_loop (I := fun a' w' => ∃ n,LoopIn n0 P T c Q S φ h w a' w' n) (μ := fun a' w' => if hx: ∃ n,LoopIn n0 P T c Q S φ h w a' w' n then Classical.choose (hle a' w' hx) else 0) ⟨n,s0,h0,S0,φ0,hn,hd.ext he0,hs0,hr0,he0⟩ ?_
  intro a₁ w₁ hx
  obtain ⟨hm,hmin⟩ := Classical.choose_spec (hle a₁ w₁ hx)
  rw [dif_pos hx]
  generalize Classical.choose (hle a₁ w₁ hx) = m at hm hmin
  obtain ⟨s₁,h₁,S₁,φ₁,hL,hd₁,hs₁,hr₁,he₁⟩ := hm
  cases m with
  | zero => exact hL.elim
  | succ m =>
   refine wpIn_mono (ih hro hL hd₁ hs₁ hr₁) ?_
   rintro e a' w' ⟨x',hx',s',h',S',φ',hK,hd',hs',hr',he⟩
   cases e <;> simp only [exitOf] at hx' <;> cases hx'
   ·
    have hin: LoopIn n0 P T c Q S φ h w a' w' m := ⟨s',h',S',φ',hK,hd',hs',hr',he₁.trans he⟩
    refine ⟨⟨m,hin⟩,?_⟩
    rw [dif_pos ⟨m,hin⟩]
    have := (Classical.choose_spec (hle a' w' ⟨m,hin⟩)).2 m hin
    omega
   ·
    exact ⟨_,rfl,s',h',S',φ',hK,hd',hs',hr',he₁.trans he⟩
   ·
    exact ⟨_,rfl,s',h',S',φ',hK,hd',hs',hr',he₁.trans he⟩
   ·
    exact ⟨_,rfl,s',h',S',φ',hK,hd',hs',hr',he₁.trans he⟩
 | exit id => intro hro Q S φ h w s a hv hd hs hr; exact wpIn_exit ⟨_,rfl,s,h,S,φ,hv,hd,hs,hr,Ext.refl _ _ _ _⟩
 | ret => intro hro Q S φ h w s a hv hd hs hr; exact wpIn_ret ⟨_,rfl,s,h,S,φ,hv,hd,hs,hr,Ext.refl _ _ _ _⟩
 | label l => intro hro Q S φ h w s a hv hd hs hr; exact wpIn_label ⟨_,rfl,s,h,S,φ,hv,hd,hs,hr,Ext.refl _ _ _ _⟩
 | goto l => intro hro Q S φ h w s a hv hd hs hr; exact wpIn_goto ⟨_,rfl,s,h,S,φ,hv,hd,hs,hr,Ext.refl _ _ _ _⟩
 | scope c ih =>
  intro hro Q S φ h w s a hv hd hs hr
  refine wpIn_scope_fw (wpIn_mono (ih hro hv hd hs hr) ?_)
  rintro e a' w' ⟨x',hx,s',h',S',φ',hK,hd',hs',hr',he⟩
  cases e <;> simp only [exitOf] at hx <;> cases hx
  ·
   exact ⟨_,rfl,s',h',S',φ',hK,hd',hs',hr',he⟩
  ·
   exact ⟨_,rfl,s',h',S',φ',hK,hd',hs',hr',he⟩
  ·
   exact hK.elim
  ·
   exact ⟨_,rfl,s',h',S',φ',hK,hd',hs',hr',he⟩
 | rangeFunc f ps x y _ _ =>
  intro hro Q S φ h w s a hv hd hs hr
  cases ro with
  | some l => exact absurd (hro rfl) (by simp [noR])
  | none => exact range_sound hv hd hs hr
 | refuse why => intro hro Q S φ h w s a hv; exact hv.elim
theorem R.free {D: Nat} {o o': Obj} {h0: List Blk} {S0: Addr → Prop} {φ0: Nat → Loc} {w0: World} (hr: R S φ h w) (hD: w.heap[D]? = some o) (hoc: ∀ cs t l,o ≠ .cells cs t l) (hno: ¬ Owns φ h D) (hS: ∀ a,S a → a.block ≠ D) (hlt: w0.heap.size ≤ D) (he: Ext S0 φ0 h0 w0 S φ h w) :
  R S φ h (w.putObj D o') ∧ Ext S0 φ0 h0 w0 S φ h (w.putObj D o') ∧ (∀ a,S a → (w.putObj D o').cell? a = w.cell? a) := by
 have hsz: (w.putObj D o').heap.size = w.heap.size := by simp
 have hoth: ∀ b,b ≠ D → (w.putObj D o').heap[b]? = w.heap[b]? := fun b hb => World.putObj_heap_other hb
 have hcell: ∀ a,S a → (w.putObj D o').cell? a = w.cell? a := fun a ha => cell_of_heap (hoth a.block (hS a ha))
 refine ⟨⟨fun k x hx => ?_,hr.inj,fun a ha => by rw [hsz]; exact hr.bnd a ha,hr.fresh,fun x hx => ⟨by
  obtain ⟨cs,t,l,h1,h2⟩ := (hr.tab x hx).1
  exact ⟨cs,t,l,by rw [hoth _ (fun e => by rw [e,hD] at h1; exact hoc _ _ _ (Option.some.inj h1))]; exact h1,h2⟩,(hr.tab x hx).2⟩⟩,⟨he.os,he.tape,he.output,by rw [hsz]; exact he.size,fun b hb hn => ?_,he.sub,fun a ha => (hcell a (he.sub a ha)).trans (he.cell a ha),he.loc,he.new,he.own⟩,hcell⟩
 ·
  refine (hr.blk k x hx).keep (fun b hb hbo => hoth b (fun e => hno ⟨k,x,hx,by rw [hbo,e]⟩)) (fun _ h => h) hcell (fun _ => Loc.le_refl _) rfl (fun a ha => .inl ha)
 ·
  rw [hoth b (by omega)]; exact he.keep b hb hn
theorem leaves_marks {fn: Func} {tmps: Array Value} {Rr: Ending → World → Prop} {s: List AV} {h0: List Blk} {S0: Addr → Prop} {φ0: Nat → Loc} {w0: World}
  (hfin: ∀ w',CAll S w' φ s tmps → R S φ h w' → Ext S0 φ0 h0 w0 S φ h w' → ∃ v,(results fn tmps).run P w' = .ok v w' ∧ Rr (.returned v) w') :
  ∀ (Ds: List Nat) (w: World),Ds.Nodup → (∀ D ∈ Ds,w0.heap.size ≤ D ∧ w.heap[D]? = some (.deferred (some [])) ∧ ¬ Owns φ h D ∧ ∀ a,S a → a.block ≠ D) → CAll S w φ s tmps → R S φ h w → Ext S0 φ0 h0 w0 S φ h w →
  LeavesInM Fence.wide 0 P fn tmps Rr (Ds.map fun D => { target := .collected D,args := #[] }) .returning w
 | [],w,_,_,hs,hr,he => hfin w hs hr he
 | D :: Ds,w,hn,hD,hs,hr,he => by
  obtain ⟨h0',h1,h2,h3⟩ := hD D List.mem_cons_self
  obtain ⟨k1,k2,k3⟩ := R.free (o' := .deferred none) hr h1 (fun _ _ _ => by simp) h2 h3 h0' he
  refine ⟨by simp,.inl ⟨D,_,rfl,run_takeDeferred h1,?_⟩⟩
  refine leaves_marks hfin Ds _ (List.nodup_cons.1 hn).2 (fun D' hD' => ?_) (hs.mono (fun _ h => h) k3 (fun _ => Loc.le_refl _)) k1 k2
  obtain ⟨g0,g1,g2,g3⟩ := hD D' (List.mem_cons_of_mem _ hD')
  have hne: D' ≠ D := fun e => (List.nodup_cons.1 hn).1 (e ▸ hD')
  exact ⟨g0,(World.putObj_heap_other hne).trans g1,g2,g3⟩
theorem calls_of_vc (hT: TabOK P T) {f: FuncId} {fn: Func} {c: Code} (hf: P.funcs[f]? = some fn) (hb: fn.body = some c) {vs: Array Value} {G: List AV → List Blk → Prop} {Rr: Ending → World → Prop}
  (hv: vc P T c (fun e s h => match e with | .normal => G s h | .ret => G s h | _ => False) s h) (hs: CAll S w φ s (vs ++ Array.replicate (fn.ntmps - vs.size) undef)) (hr: R S φ h w)
  (hfin: ∀ tmps s' h' S' φ' w',G s' h' → CAll S' w' φ' s' tmps → R S' φ' h' w' → Ext S φ h w S' φ' h' w' → ∃ v,(results fn tmps).run P w' = .ok v w' ∧ Rr (.returned v) w'): Calls P f vs w Rr := by
 refine (callsIn_wide (n := 0)).1 (callsIn_of_wp_marks hf hb trivial ?_)
 refine wpIn_mono (vc_soundIn (ro := none) (n0 := w.heap.size) hT c (fun e => by cases e) hv (a := { tmps := vs ++ Array.replicate (fn.ntmps - vs.size) undef,defers := [] }) (MK.nil (Nat.le_refl _)) hs hr) ?_
 rintro e a' w' ⟨x,hx,s',h',S',φ',hK,⟨_,Ds,hds,hn,hD⟩,hs',hr',he⟩
 have fin: G s' h' → LeavesInM Fence.wide 0 P fn a'.tmps Rr a'.defers .returning w' := fun hG => by
  rw [hds]
  exact leaves_marks (S := S') (φ := φ') (h := h') (s := s') (fun w'' q1 q2 q3 => hfin _ _ _ _ _ _ hG q1 q2 q3) Ds w' hn hD hs' hr' he
 cases e <;> simp only [exitOf] at hx <;> cases hx
 ·
  exact fin hK
 ·
  exact hK.elim
 ·
  exact hK.elim
 ·
  exact fin hK
def resAV (T: TypeId → TI) (s: List AV) (h: List Blk): List ResultVar → Option (List AV)
 | [] => some []
 | .tmp t :: r => match resAV T s h r with | some l => some (opd s (.tmp t) :: l) | none => none
 | .cell t ty :: r => match resAV T s h r with
  | none => none
  | some l => match (T ty).kind with
   | .other => none
   | _ => match opd s (.tmp t) with
    | .ptr k off => match blkCells h k with
     | some cs => match loadAV (T ty) (cs.drop off) with
      | .ok v => some (v :: l)
      | _ => none
     | none => none
    | _ => none
def frz (h: List Blk): AV → AV
 | .own sz k n => match h[k]? with
  | some (.own _ sz' es) => match decide (sz' = sz),decide (es.length = n) with
   | true,true => .lst sz es none
   | _,_ => .own sz k n
  | _ => .own sz k n
 | .sl sz k off n => match h[k]? with
  | some (.cells _ cs) => match decide (sz = 1),decide (off + n ≤ cs.length),cs.all AV.one with
   | true,true,true => .lst 1 ((cs.drop off).take n) none
   | _,_,_ => .sl sz k off n
  | _ => .sl sz k off n
 | a => a
def Blk.still: Blk → Bool
 | .own _ _ _ | .cells _ _ => true
 | _ => false
def ownS (S: Addr → Prop) (φ: Nat → Loc) (h: List Blk): Addr → Prop := fun a => S a ∨ (∃ k x,h[k]? = some x ∧ x.still = true ∧ blockOf (φ k) x = some a.block)
theorem one_cells {x: AV} (h: x.one = true): x.cells = [x] := by
 cases x with
 | agg cs => cases h
 | tup cs => cases h
 | raw v => cases v <;> first | rfl | cases h
 | _ => rfl
theorem frz_sound {S: Addr → Prop} {φ: Nat → Loc} {h: List Blk} {w: World} (hr: R S φ h w) {a: AV} {v: Value} (hc: C S w φ a v): C (ownS S φ h) w φ (frz h a) v := by
 have up: ∀ {a: AV} {v: Value},C S w φ a v → C (ownS S φ h) w φ a v := fun hc => hc.mono (fun _ h => .inl h) (fun _ _ => rfl) (fun _ => Loc.le_refl _)
 cases a with
 | own sz k n =>
  simp only [frz]
  split
  ·
   rename_i e sz' es hk
   split
   ·
    rename_i h1 h2
    have h1 := of_decide_eq_true h1
    have h2 := of_decide_eq_true h2
    subst h1; subst h2
    cases hc with
    | own _ _ _ ad cap hcap hmax ht =>
    obtain ⟨u,g1,g2,g3⟩ := hr.blk k _ hk
    obtain ⟨n',u',e1,_,e3⟩ := ht
    rw [g1] at e1
    cases e1
    have e3 := e3 rfl
    rcases g3 with ⟨rfl,rfl⟩ | ⟨b,cap',vs,q1,q2,rfl,q4,q5,q6,q7⟩
    ·
     cases e3; exact .lstnil _ _ trivial
    ·
     cases e3
     obtain ⟨us,hul,hu⟩ := exists_vals (flat es) q6
     have key: ∀ (j: Nat) c,(flat es)[j]? = some c → vs[j]? = some (us.getD j undef) ∧ C S w φ c (us.getD j undef) ∧ (us.getD j undef).oneCell' = true := by
      intro j c hj
      have hj': j < us.length := by rw [hul]; exact lookupD hj
      have e0: us[j]? = some (us.getD j undef) := by rw [List.getD_eq_getElem?_getD,List.getElem?_eq_getElem hj']; rfl
      exact hu j c _ hj e0
     have hadd: ∀ j,(⟨b,0,none⟩: Addr).add j = ⟨b,j,none⟩ := fun j => by unfold Addr.add; split <;> simp_all
     refine .lst _ _ _ _ _ _ (fun j => us.getD j undef) rfl q1 q2 g2 (fun j c hj => ⟨?_,.inr ⟨k,_,hk,rfl,?_⟩⟩) (fun j c hj => up (key j c hj).2.1) (fun j c hj => (key j c hj).2.2) trivial
     ·
      rw [hadd]; simp only [World.cell?,q4]; simpa using (key j c hj).1
     ·
      rw [hadd,g1]; rfl
   ·
    exact up hc
  ·
   exact up hc
 | sl sz k off n =>
  simp only [frz]
  split
  ·
   rename_i t cs hk
   split
   ·
    rename_i h1 h2 h3
    have h1 := of_decide_eq_true h1
    have h2 := of_decide_eq_true h2
    subst h1
    cases hc with
    | sl _ _ _ _ b cap hφ hcap hmax =>
    obtain ⟨b',vs,g1,g2,g3,g4,g5⟩ := hr.blk k _ hk
    rw [hφ] at g1
    cases g1
    have hone: ∀ x ∈ cs,x.one = true := List.all_eq_true.1 h3
    have hcl: ∀ x ∈ (cs.drop off).take n,x.cells = [x] := fun x hx => one_cells (hone x (List.mem_of_mem_drop (List.mem_of_mem_take hx)))
    have hfl: flat ((cs.drop off).take n) = (cs.drop off).take n := by
     have: ∀ l: List AV,(∀ x ∈ l,x.cells = [x]) → flat l = l := by
      intro l
      induction l with
      | nil => intro _; rfl
      | cons x l ih =>
       intro hx
       show x.cells ++ flat l = _
       rw [hx x (by simp),ih fun y hy => hx y (by simp [hy])]
       rfl
     exact this _ hcl
    have hadd: ∀ j,(⟨b,off,none⟩: Addr).add j = ⟨b,off + j,none⟩ := fun j => by unfold Addr.add; split <;> simp_all
    have hat: ∀ (j: Nat) c,(flat ((cs.drop off).take n))[j]? = some c → cs[off + j]? = some c := fun j c hj => by
     rw [hfl,List.getElem?_take] at hj
     split at hj
     ·
      rwa [List.getElem?_drop] at hj
     ·
      cases hj
    refine .lst _ _ _ _ _ _ (fun j => vs.getD (off + j) undef) (by simp; omega) hcap hmax (fun x hx => by rw [hcl x hx]; rfl) (fun j c hj => ⟨?_,.inr ⟨k,_,hk,rfl,?_⟩⟩) (fun j c hj => up ?_) (fun j c hj => ?_) trivial
    ·
     obtain ⟨v,hv,_⟩ := g3.at (hat j c hj)
     rw [hadd]; simp only [World.cell?,g2]
     simp [Array.getD_eq_getD_getElem?,hv]
    ·
     rw [hadd,hφ]; rfl
    ·
     obtain ⟨v,hv,hcv⟩ := g3.at (hat j c hj)
     simpa [Array.getD_eq_getD_getElem?,hv] using hcv
    ·
     obtain ⟨v,hv,hcv⟩ := g3.at (hat j c hj)
     have: v.oneCell' = true := g4 v (by rw [← Array.getElem?_toList] at hv; exact List.mem_of_getElem? hv)
     simpa [Array.getD_eq_getD_getElem?,hv] using this
   ·
    exact up hc
  ·
   exact up hc
 | _ => exact up hc
theorem frz_all {S: Addr → Prop} {φ: Nat → Loc} {h: List Blk} {w: World} (hr: R S φ h w) {azs: List AV} {vs: Array Value} (hc: CAll S w φ azs vs) (b: Bool): CAll (ownS S φ h) w φ (bif b then azs.map (frz h) else azs) vs := by
 cases b with
 | false => exact hc.mono (fun _ h => .inl h) (fun _ _ => rfl) (fun _ => Loc.le_refl _)
 | true =>
  refine ⟨by simp [hc.1],fun i a v ha hv => ?_⟩
  simp only [cond_true,List.getElem?_map,Option.map_eq_some_iff] at ha
  obtain ⟨x,hx,rfl⟩ := ha
  exact frz_sound hr (hc.2 i x v hx hv)
def oneOrTup: List AV → AV
 | [v] => v
 | l => .tup l
inductive Weak: AV → AV → Prop where
 | refl (a: AV): Weak a a
 | tok (sz: Nat) (es: List AV) (k: Option Nat): Weak (.lst sz es k) (.lst sz es none)
 | nil (sz: Nat): Weak (.raw (.slice none 0 0)) (.lst sz [] none)
 | agg (cs ds: List AV) (hl: cs.length = ds.length) (h: ∀ (i: Nat) c d,cs[i]? = some c → ds[i]? = some d → Weak c d): Weak (.agg cs) (.agg ds)
 | tup (cs ds: List AV) (hl: cs.length = ds.length) (h: ∀ (i: Nat) c d,cs[i]? = some c → ds[i]? = some d → Weak c d): Weak (.tup cs) (.tup ds)
 | lst (sz: Nat) (es ds: List AV) (k: Option Nat) (hl: es.length = ds.length) (hsz: ∀ e ∈ ds,e.cells.length = sz) (hf: (flat es).length = (flat ds).length) (h: ∀ (i: Nat) c d,(flat es)[i]? = some c → (flat ds)[i]? = some d → Weak c d): Weak (.lst sz es k) (.lst sz ds none)
theorem C.weak {x y: AV} (hw: Weak x y): ∀ {v: Value},C S w φ x v → C S w φ y v := by
 induction hw with
 | refl a => intro v hc; exact hc
 | tok sz es k =>
  intro v hc
  cases hc with
  | lst _ _ _ a len cap u hlen hcap hmax hsz hm hc h1 ht => exact .lst _ _ _ a len cap u hlen hcap hmax hsz hm hc h1 trivial
  | lstnil _ _ ht => exact .lstnil _ _ trivial
 | nil sz => intro v hc; cases hc; exact .lstnil _ _ trivial
 | agg cs ds hl h ih =>
  intro v hc
  cases hc with
  | agg _ vs hl' hc h1 =>
   refine .agg ds vs (by rw [hl',hl]) (fun i d v hd hv => ?_) h1
   have hi: i < cs.length := by rw [hl]; exact lookupD hd
   exact ih i _ d (List.getElem?_eq_getElem hi) hd (hc i _ v (List.getElem?_eq_getElem hi) hv)
 | tup cs ds hl h ih =>
  intro v hc
  cases hc with
  | tup _ vs hl' hc =>
   refine .tup ds vs (by rw [hl',hl]) (fun i d v hd hv => ?_)
   have hi: i < cs.length := by rw [hl]; exact lookupD hd
   exact ih i _ d (List.getElem?_eq_getElem hi) hd (hc i _ v (List.getElem?_eq_getElem hi) hv)
 | lst sz es ds k hl hsz hf h ih =>
  intro v hc
  cases hc with
  | lst _ _ _ a len cap u hlen hcap hmax hsz' hm hc h1 ht =>
   have at': ∀ (j: Nat) d,(flat ds)[j]? = some d → ∃ c,(flat es)[j]? = some c := fun j d hd => by
    have hi: j < (flat es).length := by rw [hf]; exact lookupD hd
    exact ⟨_,List.getElem?_eq_getElem hi⟩
   refine .lst _ _ _ a len cap u (by rw [← hl,hlen]) hcap hmax hsz (fun j d hd => ?_) (fun j d hd => ?_) (fun j d hd => ?_) trivial
   ·
    obtain ⟨c,hj⟩ := at' j d hd; exact hm j c hj
   ·
    obtain ⟨c,hj⟩ := at' j d hd; exact ih j c d hj hd (hc j c hj)
   ·
    obtain ⟨c,hj⟩ := at' j d hd; exact h1 j c hj
  | lstnil _ _ ht =>
   have: ds = [] := by cases ds with | nil => rfl | cons d l => simp at hl
   subst this
   exact .lstnil _ _ trivial
def WeakL: List AV → List AV → Prop
 | [],[] => True
 | a :: azs,b :: bs => Weak a b ∧ WeakL azs bs
 | _,_ => False
theorem WeakL.at: ∀ {azs bs: List AV},WeakL azs bs → azs.length = bs.length ∧ ∀ (i: Nat) c d,azs[i]? = some c → bs[i]? = some d → Weak c d
 | [],[],_ => ⟨rfl,fun i c d h => by simp at h⟩
 | a :: azs,b :: bs,h => by
  obtain ⟨h1,h2⟩ := WeakL.at h.2
  refine ⟨by simp [h1],fun i c d hc hd => ?_⟩
  cases i with
  | zero => simp at hc hd; subst hc; subst hd; exact h.1
  | succ i => exact h2 i c d hc hd
 | [],_ :: _,h => h.elim
 | _ :: _,[],h => h.elim
theorem Weak.aggs {cs ds: List AV} (h: WeakL cs ds): Weak (.agg cs) (.agg ds) := .agg cs ds h.at.1 h.at.2
theorem Weak.lsts {sz: Nat} {es ds: List AV} {k: Option Nat} (hl: es.length = ds.length) (hsz: ∀ e ∈ ds,e.cells.length = sz) (h: WeakL (flat es) (flat ds)): Weak (.lst sz es k) (.lst sz ds none) := .lst sz es ds k hl hsz h.at.1 h.at.2
theorem CAll.weak {azs bs: List AV} {vs: Array Value} (hw: WeakL azs bs) (hc: CAll S w φ azs vs): CAll S w φ bs vs := by
 obtain ⟨h1,h2⟩ := hw.at
 refine ⟨by rw [hc.1,h1],fun i b v hb hv => ?_⟩
 have hi: i < azs.length := by rw [h1]; exact lookupD hb
 exact (hc.2 i _ v (List.getElem?_eq_getElem hi) hv).weak (h2 i _ b (List.getElem?_eq_getElem hi) hb)
theorem PCall.callW {f: FuncId} {azs args: List AV} {r: AV} {K: AV → List Blk → Prop} (hp: PCall P f args r) (hw: WeakL azs args) (hk: K r h): ACall P f azs h K := by
 intro S φ w vs hr hargs
 exact PCall.call hp hk S φ w vs hr (hargs.weak hw)
def resSem (tmps: Array Value) (r: ResultVar): Sem Value :=
 match r with
 | .tmp t => pure (tmps.getD t undef)
 | .cell a t => do loadVar t (← asAddr (tmps.getD a undef))
theorem resAV_sound (hT: TabOK P T) (hs: CAll S w φ s a.tmps) (hr: R S φ h w): ∀ (rs: List ResultVar) (l: List AV),resAV T s h rs = some l → ∃ vs: List Value,(rs.mapM (resSem a.tmps)).run P w = .ok vs w ∧ CAll S w φ l vs.toArray
 | [],l,hl => by
  simp only [resAV] at hl
  cases hl
  exact ⟨[],rfl,CAll.nil⟩
 | .tmp t :: r,l,hl => by
  simp only [resAV] at hl
  split at hl
  ·
   rename_i l' hl'
   cases hl
   obtain ⟨vs,h1,h2⟩ := resAV_sound hT hs hr r l' hl'
   refine ⟨a.eval (.tmp t) :: vs,?_,CAll.cons (C.opd hs (.tmp t)) h2⟩
   rw [List.mapM_cons]
   simp only [resSem,Sem.run_bind,Sem.run_pure,Result.andThen_ok,h1]
   rfl
  ·
   cases hl
 | .cell t ty :: r,l,hl => by
  simp only [resAV] at hl
  split at hl
  ·
   cases hl
  ·
   rename_i l' hl'
   split at hl
   ·
    cases hl
   ·
    rename_i hne
    have hc := C.opd hs (.tmp t)
    split at hl
    ·
     rename_i k off hp
     rw [hp] at hc
     split at hl
     ·
      rename_i cs hb
      split at hl
      ·
       rename_i v hv
       cases hl
       obtain ⟨vs,h1,h2⟩ := resAV_sound hT hs hr r l' hl'
       obtain ⟨b,e,hlies⟩ := LiesAt.of_ptr hr hc hb
       have hload := loadAV_sound (P := P) (hT ty) hne hlies
       rw [hv] at hload
       obtain ⟨u,hu,hcu⟩ := hload
       have hu': (loadVar ty ⟨b,off,none⟩).run P w = .ok u w := by
        simp only [Instr.loadAt,Instr.sureAddr,Sem.run_bind,Sem.run_pure,Result.andThen_ok,asNext] at hu
        generalize (loadVar ty ⟨b,off,none⟩).run P w = res at hu
        cases res with
        | ok v' w'' => simp only [Result.andThen_ok,Result.ok.injEq,Next.value.injEq] at hu; obtain ⟨rfl,rfl⟩ := hu; rfl
        | halt x w'' => simp [Result.andThen] at hu
       refine ⟨u :: vs,?_,CAll.cons hcu h2⟩
       rw [List.mapM_cons]
       have e': a.tmps.getD t undef = .pointer (some ⟨b,off,none⟩) := e
       simp only [resSem,e',asAddr,Sem.run_bind,Sem.run_pure,Result.andThen_ok,hu',h1]
      ·
       cases hl
     ·
      cases hl
    ·
     cases hl
theorem results_sound (hT: TabOK P T) (hs: CAll S w φ s a.tmps) (hr: R S φ h w) {fn: Func} {l: List AV} (hl: resAV T s h fn.results.toList = some l) (fz: Bool): ∃ v,(results fn a.tmps).run P w = .ok v w ∧ C (ownS S φ h) w φ (oneOrTup (bif fz then l.map (frz h) else l)) v := by
 obtain ⟨vs,h1,h2⟩ := resAV_sound hT hs hr _ _ hl
 have hm: (fn.results.mapM (resSem a.tmps)).run P w = .ok vs.toArray w := by
  rw [Array.mapM_eq_mapM_toList]
  simp [h1]
 have hres: (results fn a.tmps).run P w = .ok (if h: vs.toArray.size = 1 then vs.toArray[0] else .tuple vs.toArray) w := by
  have e: results fn a.tmps = (do let vs ← fn.results.mapM (resSem a.tmps); pure (if h: vs.size = 1 then vs[0] else .tuple vs)) := by
   unfold results
   congr 1
  rw [e,Sem.run_bind,hm]
  rfl
 refine ⟨_,hres,?_⟩
 have h2 := frz_all hr h2 fz
 generalize (bif fz then l.map (frz h) else l) = l at h2 ⊢
 have hlen: vs.length = l.length := by simpa using h2.1
 clear h1 hm hres hl
 match l,vs,hlen,h2 with
 | [],[],_,_ => exact .tup [] #[] rfl (fun i a v h => by simp at h)
 | [x],[v],_,h2 => exact h2.2 0 x v rfl rfl
 | x :: y :: l,v :: u :: vs,_,h2 =>
  rw [dif_neg (by simp)]
  exact .tup _ _ h2.1 h2.2
theorem results_plain (hT: TabOK P T) (hs: CAll S w φ s a.tmps) (hr: R S φ h w) {fn: Func} {l: List AV} (hl: resAV T s h fn.results.toList = some l): ∃ v,(results fn a.tmps).run P w = .ok v w ∧ C S w φ (oneOrTup l) v := by
 obtain ⟨vs,h1,h2⟩ := resAV_sound hT hs hr _ _ hl
 have hm: (fn.results.mapM (resSem a.tmps)).run P w = .ok vs.toArray w := by
  rw [Array.mapM_eq_mapM_toList]
  simp [h1]
 have hres: (results fn a.tmps).run P w = .ok (if h: vs.toArray.size = 1 then vs.toArray[0] else .tuple vs.toArray) w := by
  have e: results fn a.tmps = (do let vs ← fn.results.mapM (resSem a.tmps); pure (if h: vs.size = 1 then vs[0] else .tuple vs)) := by
   unfold results
   congr 1
  rw [e,Sem.run_bind,hm]
  rfl
 refine ⟨_,hres,?_⟩
 have hlen: vs.length = l.length := by simpa using h2.1
 clear h1 hm hres hl
 match l,vs,hlen,h2 with
 | [],[],_,_ => exact .tup [] #[] rfl (fun i a v h => by simp at h)
 | [x],[v],_,h2 => exact h2.2 0 x v rfl rfl
 | x :: y :: l,v :: u :: vs,_,h2 =>
  rw [dif_neg (by simp)]
  exact .tup _ _ h2.1 h2.2
theorem own_frame {S₁: Addr → Prop} {φ₁: Nat → Loc} {h₁: List Blk} {w₁: World} (hr: R S₁ φ₁ h₁ w₁) (he: Ext S (fun _ => .no) [] w S₁ φ₁ h₁ w₁) :
  R (ownS S₁ φ₁ h₁) (fun _ => .no) [] w₁ ∧ Ext S (fun _ => .no) [] w (ownS S₁ φ₁ h₁) (fun _ => .no) [] w₁ := by
 refine ⟨R.nil (fun a ha => ?_) hr.tab.bare,⟨he.os,he.tape,he.output,he.size,he.keep,fun a ha => .inl (he.sub a ha),he.cell,fun k => trivial,fun a ha => ?_,fun b hb => absurd hb no_owns⟩⟩
 ·
  rcases ha with ha | ⟨k,x,hk,_,hb⟩
  ·
   exact hr.bnd a ha
  ·
   exact owned_lt (hr.blk k _ hk) hb
 ·
  rcases ha with ha | ⟨k,x,hk,_,hb⟩
  ·
   exact he.new a ha
  ·
   rcases he.own a.block ⟨k,_,hk,hb⟩ with g | g
   ·
    exact absurd g no_owns
   ·
    exact .inr (.inl g)
def Fin (T: TypeId → TI) (rs: List ResultVar) (r: AV) (s: List AV) (h: List Blk): Prop := ∃ l,resAV T s h rs = some l ∧ ∃ fz: Bool,Weak (oneOrTup (bif fz then l.map (frz h) else l)) r
def finPost (K: List AV → List Blk → Prop): Post := fun e s h => match e with
 | .normal => K s h
 | .ret => K s h
 | _ => False
theorem run_callFunc {f : FuncId} {fn : Func} (hf : P.funcs[f]? = some fn) (hname : (fn.name == "runtime.NumGoroutine") = false) (hb : fn.body.isNone = false) (args : Array Value) (w : World) : (callFunc f args).run P w = .ok (.enter f args) w := by
 simp only [callFunc,Sem.run_bind,run_program,Result.andThen_ok,hf,hname,hb,Bool.false_eq_true,if_false,Sem.run_pure]
theorem pcall_of_vc (hT : TabOK P T) {f : FuncId} {fn : Func} {c : Code} (hf : P.funcs[f]? = some fn) (hname : (fn.name == "runtime.NumGoroutine") = false) (hb : fn.body = some c) {args : List AV} {r : AV} (hpa : ∀ x ∈ args, Pure x) (hpr : Pure r)
  {n: Nat} (hn: fn.ntmps = n) {rs: List ResultVar} (hrs: fn.results.toList = rs)
  (hv: vc P T c (finPost (Fin T rs r)) (args ++ List.replicate (n - args.length) (.tup [])) []): PCall P f args r := by
 refine ⟨hpa,hpr,fun S w vs hbnd htab hargs => ⟨run_callFunc hf hname (by rw [hb]; rfl) vs w,?_⟩⟩
 have htmps: CAll S w (fun _ => .no) (args ++ List.replicate (n - args.length) (.tup [])) (vs ++ Array.replicate (fn.ntmps - vs.size) undef) := by
  refine hargs.append ⟨by rw [Array.size_replicate,List.length_replicate,hn,hargs.1],fun i x v hx hv => ?_⟩
  rw [List.getElem?_replicate] at hx
  rw [Array.getElem?_replicate] at hv
  split at hx
  ·
   split at hv
   ·
    cases hx; cases hv; exact C.undef_
   ·
    cases hv
  ·
   cases hx
 refine calls_of_vc hT hf hb hv htmps (R.nil hbnd htab) ?_
 intro tmps s' h' S' φ' w' hG hs' hr' he
 revert hG
 rintro ⟨l,hl,fz,hwk⟩
 obtain ⟨v,h1,h2⟩ := results_sound hT hs' hr' (fn := fn) (a := { tmps := tmps,defers := [] }) (by rw [hrs]; exact hl) fz
 obtain ⟨k1,k2⟩ := own_frame hr' he
 exact ⟨v,h1,v,_,rfl,(h2.weak hwk).pure _ hpr,k1,k2⟩
def PCallE (P: Program) (f: FuncId) (args: List AV) (K: AV → Prop): Prop :=
 (∀ x ∈ args,Pure x) ∧ ∀ S w vs,(∀ a,S a → a.block < w.heap.size) → TabF (fun _ => .no) [] w → CAll S w (fun _ => .no) args vs → (callFunc f vs).run P w = .ok (.enter f vs) w ∧
  Calls P f vs w fun e w' => ∃ v r S',e = .returned v ∧ K r ∧ Pure r ∧ C S' w' (fun _ => .no) r v ∧ R S' (fun _ => .no) [] w' ∧ Ext S (fun _ => .no) [] w S' (fun _ => .no) [] w'
theorem PCallE.call {f: FuncId} {args: List AV} {Kr: AV → Prop} {K: AV → List Blk → Prop} (hp: PCallE P f args Kr) (hk: ∀ r,Kr r → K r h): ACall P f args h K := by
 obtain ⟨h1,h3⟩ := hp
 intro S φ w vs hr hargs
 obtain ⟨henter,hcalls⟩ := h3 S w vs hr.bnd hr.tab.bare (hargs.pure _ h1)
 refine ⟨henter,Calls.mono hcalls ?_⟩
 rintro e w' ⟨v,r,S',rfl,hKr,h2,hc,hr',he⟩
 obtain ⟨k1,k2⟩ := hr.over he hr'.bnd
 exact ⟨v,r,h,S',φ,rfl,hk r hKr,hc.pure φ h2,k1,k2⟩
theorem PCallE.callW {f: FuncId} {azs args: List AV} {Kr: AV → Prop} {K: AV → List Blk → Prop} (hp: PCallE P f args Kr) (hw: WeakL azs args) (hk: ∀ r,Kr r → K r h): ACall P f azs h K := by
 intro S φ w vs hr hargs
 exact PCallE.call hp hk S φ w vs hr (hargs.weak hw)
def BCall (P: Program) (f: FuncId) (args: List AV): Prop := PCallE P f args fun r => ∃ b: Bool,r = .raw (.bool b)
theorem BCall.call {f: FuncId} {args: List AV} {K: AV → List Blk → Prop} (hp: BCall P f args) (hk: ∀ b: Bool,K (.raw (.bool b)) h): ACall P f args h K :=
 PCallE.call hp fun r hr => by obtain ⟨b,rfl⟩ := hr; exact hk b
def FinE (T: TypeId → TI) (rs: List ResultVar) (Kr: AV → Prop) (s: List AV) (h: List Blk): Prop := ∃ l,resAV T s h rs = some l ∧ ∃ (fz: Bool) (r: AV),Weak (oneOrTup (bif fz then l.map (frz h) else l)) r ∧ Pure r ∧ Kr r
theorem pcallE_of_vc (hT : TabOK P T) {f : FuncId} {fn : Func} {c : Code} (hf : P.funcs[f]? = some fn) (hname : (fn.name == "runtime.NumGoroutine") = false) (hb : fn.body = some c) {args : List AV} {Kr : AV → Prop} (hpa : ∀ x ∈ args, Pure x)
  {n: Nat} (hn: fn.ntmps = n) {rs: List ResultVar} (hrs: fn.results.toList = rs)
  (hv: vc P T c (finPost (FinE T rs Kr)) (args ++ List.replicate (n - args.length) (.tup [])) []): PCallE P f args Kr := by
 refine ⟨hpa,fun S w vs hbnd htab hargs => ⟨run_callFunc hf hname (by rw [hb]; rfl) vs w,?_⟩⟩
 have htmps: CAll S w (fun _ => .no) (args ++ List.replicate (n - args.length) (.tup [])) (vs ++ Array.replicate (fn.ntmps - vs.size) undef) := by
  refine hargs.append ⟨by rw [Array.size_replicate,List.length_replicate,hn,hargs.1],fun i x v hx hv => ?_⟩
  rw [List.getElem?_replicate] at hx
  rw [Array.getElem?_replicate] at hv
  split at hx
  ·
   split at hv
   ·
    cases hx; cases hv; exact C.undef_
   ·
    cases hv
  ·
   cases hx
 refine calls_of_vc hT hf hb hv htmps (R.nil hbnd htab) ?_
 intro tmps s' h' S' φ' w' hG hs' hr' he
 revert hG
 rintro ⟨l,hl,fz,r,hwk,hpr,hKr⟩
 obtain ⟨v,h1,h2⟩ := results_sound hT hs' hr' (fn := fn) (a := { tmps := tmps,defers := [] }) (by rw [hrs]; exact hl) fz
 obtain ⟨k1,k2⟩ := own_frame hr' he
 exact ⟨v,h1,v,r,_,rfl,hKr,hpr,(h2.weak hwk).pure _ hpr,k1,k2⟩
end
end Go.Abs
namespace Go.Proofs.YtpamokpmlplopaaGreatDoor
open Go.Abs
set_option maxHeartbeats 4000000
set_option maxRecDepth 100000
@[go_sem] def ti: Nat → TI
 | 2 => ⟨.int .i64,1,8,[.int .i64 0]⟩
 | 3 => ⟨.int .i64,1,8,[.int .i64 0]⟩
 | 4 => ⟨.bool,1,1,[.bool false]⟩
 | 5 => ⟨.int .u8,1,1,[.int .u8 0]⟩
 | 6 => ⟨.int .u8,1,1,[.int .u8 0]⟩
 | 8 => ⟨.struct [(0,2),(1,3),(2,4),(3,6)],4,24,[.int .i64 0,.int .i64 0,.bool false,.int .u8 0]⟩
 | 9 => ⟨.string,1,16,[.string ⟨#[]⟩]⟩
 | 10 => ⟨.string,1,16,[.string ⟨#[]⟩]⟩
 | 11 => ⟨.string,1,16,[.string ⟨#[]⟩]⟩
 | 15 => ⟨.flat,1,8,[.pointer none]⟩
 | 16 => ⟨.flat,1,8,[.pointer none]⟩
 | 17 => ⟨.flat,1,8,[.pointer none]⟩
 | 21 => ⟨.int .i32,1,4,[.int .i32 0]⟩
 | 22 => ⟨.slice 80,1,24,[.slice none 0 0]⟩
 | 23 => ⟨.slice 68,1,24,[.slice none 0 0]⟩
 | 25 => ⟨.struct [(0,22),(1,23)],2,48,[.slice none 0 0,.slice none 0 0]⟩
 | 28 => ⟨.slice 37,1,24,[.slice none 0 0]⟩
 | 30 => ⟨.struct [(0,22),(1,28)],2,48,[.slice none 0 0,.slice none 0 0]⟩
 | 34 => ⟨.slice 45,1,24,[.slice none 0 0]⟩
 | 35 => ⟨.slice 53,1,24,[.slice none 0 0]⟩
 | 37 => ⟨.struct [(0,9),(1,34),(2,34),(3,34),(4,35)],5,112,[.string ⟨#[]⟩,.slice none 0 0,.slice none 0 0,.slice none 0 0,.slice none 0 0]⟩
 | 42 => ⟨.struct [(0,3),(1,3),(2,3)],3,24,[.int .i64 0,.int .i64 0,.int .i64 0]⟩
 | 43 => ⟨.slice 97,1,24,[.slice none 0 0]⟩
 | 45 => ⟨.struct [(0,9),(1,42),(4,43)],5,64,[.string ⟨#[]⟩,.int .i64 0,.int .i64 0,.int .i64 0,.slice none 0 0]⟩
 | 46 => ⟨.slice 9,1,24,[.slice none 0 0]⟩
 | 48 => ⟨.slice 51,1,24,[.slice none 0 0]⟩
 | 49 => ⟨.slice 2,1,24,[.slice none 0 0]⟩
 | 51 => ⟨.struct [(0,9),(1,2)],2,24,[.string ⟨#[]⟩,.int .i64 0]⟩
 | 53 => ⟨.struct [(0,3),(1,46),(2,3),(3,48),(4,49),(5,3),(6,4),(7,51),(9,43)],10,152,[.int .i64 0,.slice none 0 0,.int .i64 0,.slice none 0 0,.slice none 0 0,.int .i64 0,.bool false,.string ⟨#[]⟩,.int .i64 0,.slice none 0 0]⟩
 | 59 => ⟨.int .i64,1,8,[.int .i64 0]⟩
 | 61 => ⟨.struct [(0,3),(1,3),(2,59)],3,24,[.int .i64 0,.int .i64 0,.int .i64 0]⟩
 | 65 => ⟨.slice 77,1,24,[.slice none 0 0]⟩
 | 66 => ⟨.slice 74,1,24,[.slice none 0 0]⟩
 | 68 => ⟨.struct [(0,9),(1,65),(2,65),(3,65),(4,66)],5,112,[.string ⟨#[]⟩,.slice none 0 0,.slice none 0 0,.slice none 0 0,.slice none 0 0]⟩
 | 70 => ⟨.slice 72,1,24,[.slice none 0 0]⟩
 | 72 => ⟨.struct [(0,3),(1,2),(2,9),(3,3),(4,46),(5,70)],6,88,[.int .i64 0,.int .i64 0,.string ⟨#[]⟩,.int .i64 0,.slice none 0 0,.slice none 0 0]⟩
 | 74 => ⟨.struct [(0,46),(1,72)],7,112,[.slice none 0 0,.int .i64 0,.int .i64 0,.string ⟨#[]⟩,.int .i64 0,.slice none 0 0,.slice none 0 0]⟩
 | 75 => ⟨.func,1,8,[.nilFunc]⟩
 | 77 => ⟨.struct [(0,9),(1,42),(4,9),(5,9)],6,72,[.string ⟨#[]⟩,.int .i64 0,.int .i64 0,.int .i64 0,.string ⟨#[]⟩,.string ⟨#[]⟩]⟩
 | 80 => ⟨.struct [(0,9),(1,46)],2,40,[.string ⟨#[]⟩,.slice none 0 0]⟩
 | 83 => ⟨.flat,1,8,[.pointer none]⟩
 | 85 => ⟨.struct [(0,25),(2,3),(3,9),(4,3),(5,37)],10,192,[.slice none 0 0,.slice none 0 0,.int .i64 0,.string ⟨#[]⟩,.int .i64 0,.string ⟨#[]⟩,.slice none 0 0,.slice none 0 0,.slice none 0 0,.slice none 0 0]⟩
 | 91 => ⟨.func,1,8,[.nilFunc]⟩
 | 93 => ⟨.func,1,8,[.nilFunc]⟩
 | 97 => ⟨.struct [(0,9),(1,2)],2,24,[.string ⟨#[]⟩,.int .i64 0]⟩
 | 100 => ⟨.func,1,8,[.nilFunc]⟩
 | 101 => ⟨.slice 3,1,24,[.slice none 0 0]⟩
 | 111 => ⟨.flat,1,8,[.pointer none]⟩
 | 112 => ⟨.func,1,8,[.nilFunc]⟩
 | 114 => ⟨.struct [(0,25),(2,3),(3,112),(4,37)],9,176,[.slice none 0 0,.slice none 0 0,.int .i64 0,.nilFunc,.string ⟨#[]⟩,.slice none 0 0,.slice none 0 0,.slice none 0 0,.slice none 0 0]⟩
 | 127 => ⟨.func,1,8,[.nilFunc]⟩
 | 129 => ⟨.func,1,8,[.nilFunc]⟩
 | 131 => ⟨.slice 34,1,24,[.slice none 0 0]⟩
 | 133 => ⟨.map 9 3,1,8,[.map none]⟩
 | 134 => ⟨.map 9 3,1,8,[.map none]⟩
 | 136 => ⟨.slice 4,1,24,[.slice none 0 0]⟩
 | 144 => ⟨.struct [(0,4),(1,4)],2,2,[.bool false,.bool false]⟩
 | 149 => ⟨.func,1,8,[.nilFunc]⟩
 | 163 => ⟨.func,1,8,[.nilFunc]⟩
 | 169 => ⟨.struct [(0,25),(2,3)],3,56,[.slice none 0 0,.slice none 0 0,.int .i64 0]⟩
 | 171 => ⟨.map 3 46,1,8,[.map none]⟩
 | 173 => ⟨.struct [(0,171),(1,133)],2,16,[.map none,.map none]⟩
 | 179 => ⟨.func,1,8,[.nilFunc]⟩
 | 191 => ⟨.slice 42,1,24,[.slice none 0 0]⟩
 | 196 => ⟨.int .u64,1,8,[.int .u64 0]⟩
 | 197 => ⟨.slice 5,1,24,[.slice none 0 0]⟩
 | 204 => ⟨.struct [(0,25),(2,68)],7,160,[.slice none 0 0,.slice none 0 0,.string ⟨#[]⟩,.slice none 0 0,.slice none 0 0,.slice none 0 0,.slice none 0 0]⟩
 | 214 => ⟨.func,1,8,[.nilFunc]⟩
 | 222 => ⟨.func,1,8,[.nilFunc]⟩
 | 228 => ⟨.func,1,8,[.nilFunc]⟩
 | 234 => ⟨.flat,1,8,[.pointer none]⟩
 | 237 => ⟨.slice 65,1,24,[.slice none 0 0]⟩
 | 241 => ⟨.array 24 5,24,24,[.int .u8 0,.int .u8 0,.int .u8 0,.int .u8 0,.int .u8 0,.int .u8 0,.int .u8 0,.int .u8 0,.int .u8 0,.int .u8 0,.int .u8 0,.int .u8 0,.int .u8 0,.int .u8 0,.int .u8 0,.int .u8 0,.int .u8 0,.int .u8 0,.int .u8 0,.int .u8 0,.int .u8 0,.int .u8 0,.int .u8 0,.int .u8 0]⟩
 | 249 => ⟨.struct [(0,4),(1,4),(2,4),(3,3),(4,3),(5,3)],6,32,[.bool false,.bool false,.bool false,.int .i64 0,.int .i64 0,.int .i64 0]⟩
 | 268 => ⟨.struct [(0,25),(2,3),(3,133)],4,64,[.slice none 0 0,.slice none 0 0,.int .i64 0,.map none]⟩
 | 270 => ⟨.func,1,8,[.nilFunc]⟩
 | 272 => ⟨.func,1,8,[.nilFunc]⟩
 | 276 => ⟨.array 20 196,20,160,[.int .u64 0,.int .u64 0,.int .u64 0,.int .u64 0,.int .u64 0,.int .u64 0,.int .u64 0,.int .u64 0,.int .u64 0,.int .u64 0,.int .u64 0,.int .u64 0,.int .u64 0,.int .u64 0,.int .u64 0,.int .u64 0,.int .u64 0,.int .u64 0,.int .u64 0,.int .u64 0]⟩
 | 277 => ⟨.int .u32,1,4,[.int .u32 0]⟩
 | 279 => ⟨.int .u64,1,8,[.int .u64 0]⟩
 | 284 => ⟨.func,1,8,[.nilFunc]⟩
 | 286 => ⟨.array 2 3,2,16,[.int .i64 0,.int .i64 0]⟩
 | 302 => ⟨.func,1,8,[.nilFunc]⟩
 | 304 => ⟨.func,1,8,[.nilFunc]⟩
 | 305 => ⟨.func,1,8,[.nilFunc]⟩
 | 310 => ⟨.func,1,8,[.nilFunc]⟩
 | 311 => ⟨.array 32 5,32,32,[.int .u8 0,.int .u8 0,.int .u8 0,.int .u8 0,.int .u8 0,.int .u8 0,.int .u8 0,.int .u8 0,.int .u8 0,.int .u8 0,.int .u8 0,.int .u8 0,.int .u8 0,.int .u8 0,.int .u8 0,.int .u8 0,.int .u8 0,.int .u8 0,.int .u8 0,.int .u8 0,.int .u8 0,.int .u8 0,.int .u8 0,.int .u8 0,.int .u8 0,.int .u8 0,.int .u8 0,.int .u8 0,.int .u8 0,.int .u8 0,.int .u8 0,.int .u8 0]⟩
 | 312 => ⟨.array 64 5,64,64,[.int .u8 0,.int .u8 0,.int .u8 0,.int .u8 0,.int .u8 0,.int .u8 0,.int .u8 0,.int .u8 0,.int .u8 0,.int .u8 0,.int .u8 0,.int .u8 0,.int .u8 0,.int .u8 0,.int .u8 0,.int .u8 0,.int .u8 0,.int .u8 0,.int .u8 0,.int .u8 0,.int .u8 0,.int .u8 0,.int .u8 0,.int .u8 0,.int .u8 0,.int .u8 0,.int .u8 0,.int .u8 0,.int .u8 0,.int .u8 0,.int .u8 0,.int .u8 0,.int .u8 0,.int .u8 0,.int .u8 0,.int .u8 0,.int .u8 0,.int .u8 0,.int .u8 0,.int .u8 0,.int .u8 0,.int .u8 0,.int .u8 0,.int .u8 0,.int .u8 0,.int .u8 0,.int .u8 0,.int .u8 0,.int .u8 0,.int .u8 0,.int .u8 0,.int .u8 0,.int .u8 0,.int .u8 0,.int .u8 0,.int .u8 0,.int .u8 0,.int .u8 0,.int .u8 0,.int .u8 0,.int .u8 0,.int .u8 0,.int .u8 0,.int .u8 0]⟩
 | 329 => ⟨.struct [(0,5),(1,5)],2,2,[.int .u8 0,.int .u8 0]⟩
 | 330 => ⟨.array 16 329,32,32,[.int .u8 0,.int .u8 0,.int .u8 0,.int .u8 0,.int .u8 0,.int .u8 0,.int .u8 0,.int .u8 0,.int .u8 0,.int .u8 0,.int .u8 0,.int .u8 0,.int .u8 0,.int .u8 0,.int .u8 0,.int .u8 0,.int .u8 0,.int .u8 0,.int .u8 0,.int .u8 0,.int .u8 0,.int .u8 0,.int .u8 0,.int .u8 0,.int .u8 0,.int .u8 0,.int .u8 0,.int .u8 0,.int .u8 0,.int .u8 0,.int .u8 0,.int .u8 0]⟩
 | 340 => ⟨.int .u8,1,1,[.int .u8 0]⟩
 | _ => ⟨.other,0,0,[]⟩
set_option maxRecDepth 100000 in
theorem ti_check: ((List.range 348).all fun t => tiCheck Tryz.prog t (ti t)) = true := by kernel_rfl
theorem tabOK: TabOK Tryz.prog ti := by
 intro t
 by_cases h: t < 348
 ·
  exact tiOK_of_check (List.all_eq_true.1 ti_check t (List.mem_range.2 h))
 ·
  left
  unfold ti
  split <;> first | rfl | exact absurd (by decide) h
attribute [go_sem] Nat.reduceAdd Nat.reduceSub Nat.reduceMul Nat.reduceLT Nat.reduceLeDiff Nat.reduceEqDiff Nat.reduceBEq Nat.reduceBNe Nat.reducePow Int.reduceEq Int.reduceNe Int.reduceLT Int.reduceLE Int.reduceGT Int.reduceGE Int.reduceAdd Int.reduceSub Int.reduceNeg Int.reduceMul not_true_eq_false not_false_eq_true true_and and_true Int.reduceToNat
end Go.Proofs.YtpamokpmlplopaaGreatDoor
namespace Go.Abs
open Go.RowKit
section
variable {P: Program} {T: TypeId → TI}
def SeqK (P: Program) (T: TypeId → TI) (y: Code) (Q: Post): Post := fun e s h => match e with
 | .normal => vc P T y Q s h
 | .exit i => Q (.exit i) s h
 | .ret => Q .ret s h
 | .goto l => Q (.goto l) s h
def BlockK (id: Nat) (Q: Post): Post := fun e s h => match e with
 | .normal => Q .normal s h
 | .exit i => match decide (i = id) with
  | true => Q .normal s h
  | false => Q (.exit i) s h
 | .ret => Q .ret s h
 | .goto l => Q (.goto l) s h
def ScopeK (Q: Post): Post := fun e s h => match e with
 | .normal => Q .normal s h
 | .exit i => Q (.exit i) s h
 | .ret => Q .ret s h
 | .goto _ => False
def OpsK (P: Program) (T: TypeId → TI) (ops: Array Oper) (rest: List Oper) (K: List AV → List Blk → Prop): List AV → List Blk → Prop := fun s h => vcOps P T ops rest s h K
def CallK (dst: Option Tmp) (s: List AV) (K: List AV → List Blk → Prop): AV → List Blk → Prop := fun r h' => K (put s dst r) h'
def ElemK (i: Int) (es: List AV) (f: AV → AV) (dst: Option Tmp) (s: List AV) (h: List Blk) (K: List AV → List Blk → Prop): Prop := ∃ x,(0 ≤ i ∧ es[i.toNat]? = some x) ∧ K (put s dst (f x)) h
def hrK (r: HR) (dst: Option Tmp) (s: List AV) (K: List AV → List Blk → Prop): Prop :=
 match r with
 | .ok v h' => K (put s dst v) h'
 | .side p v h' => p ∧ K (put s dst v) h'
 | .bad => False
def prK (T: TypeId → TI) (op: Op) (r: PR) (dst: Option Tmp) (s: List AV) (h: List Blk) (K: List AV → List Blk → Prop): Prop :=
 match r with
 | .ok v => K (put s dst v) h
 | .side p v => p ∧ K (put s dst v) h
 | .fact p v => p → K (put s dst v) h
 | .elem i es f => ElemK i es f dst s h K
 | .bad => hrK (stepHeap T s h op) dst s K
def callK (P: Program) (f: AV) (args: List AV) (dst: Option Tmp) (s: List AV) (h: List Blk) (K: List AV → List Blk → Prop): Prop :=
 match f with
 | .fn (.func g) first captured => ACall P g (first ++ args ++ captured) h (CallK dst s K)
 | .fn (.yield l) [] [] => YCall P l args h (CallK dst s K)
 | _ => False
def brK (P: Program) (T: TypeId → TI) (c: Operand) (v: AV) (x y: Code) (Q: Post) (s: List AV) (h: List Blk): Prop :=
 match v with
 | .raw (.bool b) => match b with
  | true => vc P T x Q (condSet s c true) h
  | false => vc P T y Q (condSet s c false) h
 | _ => False
def gK (P: Program) (T: TypeId → TI) (o: Oper) (want: Bool) (d: Nat) (v: AV) (s: List AV) (h: List Blk) (K: List AV → List Blk → Prop): Prop :=
 match v with
 | .raw (.bool b) => match b with
  | true => match want with
   | true => vcStep P T o (s.set d (.raw (.bool true))) h K
   | false => K (put (s.set d (.raw (.bool true))) o.dst (.tup [])) h
  | false => match want with
   | true => K (put (s.set d (.raw (.bool false))) o.dst (.tup [])) h
   | false => vcStep P T o (s.set d (.raw (.bool false))) h K
 | .tup _ => K (put s o.dst (.tup [])) h
 | _ => False
def gsK (P: Program) (T: TypeId → TI) (o: Oper) (want: Bool) (d: Option Nat) (s: List AV) (h: List Blk) (K: List AV → List Blk → Prop): Prop :=
 match d with
 | none => False
 | some d => gK P T o want d (s.getD d (.tup [])) s h K
def QOpsK (P: Program) (T: TypeId → TI) (ops: Array Oper) (h0: List Blk) (rest: List Oper) (K: List AV → List Blk → Prop): List AV → List Blk → Prop := fun s h => vqOps P T ops h0 rest s h K
def pcK (P: Program) (h0: List Blk) (g: FuncId) (args: List AV) (dst: Option Tmp) (s: List AV) (h: List Blk) (K: List AV → List Blk → Prop): Prop := ∃ v,RCall P h0 g args v ∧ K (put s dst v) h
def qcallK (P: Program) (h0: List Blk) (f: AV) (args: List AV) (dst: Option Tmp) (s: List AV) (h: List Blk) (K: List AV → List Blk → Prop): Prop :=
 match f with
 | .fn (.func g) first captured => pcK P h0 g (first ++ args ++ captured) dst s h K
 | _ => False
def qrK (r: PR) (dst: Option Tmp) (s: List AV) (h: List Blk) (K: List AV → List Blk → Prop): Prop :=
 match r with
 | .ok u => K (put s dst u) h
 | .side p u => p ∧ K (put s dst u) h
 | .fact _ u => K (put s dst u) h
 | .elem i es f => ElemK i es f dst s h K
 | .bad => False
def heK (h0: List Blk) (r: HR) (dst: Option Tmp) (s: List AV) (K: List AV → List Blk → Prop): Prop :=
 match r with
 | .ok u g => MonoH h0 g ∧ K (put s dst u) g
 | .side p u g => p ∧ MonoH h0 g ∧ K (put s dst u) g
 | .bad => False
def gqK (P: Program) (T: TypeId → TI) (h0: List Blk) (o: Oper) (want: Bool) (d: Nat) (v: AV) (s: List AV) (h: List Blk) (K: List AV → List Blk → Prop): Prop :=
 match v with
 | .raw (.bool b) => match b with
  | true => match want with
   | true => vqStep P T h0 o (s.set d (.raw (.bool true))) h K
   | false => K (put (s.set d (.raw (.bool true))) o.dst (.tup [])) h
  | false => match want with
   | true => K (put (s.set d (.raw (.bool false))) o.dst (.tup [])) h
   | false => vqStep P T h0 o (s.set d (.raw (.bool false))) h K
 | .tup _ => K (put s o.dst (.tup [])) h
 | _ => False
def gqsK (P: Program) (T: TypeId → TI) (h0: List Blk) (o: Oper) (want: Bool) (d: Option Nat) (s: List AV) (h: List Blk) (K: List AV → List Blk → Prop): Prop :=
 match d with
 | none => False
 | some d => gqK P T h0 o want d (s.getD d (.tup [])) s h K
variable {Q: Post} {s: List AV} {h: List Blk} {K: List AV → List Blk → Prop} {x y c: Code} {dst: Option Tmp} {ty: TypeId} {pos: String} {af: Array Edge} {gd: Option (Nat × Bool)} {ops: Array Oper} {rest: List Oper} {o: Oper}
theorem vc_skip: vc P T .skip Q s h = Q .normal s h := Eq.trans rfl rfl
theorem vc_region (id: Nat) (l: List Oper): vc P T (.region id l.toArray false) Q s h = vcOps P T l.toArray l s h (Q .normal) := Eq.trans rfl rfl
theorem vc_seq: vc P T (.seq x y) Q s h = vc P T x (SeqK P T y Q) s h := Eq.trans rfl rfl
theorem vc_cond (v: Operand): vc P T (.cond v x y) Q s h = brK P T v (opd s v) x y Q s h := Eq.trans rfl rfl
theorem vc_block (id: Nat): vc P T (.block id c) Q s h = vc P T c (BlockK id Q) s h := Eq.trans rfl rfl
theorem vc_exit (id: Nat): vc P T (.exit id) Q s h = Q (.exit id) s h := Eq.trans rfl rfl
theorem vc_ret: vc P T .ret Q s h = Q .ret s h := Eq.trans rfl rfl
theorem vc_label (l: Nat): vc P T (.label l) Q s h = Q .normal s h := Eq.trans rfl rfl
theorem vc_scope: vc P T (.scope c) Q s h = vc P T c (ScopeK Q) s h := Eq.trans rfl rfl
def rangeK (P: Program) (v: AV) (ps: Array Tmp) (x y: Code) (Q: Post) (s: List AV) (h: List Blk): Prop :=
 match v with
 | .fn (.func gf) [] captured => ∀ l: Nat,ACall P gf (.fn (.yield l) [] [] :: captured) (h ++ [.lp l .ready none ps x y s]) fun _ h' => loopEnd Q s h.length h'
 | _ => False
theorem vc_rangeFunc (g: Operand) (ps: Array Tmp): vc P T (.rangeFunc g ps x y) Q s h = rangeK P (opd s g) ps x y Q s h := Eq.trans rfl rfl
theorem rangeK_fn (gf: FuncId) (captured: List AV) (ps: Array Tmp): rangeK P (.fn (.func gf) [] captured) ps x y Q s h = ∀ l: Nat,ACall P gf (.fn (.yield l) [] [] :: captured) (h ++ [.lp l .ready none ps x y s]) fun _ h' => loopEnd Q s h.length h' := Eq.trans rfl rfl
theorem vc_goto (l: Nat): vc P T (.goto l) Q s h = Q (.goto l) s h := Eq.trans rfl rfl
theorem SeqK_normal: SeqK P T y Q .normal s h = vc P T y Q s h := Eq.trans rfl rfl
theorem SeqK_exit (i: Nat): SeqK P T y Q (.exit i) s h = Q (.exit i) s h := Eq.trans rfl rfl
theorem SeqK_ret: SeqK P T y Q .ret s h = Q .ret s h := Eq.trans rfl rfl
theorem SeqK_goto (l: Nat): SeqK P T y Q (.goto l) s h = Q (.goto l) s h := Eq.trans rfl rfl
theorem BlockK_normal (id: Nat): BlockK id Q .normal s h = Q .normal s h := Eq.trans rfl rfl
theorem BlockK_ret (id: Nat): BlockK id Q .ret s h = Q .ret s h := Eq.trans rfl rfl
theorem BlockK_goto (id l: Nat): BlockK id Q (.goto l) s h = Q (.goto l) s h := Eq.trans rfl rfl
theorem BlockK_same (id: Nat): BlockK id Q (.exit id) s h = Q .normal s h := by simp [BlockK]
theorem BlockK_other {i id: Nat} (hne: (i == id) = false): BlockK id Q (.exit i) s h = Q (.exit i) s h := by
 have: i ≠ id := by simpa using hne
 simp [BlockK,this]
theorem ScopeK_normal: ScopeK Q .normal s h = Q .normal s h := Eq.trans rfl rfl
theorem ScopeK_exit (i: Nat): ScopeK Q (.exit i) s h = Q (.exit i) s h := Eq.trans rfl rfl
theorem ScopeK_ret: ScopeK Q .ret s h = Q .ret s h := Eq.trans rfl rfl
theorem fin_normal: finPost K .normal s h = K s h := Eq.trans rfl rfl
theorem fin_ret: finPost K .ret s h = K s h := Eq.trans rfl rfl
theorem vcOps_nil: vcOps P T ops [] s h K = K s h := Eq.trans rfl rfl
theorem vcOps_cons: vcOps P T ops (o :: rest) s h K = vcGuard P T ops o s h (OpsK P T ops rest K) := Eq.trans rfl rfl
theorem OpsK_eq: OpsK P T ops rest K s h = vcOps P T ops rest s h K := Eq.trans rfl rfl
theorem CallK_eq (r: AV): CallK dst s K r h = K (put s dst r) h := Eq.trans rfl rfl
theorem vcGuard_none (op: Op): vcGuard P T ops ⟨dst,op,ty,pos,af,none⟩ s h K = vcStep P T ⟨dst,op,ty,pos,af,none⟩ s h K := Eq.trans rfl rfl
theorem vcGuard_some (op: Op) (j: Nat) (want: Bool): vcGuard P T ops ⟨dst,op,ty,pos,af,some (j,want)⟩ s h K = gsK P T ⟨dst,op,ty,pos,af,some (j,want)⟩ want (guardSlot ops j) s h K := Eq.trans rfl rfl
theorem gsK_some (want: Bool) (d: Nat): gsK P T o want (some d) s h K = gK P T o want d (s.getD d (.tup [])) s h K := Eq.trans rfl rfl
theorem gK_tt (d: Nat): gK P T o true d (.raw (.bool true)) s h K = vcStep P T o (s.set d (.raw (.bool true))) h K := Eq.trans rfl rfl
theorem gK_tf (d: Nat): gK P T o true d (.raw (.bool false)) s h K = K (put (s.set d (.raw (.bool false))) o.dst (.tup [])) h := Eq.trans rfl rfl
theorem gK_ft (d: Nat): gK P T o false d (.raw (.bool true)) s h K = K (put (s.set d (.raw (.bool true))) o.dst (.tup [])) h := Eq.trans rfl rfl
theorem gK_ff (d: Nat): gK P T o false d (.raw (.bool false)) s h K = vcStep P T o (s.set d (.raw (.bool false))) h K := Eq.trans rfl rfl
theorem gK_tup (want: Bool) (d: Nat) (cs: List AV): gK P T o want d (.tup cs) s h K = K (put s o.dst (.tup [])) h := Eq.trans rfl rfl
theorem brK_true (v: Operand): brK P T v (.raw (.bool true)) x y Q s h = vc P T x Q (condSet s v true) h := Eq.trans rfl rfl
theorem brK_false (v: Operand): brK P T v (.raw (.bool false)) x y Q s h = vc P T y Q (condSet s v false) h := Eq.trans rfl rfl
theorem condSet_tmp (t: Nat) (b: Bool): condSet s (.tmp t) b = s.set t (.raw (.bool b)) := Eq.trans rfl rfl
theorem condSet_const (v: Value) (b: Bool): condSet s (.const v) b = s := Eq.trans rfl rfl
theorem prK_ok (op: Op) (v: AV): prK T op (.ok v) dst s h K = K (put s dst v) h := Eq.trans rfl rfl
theorem prK_side (op: Op) (p: Prop) (v: AV): prK T op (.side p v) dst s h K = (p ∧ K (put s dst v) h) := Eq.trans rfl rfl
theorem prK_fact (op: Op) (p: Prop) (v: AV): prK T op (.fact p v) dst s h K = (p → K (put s dst v) h) := Eq.trans rfl rfl
theorem prK_elem (op: Op) (i: Int) (es: List AV) (f: AV → AV): prK T op (.elem i es f) dst s h K = ElemK i es f dst s h K := Eq.trans rfl rfl
theorem prK_bad (op: Op): prK T op .bad dst s h K = hrK (stepHeap T s h op) dst s K := Eq.trans rfl rfl
theorem hrK_ok (v: AV) (h': List Blk): hrK (.ok v h') dst s K = K (put s dst v) h' := Eq.trans rfl rfl
theorem hrK_side (p: Prop) (v: AV) (h': List Blk): hrK (.side p v h') dst s K = (p ∧ K (put s dst v) h') := Eq.trans rfl rfl
theorem callK_fn (g: FuncId) (first args captured: List AV): callK P (.fn (.func g) first captured) args dst s h K = ACall P g (first ++ args ++ captured) h (CallK dst s K) := Eq.trans rfl rfl
theorem put_some (d: Nat) (v: AV): put s (some d) v = s.set d v := Eq.trans rfl rfl
theorem put_none (v: AV): put s none v = s := Eq.trans rfl rfl
theorem opd_tmp (t: Nat): opd s (.tmp t) = s.getD t (.tup []) := Eq.trans rfl rfl
theorem opd_const (v: Value): opd s (.const v) = .raw v := Eq.trans rfl rfl
theorem opd_func (f: Nat): opd s (.func f) = .fn (.func f) [] [] := Eq.trans rfl rfl
section steps
variable (t u: TypeId) (a b d: Operand) (n: Nat)
theorem vs_move: vcStep P T ⟨dst,.move a,ty,pos,af,gd⟩ s h K = K (put s dst (opd s a)) h := Eq.trans rfl rfl
theorem vs_assign: vcStep P T ⟨dst,.assign a,ty,pos,af,gd⟩ s h K = K (put s dst (opd s a)) h := Eq.trans rfl rfl
theorem vs_pick: vcStep P T ⟨dst,.pick d a b,ty,pos,af,gd⟩ s h K = prK T (.pick d a b) (stepPure T s h (.pick d a b)) dst s h K := Eq.trans rfl rfl
theorem vs_load: vcStep P T ⟨dst,.load t a,ty,pos,af,gd⟩ s h K = prK T (.load t a) (stepPure T s h (.load t a)) dst s h K := Eq.trans rfl rfl
theorem vs_fieldAddr: vcStep P T ⟨dst,.fieldAddr t a n,ty,pos,af,gd⟩ s h K = prK T (.fieldAddr t a n) (stepPure T s h (.fieldAddr t a n)) dst s h K := Eq.trans rfl rfl
theorem vs_field: vcStep P T ⟨dst,.field t a n,ty,pos,af,gd⟩ s h K = prK T (.field t a n) (stepPure T s h (.field t a n)) dst s h K := Eq.trans rfl rfl
theorem vs_indexAddr: vcStep P T ⟨dst,.indexAddr t a b,ty,pos,af,gd⟩ s h K = prK T (.indexAddr t a b) (stepPure T s h (.indexAddr t a b)) dst s h K := Eq.trans rfl rfl
theorem vs_index: vcStep P T ⟨dst,.index t a b,ty,pos,af,gd⟩ s h K = prK T (.index t a b) (stepPure T s h (.index t a b)) dst s h K := Eq.trans rfl rfl
theorem vs_binOp (op: BinOp): vcStep P T ⟨dst,.binOp op t a b u,ty,pos,af,gd⟩ s h K = prK T (.binOp op t a b u) (stepPure T s h (.binOp op t a b u)) dst s h K := Eq.trans rfl rfl
theorem vs_unOp (op: UnOp): vcStep P T ⟨dst,.unOp op t a,ty,pos,af,gd⟩ s h K = prK T (.unOp op t a) (stepPure T s h (.unOp op t a)) dst s h K := Eq.trans rfl rfl
theorem vs_extract: vcStep P T ⟨dst,.extract a n,ty,pos,af,gd⟩ s h K = prK T (.extract a n) (stepPure T s h (.extract a n)) dst s h K := Eq.trans rfl rfl
theorem vs_build (ps: Array (Nat × Operand)): vcStep P T ⟨dst,.build t ps,ty,pos,af,gd⟩ s h K = prK T (.build t ps) (stepPure T s h (.build t ps)) dst s h K := Eq.trans rfl rfl
theorem vs_makeFunc (f: Fn) (xs ys: Array Operand): vcStep P T ⟨dst,.makeFunc f xs ys,ty,pos,af,gd⟩ s h K = prK T (.makeFunc f xs ys) (stepPure T s h (.makeFunc f xs ys)) dst s h K := Eq.trans rfl rfl
theorem vs_slice (lo hi mx: Option Operand): vcStep P T ⟨dst,.slice t a lo hi mx,ty,pos,af,gd⟩ s h K = prK T (.slice t a lo hi mx) (stepPure T s h (.slice t a lo hi mx)) dst s h K := Eq.trans rfl rfl
theorem vs_convert: vcStep P T ⟨dst,.convert t u a,ty,pos,af,gd⟩ s h K = prK T (.convert t u a) (stepPure T s h (.convert t u a)) dst s h K := Eq.trans rfl rfl
theorem vs_nilCheck: vcStep P T ⟨dst,.nilCheck a,ty,pos,af,gd⟩ s h K = prK T (.nilCheck a) (stepPure T s h (.nilCheck a)) dst s h K := Eq.trans rfl rfl
theorem vs_box: vcStep P T ⟨dst,.box t a,ty,pos,af,gd⟩ s h K = hrK (stepHeap T s h (.box t a)) dst s K := Eq.trans rfl rfl
theorem vs_alloc: vcStep P T ⟨dst,.alloc t,ty,pos,af,gd⟩ s h K = hrK (stepHeap T s h (.alloc t)) dst s K := Eq.trans rfl rfl
theorem vs_store: vcStep P T ⟨dst,.store t a b,ty,pos,af,gd⟩ s h K = hrK (stepHeap T s h (.store t a b)) dst s K := Eq.trans rfl rfl
theorem vs_buildSlice (ps: Array (Nat × Operand)): vcStep P T ⟨dst,.buildSlice t n ps,ty,pos,af,gd⟩ s h K = hrK (stepHeap T s h (.buildSlice t n ps)) dst s K := Eq.trans rfl rfl
theorem vs_makeSlice: vcStep P T ⟨dst,.makeSlice t a b,ty,pos,af,gd⟩ s h K = hrK (stepHeap T s h (.makeSlice t a b)) dst s K := Eq.trans rfl rfl
theorem vs_call (args: Array Operand) (ts: Array TypeId): vcStep P T ⟨dst,.call { callee := .value a,args := args,argTypes := ts },ty,pos,af,gd⟩ s h K = callK P (opd s a) (args.toList.map (opd s)) dst s h K := by
 simp only [vcStep,callK]
 generalize opd s a = v
 split
 ·
  rfl
 ·
  rfl
 ·
  split <;> first | rfl | simp_all
theorem callK_yield (l: Nat) (args: List AV): callK P (.fn (.yield l) [] []) args dst s h K = YCall P l args h (CallK dst s K) := Eq.trans rfl rfl
theorem vs_len (args: Array Operand) (ts: Array TypeId): vcStep P T ⟨dst,.call { callee := .builtin .len,args := args,argTypes := ts },ty,pos,af,gd⟩ s h K = prK T (.call { callee := .builtin .len,args := args,argTypes := ts }) (stepPure T s h (.call { callee := .builtin .len,args := args,argTypes := ts })) dst s h K := Eq.trans rfl rfl
theorem vs_min (args: Array Operand) (ts: Array TypeId): vcStep P T ⟨dst,.call { callee := .builtin .min,args := args,argTypes := ts },ty,pos,af,gd⟩ s h K = prK T (.call { callee := .builtin .min,args := args,argTypes := ts }) (stepPure T s h (.call { callee := .builtin .min,args := args,argTypes := ts })) dst s h K := Eq.trans rfl rfl
theorem vs_max (args: Array Operand) (ts: Array TypeId): vcStep P T ⟨dst,.call { callee := .builtin .max,args := args,argTypes := ts },ty,pos,af,gd⟩ s h K = prK T (.call { callee := .builtin .max,args := args,argTypes := ts }) (stepPure T s h (.call { callee := .builtin .max,args := args,argTypes := ts })) dst s h K := Eq.trans rfl rfl
theorem vs_append (args: Array Operand) (ts: Array TypeId): vcStep P T ⟨dst,.call { callee := .builtin .append,args := args,argTypes := ts },ty,pos,af,gd⟩ s h K = hrK (stepHeap T s h (.call { callee := .builtin .append,args := args,argTypes := ts })) dst s K := Eq.trans rfl rfl
theorem vs_range: vcStep P T ⟨dst,.range t a,ty,pos,af,gd⟩ s h K = hrK (stepHeap T s h (.range t a)) dst s K := Eq.trans rfl rfl
theorem vs_next (q: Bool): vcStep P T ⟨dst,.next a q,ty,pos,af,gd⟩ s h K = hrK (stepHeap T s h (.next a q)) dst s K := Eq.trans rfl rfl
theorem vs_lookup (ok: Bool): vcStep P T ⟨dst,.lookup t a b ok,ty,pos,af,gd⟩ s h K = hrK (stepHeap T s h (.lookup t a b ok)) dst s K := Eq.trans rfl rfl
theorem vs_makeMap (r: Option Operand): vcStep P T ⟨dst,.makeMap t r,ty,pos,af,gd⟩ s h K = hrK (stepHeap T s h (.makeMap t r)) dst s K := Eq.trans rfl rfl
theorem vs_mapUpdate (v: Operand): vcStep P T ⟨dst,.mapUpdate t a b v,ty,pos,af,gd⟩ s h K = hrK (stepHeap T s h (.mapUpdate t a b v)) dst s K := Eq.trans rfl rfl
theorem vs_delete (args: Array Operand) (ts: Array TypeId): vcStep P T ⟨dst,.call { callee := .builtin .delete,args := args,argTypes := ts },ty,pos,af,gd⟩ s h K = hrK (stepHeap T s h (.call { callee := .builtin .delete,args := args,argTypes := ts })) dst s K := Eq.trans rfl rfl
end steps
section draws
variable (h0: List Blk) (t u: TypeId) (a b d: Operand) (n: Nat)
theorem vc_draw (id: Nat) (l: List Oper): vc P T (.region id l.toArray true) Q s h = DrawK P T l.toArray s h (Q .normal) := Eq.trans rfl rfl
theorem vqOps_nil: vqOps P T ops h0 [] s h K = K s h := Eq.trans rfl rfl
theorem vqOps_cons: vqOps P T ops h0 (o :: rest) s h K = vqGuard P T ops h0 o s h (QOpsK P T ops h0 rest K) := Eq.trans rfl rfl
theorem QOpsK_eq: QOpsK P T ops h0 rest K s h = vqOps P T ops h0 rest s h K := Eq.trans rfl rfl
theorem vqGuard_none (op: Op): vqGuard P T ops h0 ⟨dst,op,ty,pos,af,none⟩ s h K = vqStep P T h0 ⟨dst,op,ty,pos,af,none⟩ s h K := Eq.trans rfl rfl
theorem vqGuard_some (op: Op) (j: Nat) (want: Bool): vqGuard P T ops h0 ⟨dst,op,ty,pos,af,some (j,want)⟩ s h K = gqsK P T h0 ⟨dst,op,ty,pos,af,some (j,want)⟩ want (guardSlot ops j) s h K := Eq.trans rfl rfl
theorem vTree_nil: vTree P T ops K .nil s h = K s h := Eq.trans rfl rfl
theorem vTree_one (k: Nat) (t: Tr): vTree P T ops K (.one k t) s h = vgAt P T ops ops[k]? s h (vTree P T ops K t) := Eq.trans rfl rfl
theorem vTree_two (k l: Nat) (t u: Tr): vTree P T ops K (.two k t l u) s h = (vgAt P T ops ops[k]? s h (vTree P T ops K t) ∧ vgAt P T ops ops[l]? s h (vTree P T ops K u)) := Eq.trans rfl rfl
theorem vgAt_some (o: Oper): vgAt P T ops (some o) s h K = vcGuard P T ops o s h K := Eq.trans rfl rfl
theorem vqTree_nil: vqTree P T ops h0 K .nil s h = K s h := Eq.trans rfl rfl
theorem vqTree_one (k: Nat) (t: Tr): vqTree P T ops h0 K (.one k t) s h = vqAt P T ops h0 ops[k]? s h (vqTree P T ops h0 K t) := Eq.trans rfl rfl
theorem vqTree_two (k l: Nat) (t u: Tr): vqTree P T ops h0 K (.two k t l u) s h = (vqAt P T ops h0 ops[k]? s h (vqTree P T ops h0 K t) ∧ vqAt P T ops h0 ops[l]? s h (vqTree P T ops h0 K u)) := Eq.trans rfl rfl
theorem vqAt_some (o: Oper): vqAt P T ops h0 (some o) s h K = vqGuard P T ops h0 o s h K := Eq.trans rfl rfl
def MK2 (h0: List Blk) (K: List AV → List Blk → Prop) (s: List AV) (h: List Blk): Prop := MonoH h0 h ∧ K s h
theorem MK2_eq: MK2 h0 K s h = (MonoH h0 h ∧ K s h) := Eq.trans rfl rfl
theorem vmTree_nil: vmTree P T ops h0 K .nil s h = K s h := Eq.trans rfl rfl
theorem vmTree_pur (k: Nat) (t: TrM): vmTree P T ops h0 K (.pur k t) s h = vqAt P T ops h0 ops[k]? s h (vmTree P T ops h0 K t) := Eq.trans rfl rfl
theorem vmTree_eff (k: Nat) (t: TrM): vmTree P T ops h0 K (.eff k t) s h = vgAt P T ops ops[k]? s h (MK2 h0 (vmTree P T ops h0 K t)) := Eq.trans rfl rfl
theorem vmTree_two (k l: Nat) (t u: TrM): vmTree P T ops h0 K (.two k t l u) s h = (vgAt P T ops ops[k]? s h (MK2 h0 (vmTree P T ops h0 K t)) ∧ vgAt P T ops ops[l]? s h (MK2 h0 (vmTree P T ops h0 K u))) := Eq.trans rfl rfl
theorem gqsK_some (want: Bool) (d: Nat): gqsK P T h0 o want (some d) s h K = gqK P T h0 o want d (s.getD d (.tup [])) s h K := Eq.trans rfl rfl
theorem gqK_tt (d: Nat): gqK P T h0 o true d (.raw (.bool true)) s h K = vqStep P T h0 o (s.set d (.raw (.bool true))) h K := Eq.trans rfl rfl
theorem gqK_tf (d: Nat): gqK P T h0 o true d (.raw (.bool false)) s h K = K (put (s.set d (.raw (.bool false))) o.dst (.tup [])) h := Eq.trans rfl rfl
theorem gqK_ft (d: Nat): gqK P T h0 o false d (.raw (.bool true)) s h K = K (put (s.set d (.raw (.bool true))) o.dst (.tup [])) h := Eq.trans rfl rfl
theorem gqK_ff (d: Nat): gqK P T h0 o false d (.raw (.bool false)) s h K = vqStep P T h0 o (s.set d (.raw (.bool false))) h K := Eq.trans rfl rfl
theorem gqK_tup (want: Bool) (d: Nat) (cs: List AV): gqK P T h0 o want d (.tup cs) s h K = K (put s o.dst (.tup [])) h := Eq.trans rfl rfl
theorem qrK_ok (v: AV): qrK (.ok v) dst s h K = K (put s dst v) h := Eq.trans rfl rfl
theorem qrK_side (p: Prop) (v: AV): qrK (.side p v) dst s h K = (p ∧ K (put s dst v) h) := Eq.trans rfl rfl
theorem qrK_fact (p: Prop) (v: AV): qrK (.fact p v) dst s h K = K (put s dst v) h := Eq.trans rfl rfl
theorem qrK_elem (i: Int) (es: List AV) (f: AV → AV): qrK (.elem i es f) dst s h K = ElemK i es f dst s h K := Eq.trans rfl rfl
theorem heK_ok (v: AV) (g: List Blk): heK h0 (.ok v g) dst s K = (MonoH h0 g ∧ K (put s dst v) g) := Eq.trans rfl rfl
theorem heK_side (p: Prop) (v: AV) (g: List Blk): heK h0 (.side p v g) dst s K = (p ∧ MonoH h0 g ∧ K (put s dst v) g) := Eq.trans rfl rfl
theorem qcallK_fn (g: FuncId) (first args captured: List AV): qcallK P h0 (.fn (.func g) first captured) args dst s h K = pcK P h0 g (first ++ args ++ captured) dst s h K := Eq.trans rfl rfl
theorem MonoH_nil (g: List Blk): MonoH [] g = True := Eq.trans rfl rfl
theorem MonoH_cells (t u: TypeId) (cs ds: List AV) (x y: List Blk): MonoH (.cells t cs :: x) (.cells u ds :: y) = (cs = ds ∧ MonoH x y) := Eq.trans rfl rfl
theorem MonoH_tok (e sz m: Nat) (y: Blk) (x z: List Blk): MonoH (.tok e sz m :: x) (y :: z) = MonoH x z := by simp [MonoH]
theorem MonoH_cut (e sz m: Nat) (y: Blk) (x z: List Blk): MonoH (.cut e sz m :: x) (y :: z) = MonoH x z := by simp [MonoH]
theorem MonoH_mp (kk: KK) (n: Nat) (f: Value → Option AV) (y: Blk) (x z: List Blk): MonoH (.mp kk n f :: x) (y :: z) = MonoH x z := by simp [MonoH]
theorem MonoH_own (e sz: Nat) (es: List AV) (y: Blk) (x z: List Blk): MonoH (.own e sz es :: x) (y :: z) = MonoH x z := by simp [MonoH]
theorem MonoH_dead (y: Blk) (x z: List Blk): MonoH (.dead :: x) (y :: z) = MonoH x z := by simp [MonoH]
theorem qs_move: vqStep P T h0 ⟨dst,.move a,ty,pos,af,gd⟩ s h K = K (put s dst (opd s a)) h := Eq.trans rfl rfl
theorem qs_assign: vqStep P T h0 ⟨dst,.assign a,ty,pos,af,gd⟩ s h K = K (put s dst (opd s a)) h := Eq.trans rfl rfl
theorem qs_pick: vqStep P T h0 ⟨dst,.pick d a b,ty,pos,af,gd⟩ s h K = qrK (stepPure T s h0 (.pick d a b)) dst s h K := Eq.trans rfl rfl
theorem qs_load: vqStep P T h0 ⟨dst,.load t a,ty,pos,af,gd⟩ s h K = qrK (stepPure T s h0 (.load t a)) dst s h K := Eq.trans rfl rfl
theorem qs_fieldAddr: vqStep P T h0 ⟨dst,.fieldAddr t a n,ty,pos,af,gd⟩ s h K = qrK (stepPure T s h0 (.fieldAddr t a n)) dst s h K := Eq.trans rfl rfl
theorem qs_field: vqStep P T h0 ⟨dst,.field t a n,ty,pos,af,gd⟩ s h K = qrK (stepPure T s h0 (.field t a n)) dst s h K := Eq.trans rfl rfl
theorem qs_indexAddr: vqStep P T h0 ⟨dst,.indexAddr t a b,ty,pos,af,gd⟩ s h K = qrK (stepPure T s h0 (.indexAddr t a b)) dst s h K := Eq.trans rfl rfl
theorem qs_index: vqStep P T h0 ⟨dst,.index t a b,ty,pos,af,gd⟩ s h K = qrK (stepPure T s h0 (.index t a b)) dst s h K := Eq.trans rfl rfl
theorem qs_binOp (op: BinOp): vqStep P T h0 ⟨dst,.binOp op t a b u,ty,pos,af,gd⟩ s h K = qrK (stepPure T s h0 (.binOp op t a b u)) dst s h K := Eq.trans rfl rfl
theorem qs_unOp (op: UnOp): vqStep P T h0 ⟨dst,.unOp op t a,ty,pos,af,gd⟩ s h K = qrK (stepPure T s h0 (.unOp op t a)) dst s h K := Eq.trans rfl rfl
theorem qs_extract: vqStep P T h0 ⟨dst,.extract a n,ty,pos,af,gd⟩ s h K = qrK (stepPure T s h0 (.extract a n)) dst s h K := Eq.trans rfl rfl
theorem qs_build (ps: Array (Nat × Operand)): vqStep P T h0 ⟨dst,.build t ps,ty,pos,af,gd⟩ s h K = qrK (stepPure T s h0 (.build t ps)) dst s h K := Eq.trans rfl rfl
theorem qs_makeFunc (f: Fn) (xs ys: Array Operand): vqStep P T h0 ⟨dst,.makeFunc f xs ys,ty,pos,af,gd⟩ s h K = qrK (stepPure T s h0 (.makeFunc f xs ys)) dst s h K := Eq.trans rfl rfl
theorem qs_slice (lo hi: Option Operand): vqStep P T h0 ⟨dst,.slice t a lo hi none,ty,pos,af,gd⟩ s h K = qrK (stepPure T s h0 (.slice t a lo hi none)) dst s h K := Eq.trans rfl rfl
theorem qs_slice3 (lo hi: Option Operand) (m: Operand): vqStep P T h0 ⟨dst,.slice t a lo hi (some m),ty,pos,af,gd⟩ s h K = heK h0 (stepHeap T s h (.slice t a lo hi (some m))) dst s K := Eq.trans rfl rfl
theorem qs_convert: vqStep P T h0 ⟨dst,.convert t u a,ty,pos,af,gd⟩ s h K = qrK (stepPure T s h0 (.convert t u a)) dst s h K := Eq.trans rfl rfl
theorem qs_nilCheck: vqStep P T h0 ⟨dst,.nilCheck a,ty,pos,af,gd⟩ s h K = qrK (stepPure T s h0 (.nilCheck a)) dst s h K := Eq.trans rfl rfl
theorem qs_box: vqStep P T h0 ⟨dst,.box t a,ty,pos,af,gd⟩ s h K = heK h0 (stepHeap T s h (.box t a)) dst s K := Eq.trans rfl rfl
theorem qs_alloc: vqStep P T h0 ⟨dst,.alloc t,ty,pos,af,gd⟩ s h K = heK h0 (stepHeap T s h (.alloc t)) dst s K := Eq.trans rfl rfl
theorem qs_store: vqStep P T h0 ⟨dst,.store t a b,ty,pos,af,gd⟩ s h K = heK h0 (stepHeap T s h (.store t a b)) dst s K := Eq.trans rfl rfl
theorem qs_buildSlice (ps: Array (Nat × Operand)): vqStep P T h0 ⟨dst,.buildSlice t n ps,ty,pos,af,gd⟩ s h K = heK h0 (stepHeap T s h (.buildSlice t n ps)) dst s K := Eq.trans rfl rfl
theorem qs_mapUpdate {m: Operand}: vqStep P T h0 ⟨dst,.mapUpdate t m a b,ty,pos,af,gd⟩ s h K = heK h0 (stepHeap T s h (.mapUpdate t m a b)) dst s K := Eq.trans rfl rfl
theorem qs_makeSlice: vqStep P T h0 ⟨dst,.makeSlice t a b,ty,pos,af,gd⟩ s h K = heK h0 (stepHeap T s h (.makeSlice t a b)) dst s K := Eq.trans rfl rfl
theorem qs_len (args: Array Operand) (ts: Array TypeId): vqStep P T h0 ⟨dst,.call { callee := .builtin .len,args := args,argTypes := ts },ty,pos,af,gd⟩ s h K = qrK (stepPure T s h0 (.call { callee := .builtin .len,args := args,argTypes := ts })) dst s h K := Eq.trans rfl rfl
theorem qs_min (args: Array Operand) (ts: Array TypeId): vqStep P T h0 ⟨dst,.call { callee := .builtin .min,args := args,argTypes := ts },ty,pos,af,gd⟩ s h K = qrK (stepPure T s h0 (.call { callee := .builtin .min,args := args,argTypes := ts })) dst s h K := Eq.trans rfl rfl
theorem qs_max (args: Array Operand) (ts: Array TypeId): vqStep P T h0 ⟨dst,.call { callee := .builtin .max,args := args,argTypes := ts },ty,pos,af,gd⟩ s h K = qrK (stepPure T s h0 (.call { callee := .builtin .max,args := args,argTypes := ts })) dst s h K := Eq.trans rfl rfl
theorem qs_append (args: Array Operand) (ts: Array TypeId): vqStep P T h0 ⟨dst,.call { callee := .builtin .append,args := args,argTypes := ts },ty,pos,af,gd⟩ s h K = heK h0 (stepHeap T s h (.call { callee := .builtin .append,args := args,argTypes := ts })) dst s K := Eq.trans rfl rfl
theorem qs_call (args: Array Operand) (ts: Array TypeId): vqStep P T h0 ⟨dst,.call { callee := .value a,args := args,argTypes := ts },ty,pos,af,gd⟩ s h K = qcallK P h0 (opd s a) (args.toList.map (opd s)) dst s h K := by
 cases h: opd s a <;> simp only [vqStep,qcallK,pcK,h] <;> first | rfl | (split <;> first | rfl | (split <;> first | rfl | simp_all))
end draws
theorem drawK {l: List Oper} (hm: P.follows .mixedOrders = true) (hl: lexE l.toArray = true) (hv: vqOps P T l.toArray h l s h K): DrawK P T l.toArray s h K := ⟨hm,.inl ⟨hl,h,MonoH.refl h,hv⟩⟩
theorem drawC {l: List Oper} (ks: List Nat) (hm: P.follows .mixedOrders = true) (hl: lexE l.toArray = true) (hv: vqOps P T l.toArray (cutH ks h) l s h K): DrawK P T l.toArray s h K := ⟨hm,.inl ⟨hl,_,MonoH.cuts ks h,hv⟩⟩
theorem drawZ {l: List Oper} {o: Oper} (hm: P.follows .mixedOrders = true) (hl: lexZ l.toArray (l.length - 1) = true) (ho: l.getLast? = some o) (hv: vqOps P T l.toArray h l.dropLast s h fun s' h' => vcGuard P T l.toArray o s' h' K): DrawK P T l.toArray s h K := by
 obtain ⟨l',rfl⟩ := List.getLast?_eq_some_iff.1 ho
 rw [List.dropLast_concat] at hv
 exact ⟨hm,.inr (.inl ⟨l',o,rfl,by simpa using hl,hv⟩)⟩
theorem drawV {l: List Oper} (t: Tr) (hm: P.follows .mixedOrders = true) (hl: (lexV l.toArray t (Array.replicate l.toArray.size false) && decide (t.len = l.toArray.size)) = true) (hv: vTree P T l.toArray K t s h): DrawK P T l.toArray s h K := by
 simp only [Bool.and_eq_true,decide_eq_true_eq] at hl
 exact ⟨hm,.inr (.inr (.inr (.inl ⟨t,hl.1,hl.2,hv⟩)))⟩
theorem drawM {l: List Oper} (ks: List Nat) (t: TrM) (hm: P.follows .mixedOrders = true) (hl: (lexM l.toArray t (Array.replicate l.toArray.size false) && decide (t.len = l.toArray.size)) = true) (hv: vmTree P T l.toArray (cutH ks h) K t s h): DrawK P T l.toArray s h K := by
 simp only [Bool.and_eq_true,decide_eq_true_eq] at hl
 exact ⟨hm,.inr (.inr (.inr (.inr ⟨t,hl.1,hl.2,_,MonoH.cuts ks h,hv⟩)))⟩
theorem pcK_of {h0: List Blk} {g: FuncId} {args: List AV} {v: AV} (hp: PCall P g args v) (hk: K (put s dst v) h): pcK P h0 g args dst s h K := ⟨v,hp.toR,hk⟩
theorem pcK_ofW {h0: List Blk} {g: FuncId} {azs args: List AV} {v: AV} (hp: PCall P g args v) (hw: WeakL azs args) (hk: K (put s dst v) h): pcK P h0 g azs dst s h K := ⟨v,fun _ _ _ hk => hp.callW hw hk,hk⟩
theorem pcK_ofR {h0: List Blk} {g: FuncId} {args: List AV} {v: AV} (hp: RCall P h0 g args v) (hk: K (put s dst v) h): pcK P h0 g args dst s h K := ⟨v,hp,hk⟩
theorem gqK_split {h0: List Blk} {b want: Bool} {d: Nat} (ht: b = true → gqK P T h0 o want d (.raw (.bool true)) s h K) (hf: b = false → gqK P T h0 o want d (.raw (.bool false)) s h K): gqK P T h0 o want d (.raw (.bool b)) s h K := by
 cases b with
 | true => exact ht rfl
 | false => exact hf rfl
theorem gqK_dec {h0: List Blk} {p: Prop} [Decidable p] {want: Bool} {d: Nat} (ht: p → gqK P T h0 o want d (.raw (.bool true)) s h K) (hf: ¬ p → gqK P T h0 o want d (.raw (.bool false)) s h K): gqK P T h0 o want d (.raw (.bool (decide p))) s h K :=
 gqK_split (fun hb => ht (of_decide_eq_true hb)) (fun hb => hf (of_decide_eq_false hb))
theorem brK_split {b: Bool} {v: Operand} (ht: b = true → vc P T x Q (condSet s v true) h) (hf: b = false → vc P T y Q (condSet s v false) h): brK P T v (.raw (.bool b)) x y Q s h := by
 cases b with
 | true => exact ht rfl
 | false => exact hf rfl
theorem gK_split {b want: Bool} {d: Nat} (ht: b = true → gK P T o want d (.raw (.bool true)) s h K) (hf: b = false → gK P T o want d (.raw (.bool false)) s h K): gK P T o want d (.raw (.bool b)) s h K := by
 cases b with
 | true => exact ht rfl
 | false => exact hf rfl
theorem brK_dec {p: Prop} [Decidable p] {v: Operand} (ht: p → vc P T x Q (condSet s v true) h) (hf: ¬ p → vc P T y Q (condSet s v false) h): brK P T v (.raw (.bool (decide p))) x y Q s h :=
 brK_split (fun hb => ht (of_decide_eq_true hb)) (fun hb => hf (of_decide_eq_false hb))
theorem brK_any {b: Bool} {v: Operand} (ht: vc P T x Q (condSet s v true) h) (hf: vc P T y Q (condSet s v false) h): brK P T v (.raw (.bool b)) x y Q s h := brK_split (fun _ => ht) (fun _ => hf)
theorem gK_any {b want: Bool} {d: Nat} (ht: gK P T o want d (.raw (.bool true)) s h K) (hf: gK P T o want d (.raw (.bool false)) s h K): gK P T o want d (.raw (.bool b)) s h K := gK_split (fun _ => ht) (fun _ => hf)
theorem gK_dec {p: Prop} [Decidable p] {want: Bool} {d: Nat} (ht: p → gK P T o want d (.raw (.bool true)) s h K) (hf: ¬ p → gK P T o want d (.raw (.bool false)) s h K): gK P T o want d (.raw (.bool (decide p))) s h K :=
 gK_split (fun hb => ht (of_decide_eq_true hb)) (fun hb => hf (of_decide_eq_false hb))
theorem elemK {i: Int} {es: List AV} {f: AV → AV} (v: AV) (h0: 0 ≤ i) (hx: es[i.toNat]? = some v) (hk: K (put s dst (f v)) h): ElemK i es f dst s h K := ⟨v,⟨h0,hx⟩,hk⟩
theorem vcStep_mono {K K': List AV → List Blk → Prop} (hk: ∀ s h,K s h → K' s h) (o: Oper) (hv: vcStep P T o s h K): vcStep P T o s h K' := by
 unfold vcStep at *
 split at hv
 ·
  split at hv
  ·
   exact hv.mono fun r h' hK => hk _ _ hK
  ·
   exact hv.mono fun r h' hK => hk _ _ hK
  ·
   exact hv.elim
 ·
  split at hv
  ·
   exact hk _ _ hv
  ·
   exact ⟨hv.1,hk _ _ hv.2⟩
  ·
   exact fun hp => hk _ _ (hv hp)
  ·
   obtain ⟨x,h1,h2⟩ := hv
   exact ⟨x,h1,hk _ _ h2⟩
  ·
   split at hv
   ·
    exact hk _ _ hv
   ·
    exact ⟨hv.1,hk _ _ hv.2⟩
   ·
    exact hv.elim
theorem vcGuard_mono {K K': List AV → List Blk → Prop} (hk: ∀ s h,K s h → K' s h) (o: Oper) (hv: vcGuard P T ops o s h K): vcGuard P T ops o s h K' := by
 unfold vcGuard at *
 split at hv
 ·
  exact vcStep_mono hk o hv
 ·
  split at hv
  ·
   exact hv.elim
  ·
   split at hv
   ·
    split at hv
    ·
     split at hv
     ·
      exact vcStep_mono hk o hv
     ·
      exact hk _ _ hv
    ·
     split at hv
     ·
      exact hk _ _ hv
     ·
      exact vcStep_mono hk o hv
   ·
    exact hk _ _ hv
   ·
    exact hv.elim
theorem vcOps_mono: ∀ (l: List Oper) {K K': List AV → List Blk → Prop} {s: List AV} {h: List Blk},(∀ s h,K s h → K' s h) → vcOps P T ops l s h K → vcOps P T ops l s h K'
 | [],_,_,_,_,hk,hv => hk _ _ hv
 | o :: rest,_,_,_,_,hk,hv => vcGuard_mono (fun _ _ hv => vcOps_mono rest hk hv) o hv
theorem LoopN_mono {body: Post → List AV → List Blk → Prop} (hb: ∀ (Q Q': Post) (s: List AV) (h: List Blk),(∀ e s h,Q e s h → Q' e s h) → body Q s h → body Q' s h) {Q Q': Post} (hq: ∀ e s h,Q e s h → Q' e s h): ∀ {n m: Nat} {s: List AV} {h: List Blk},n ≤ m → LoopN body Q n s h → LoopN body Q' m s h
 | 0,_,_,_,_,hl => hl.elim
 | n + 1,0,_,_,hle,_ => by omega
 | n + 1,m + 1,s,h,hle,hl => by
  refine hb _ _ _ _ ?_ hl
  intro e s h hx
  cases e with
  | normal => exact LoopN_mono hb hq (by omega) hx
  | exit i => exact hq _ _ _ hx
  | ret => exact hq _ _ _ hx
  | goto l => exact hq _ _ _ hx
theorem loopEnd_mono {Q Q': Post} (hq: ∀ e s h,Q e s h → Q' e s h) {s: List AV} {k: Nat} {h: List Blk} (hv: loopEnd Q s k h): loopEnd Q' s k h := by
 unfold loopEnd at *
 split at hv
 ·
  exact hq _ _ _ hv
 ·
  exact hq _ _ _ hv
 ·
  exact hq _ _ _ hv
 ·
  exact hv.elim
theorem RangeK_mono {Q Q': Post} (hq: ∀ e s h,Q e s h → Q' e s h) {g: Operand} {ps: Array Tmp} {x y: Code} {s: List AV} {h: List Blk} (hv: RangeK P g ps x y Q s h): RangeK P g ps x y Q' s h := by
 unfold RangeK at *
 split at hv
 ·
  exact fun l => ACall.mono (fun _ _ k => loopEnd_mono hq k) (hv l)
 ·
  exact hv.elim
theorem vc_mono (c: Code): ∀ {Q Q': Post} {s: List AV} {h: List Blk},(∀ e s h,Q e s h → Q' e s h) → vc P T c Q s h → vc P T c Q' s h := by
 induction c with
 | skip => intro Q Q' s h hq hv; exact hq _ _ _ hv
 | region id ops draw =>
  intro Q Q' s h hq hv
  cases draw with
  | true => exact DrawK.mono (fun s h hx => hq _ _ _ hx) hv
  | false => exact vcOps_mono _ (fun s h hx => hq _ _ _ hx) hv
 | seq x y ihx ihy =>
  intro Q Q' s h hq hv
  refine ihx ?_ hv
  intro e s h hx
  cases e with
  | normal => exact ihy hq hx
  | exit i => exact hq _ _ _ hx
  | ret => exact hq _ _ _ hx
  | goto l => exact hq _ _ _ hx
 | cond c x y ihx ihy =>
  intro Q Q' s h hq hv
  simp only [vc] at hv ⊢
  split at hv
  ·
   split at hv
   ·
    exact ihx hq hv
   ·
    exact ihy hq hv
  ·
   exact hv.elim
 | block id c ih =>
  intro Q Q' s h hq hv
  refine ih ?_ hv
  intro e s h hx
  cases e with
  | normal => exact hq _ _ _ hx
  | exit i =>
   dsimp only at hx ⊢
   split at hx
   ·
    exact hq _ _ _ hx
   ·
    exact hq _ _ _ hx
  | ret => exact hq _ _ _ hx
  | goto l => exact hq _ _ _ hx
 | loop c ih =>
  intro Q Q' s h hq hv
  obtain ⟨s0,h0,hg,n,hn⟩ := hv
  exact ⟨s0,h0,hg,n,LoopN_mono (body := fun Q' s h => vc P T c Q' s h) (fun _ _ _ _ h => ih h) hq (Nat.le_refl n) hn⟩
 | exit id => intro Q Q' s h hq hv; exact hq _ _ _ hv
 | ret => intro Q Q' s h hq hv; exact hq _ _ _ hv
 | label l => intro Q Q' s h hq hv; exact hq _ _ _ hv
 | goto l => intro Q Q' s h hq hv; exact hq _ _ _ hv
 | scope c ih =>
  intro Q Q' s h hq hv
  refine ih ?_ hv
  intro e s h hx
  cases e with
  | normal => exact hq _ _ _ hx
  | exit i => exact hq _ _ _ hx
  | ret => exact hq _ _ _ hx
  | goto l => exact hx.elim
 | rangeFunc f ps x y _ _ => intro Q Q' s h hq hv; exact RangeK_mono hq hv
 | refuse why => intro Q Q' s h hq hv; exact hv.elim
def LoopK (I: Nat → List AV → List Blk → Prop) (n: Nat) (Q: Post): Post := fun e s' h' => match e with
 | .normal => ∃ m,m < n ∧ I m s' h'
 | .exit i => Q (.exit i) s' h'
 | .ret => Q .ret s' h'
 | .goto l => Q (.goto l) s' h'
def LoopGo (I: Nat → List AV → List Blk → Prop) (n: Nat) (s: List AV) (h: List Blk): Prop := ∃ m,m < n ∧ I m s h
theorem LoopK_normal (I: Nat → List AV → List Blk → Prop) (n: Nat): LoopK I n Q .normal s h = LoopGo I n s h := Eq.trans rfl rfl
theorem loopGo {I: Nat → List AV → List Blk → Prop} {n: Nat} (m: Nat) (hm: m < n) (hi: I m s h): LoopGo I n s h := ⟨m,hm,hi⟩
theorem LoopK_exit (I: Nat → List AV → List Blk → Prop) (n i: Nat): LoopK I n Q (.exit i) s h = Q (.exit i) s h := Eq.trans rfl rfl
theorem LoopK_ret (I: Nat → List AV → List Blk → Prop) (n: Nat): LoopK I n Q .ret s h = Q .ret s h := Eq.trans rfl rfl
theorem LoopK_goto (I: Nat → List AV → List Blk → Prop) (n l: Nat): LoopK I n Q (.goto l) s h = Q (.goto l) s h := Eq.trans rfl rfl
theorem loop_rule (I: Nat → List AV → List Blk → Prop) (n0: Nat) (h0: I n0 s h) (hstep: ∀ n s h,I n s h → vc P T c (LoopK I n Q) s h): vc P T (.loop c) Q s h := by
 have key: ∀ n s h,I n s h → LoopN (fun Q' s h => vc P T c Q' s h) Q (n + 1) s h := by
  intro n
  induction n using Nat.strongRecOn with
  | _ n ih =>
   intro s h hi
   refine vc_mono c ?_ (hstep n s h hi)
   intro e s' h' hx
   cases e with
   | normal =>
    obtain ⟨m,hm,hi'⟩ := hx
    exact LoopN_mono (body := fun Q' s h => vc P T c Q' s h) (fun _ _ _ _ h => vc_mono c h) (fun _ _ _ h => h) (by omega: m + 1 ≤ n) (ih m hm s' h' hi')
   | exit i => exact hx
   | ret => exact hx
   | goto l => exact hx
 exact ⟨s,h,Ghost.refl s h,n0 + 1,key n0 s h h0⟩
def Vis (N: Nat) (vis: List (Nat × AV)) (s: List AV): Prop := s.length = N ∧ ∀ p ∈ vis,s[p.1]? = some p.2
def slot (vis: List (Nat × AV)) (j: Nat → AV) (t: Nat): AV :=
 match vis with
 | [] => j t
 | (u,v) :: r => match Nat.beq u t with
  | true => v
  | false => slot r j t
def tmpl: Nat → Nat → List (Nat × AV) → (Nat → AV) → List AV
 | 0,_,_,_ => []
 | n + 1,k,vis,j => slot vis j k :: tmpl n (k + 1) vis j
theorem slot_eq {vis: List (Nat × AV)} {s: List AV} (hv: ∀ p ∈ vis,s[p.1]? = some p.2) {t: Nat} (ht: t < s.length): slot vis (fun t => s.getD t (.tup [])) t = s[t] := by
 induction vis with
 | nil => simp [slot,List.getD_eq_getElem?_getD,List.getElem?_eq_getElem ht]
 | cons p r ih =>
  obtain ⟨u,v⟩ := p
  simp only [slot]
  split
  ·
   rename_i hb
   have hb := Nat.eq_of_beq_eq_true hb
   subst hb
   have := hv (u,v) (by simp)
   simp only [List.getElem?_eq_getElem ht,Option.some.injEq] at this
   exact this.symm
  ·
   exact ih fun p hp => hv p (by simp [hp])
theorem tmpl_eq {vis: List (Nat × AV)} {s: List AV} (hv: ∀ p ∈ vis,s[p.1]? = some p.2): ∀ (n k: Nat),n + k = s.length → tmpl n k vis (fun t => s.getD t (.tup [])) = s.drop k
 | 0,k,hk => by simp [tmpl]; omega
 | n + 1,k,hk => by
  simp only [tmpl]
  rw [tmpl_eq hv n (k + 1) (by omega),slot_eq hv (by omega),← List.drop_eq_getElem_cons]
theorem Vis.out {N: Nat} {vis: List (Nat × AV)} {s: List AV} (hv: Vis N vis s): ∃ j,s = tmpl N 0 vis j :=
 ⟨fun t => s.getD t (.tup []),by rw [tmpl_eq hv.2 N 0 (by rw [hv.1]; rfl),List.drop_zero]⟩
theorem Vis.nil {N: Nat} {s: List AV} (h: s.length = N): Vis N [] s := ⟨h,by simp⟩
theorem Vis.cons {N: Nat} {vis: List (Nat × AV)} {s: List AV} {t: Nat} {v: AV} (h: s[t]? = some v) (hv: Vis N vis s): Vis N ((t,v) :: vis) s :=
 ⟨hv.1,by simpa using ⟨h,fun a b hab => hv.2 (a,b) hab⟩⟩
end
theorem cells_agg (cs: List AV): AV.cells (.agg cs) = cs := rfl
theorem cells_raw_agg (vs: Array Value): AV.cells (.raw (.agg vs)) = vs.toList.map .raw := rfl
theorem cells_int (k: IntKind) (n: Int): AV.cells (.raw (.int k n)) = [.raw (.int k n)] := rfl
theorem cells_bool (b: Bool): AV.cells (.raw (.bool b)) = [.raw (.bool b)] := rfl
theorem cells_string (b: ByteArray): AV.cells (.raw (.string b)) = [.raw (.string b)] := rfl
theorem cells_pointer (b: Option Addr): AV.cells (.raw (.pointer b)) = [.raw (.pointer b)] := rfl
theorem cells_slice (b: Option Addr) (m n: Nat): AV.cells (.raw (.slice b m n)) = [.raw (.slice b m n)] := rfl
theorem cells_rmap (b: Option Nat): AV.cells (.raw (.map b)) = [.raw (.map b)] := rfl
theorem cells_nilFunc: AV.cells (.raw .nilFunc) = [.raw .nilFunc] := rfl
theorem cells_nilIface: AV.cells (.raw .nilIface) = [.raw .nilIface] := rfl
theorem cells_lst (sz: Nat) (es: List AV) (k: Option Nat): AV.cells (.lst sz es k) = [.lst sz es k] := rfl
theorem cells_eptr (cs: List AV): AV.cells (.eptr cs) = [.eptr cs] := rfl
theorem cells_ptr (k off: Nat): AV.cells (.ptr k off) = [.ptr k off] := rfl
theorem cells_sl (sz k off len: Nat): AV.cells (.sl sz k off len) = [.sl sz k off len] := rfl
theorem cells_fn (f: Fn) (xs ys: List AV): AV.cells (.fn f xs ys) = [.fn f xs ys] := rfl
theorem cells_map (k: Nat): AV.cells (.map k) = [.map k] := rfl
theorem one_raw (v: Value): AV.one (.raw v) = v.oneCell' := rfl
theorem one_lst (sz: Nat) (es: List AV) (k: Option Nat): AV.one (.lst sz es k) = true := rfl
theorem one_eptr (cs: List AV): AV.one (.eptr cs) = true := rfl
theorem one_ptr (k off: Nat): AV.one (.ptr k off) = true := rfl
theorem one_sl (sz k off len: Nat): AV.one (.sl sz k off len) = true := rfl
theorem one_fn (f: Fn) (xs ys: List AV): AV.one (.fn f xs ys) = true := rfl
theorem one_map (k: Nat): AV.one (.map k) = true := rfl
theorem comps_tup (cs: List AV): AV.comps (.tup cs) = cs := rfl
attribute [go_sem] vc_draw vqOps_nil vqOps_cons QOpsK_eq vqGuard_none vqGuard_some gqsK_some gqK_tt gqK_tf gqK_ft gqK_ff gqK_tup qrK_ok qrK_side qrK_fact qrK_elem heK_ok heK_side qcallK_fn MonoH_nil MonoH_cells MonoH_tok MonoH_cut MonoH_dead MonoH_mp MonoH_own vTree_nil vTree_one vTree_two vgAt_some MK2_eq vmTree_nil vmTree_pur vmTree_eff vmTree_two vqTree_nil vqTree_one vqTree_two vqAt_some List.getElem?_toArray qs_mapUpdate qs_call qs_move qs_assign qs_pick qs_load qs_fieldAddr qs_field qs_indexAddr qs_index qs_binOp qs_unOp qs_extract qs_build qs_makeFunc qs_slice qs_slice3 qs_convert qs_nilCheck qs_box qs_alloc qs_store qs_buildSlice qs_makeSlice qs_len qs_min qs_max qs_append
theorem MonoH.app: ∀ (r x: List Blk),MonoH r (r ++ x)
 | [],_ => trivial
 | b :: r,x => ⟨by cases b <;> trivial,MonoH.app r x⟩
theorem MonoH_app (r x: List Blk): MonoH r (r ++ x) = True := eq_true (MonoH.app r x)
theorem MonoH_app2: ∀ (r x y: List Blk),MonoH (r ++ x) (r ++ y) = MonoH x y
 | [],_,_ => rfl
 | b :: r,x,y => by
  show ((match b with | .cells _ cs => (match b with | .cells _ cs' => cs = cs' | _ => False) | _ => True) ∧ MonoH (r ++ x) (r ++ y)) = _
  rw [MonoH_app2 r x y]
  cases b <;> simp
theorem MonoH_refl (r: List Blk): MonoH r r = True := eq_true (MonoH.refl r)
attribute [go_sem] cutH MonoH_app MonoH_app2 MonoH_refl
attribute [go_sem] u8sAV_map u8sAV_nil u8sAV_one
attribute [go_sem] vs_range vs_next nextV nextB vs_lookup vs_makeMap vs_mapUpdate vs_delete lookupAV storeAV deleteAV lenMapAV mapKK kkEq isKey AV.tupFree
attribute [go_sem] vc_rangeFunc rangeK_fn vc_skip vc_region vc_seq vc_cond vc_block vc_exit vc_ret vc_label vc_scope vc_goto SeqK_normal SeqK_exit SeqK_ret SeqK_goto BlockK_normal BlockK_ret BlockK_goto BlockK_same BlockK_other ScopeK_normal ScopeK_exit ScopeK_ret fin_normal fin_ret
 vcOps_nil vcOps_cons OpsK_eq CallK_eq vcGuard_none vcGuard_some gsK_some gK_tt gK_tf gK_ft gK_ff gK_tup brK_true brK_false condSet_tmp condSet_const prK_ok prK_side prK_fact prK_elem prK_bad hrK_ok hrK_side callK_fn callK_yield put_some put_none opd_tmp opd_const opd_func
 vs_move vs_assign vs_pick vs_load vs_fieldAddr vs_field vs_indexAddr vs_index vs_binOp vs_unOp vs_extract vs_build vs_makeFunc vs_slice vs_convert vs_nilCheck vs_box vs_alloc vs_store vs_buildSlice vs_makeSlice vs_call vs_len vs_min vs_max vs_append
 LoopK_normal LoopK_exit LoopK_ret LoopK_goto
 stepPure stepHeap loadAV takeN blkCells intAV shAV strAV boolAV binAV nilAV nilSl sliceAV sliceStr putAt fillAV appendAV appendStr isZ8 inOrder allOf isZero kEq resAV oneOrTup cells_agg cells_raw_agg cells_int cells_bool cells_string cells_pointer cells_slice cells_rmap cells_nilFunc cells_nilIface cells_lst cells_eptr cells_ptr cells_sl cells_fn cells_map one_raw one_lst one_eptr one_ptr one_sl one_fn one_map comps_tup TI.agg guardSlot slot tmpl
 List.getD_cons_zero List.getD_cons_succ List.set_cons_zero List.set_cons_succ List.getElem?_cons_zero List.getElem?_cons_succ List.drop_succ_cons List.drop_zero List.drop_nil List.map_cons List.map_nil List.length_cons List.length_nil List.replicate_succ List.replicate_zero
 List.all_cons List.all_nil List.cons_append List.nil_append List.append_nil Option.map_some Option.map_none decide_true decide_false Nat.le_refl Nat.zero_add Bool.and_true Bool.true_and Bool.and_self Bool.cond_true Bool.cond_false Value.oneCell'
end Go.Abs
namespace Go.Abs
open Go.RowKit
abbrev AV.i (n: Int): AV := .raw (.int .i64 n)
abbrev AV.b (b: Bool): AV := .raw (.bool b)
abbrev AV.s (s: ByteArray): AV := .raw (.string s)
inductive Ex where
 | mk (kind n: Int) (name: ByteArray) (op: Int) (arms: List ByteArray) (subs: List Ex)
namespace Ex
def kind: Ex → Int | .mk k _ _ _ _ _ => k
def n: Ex → Int | .mk _ n _ _ _ _ => n
def name: Ex → ByteArray | .mk _ _ m _ _ _ => m
def op: Ex → Int | .mk _ _ _ o _ _ => o
def arms: Ex → List ByteArray | .mk _ _ _ _ a _ => a
def subs: Ex → List Ex | .mk _ _ _ _ _ s => s
end Ex
mutual
def Ex.enc: Ex → AV
 | .mk k n m o a s => .agg [.i k,.i n,.s m,.i o,.lst 1 (a.map AV.s) none,.lst 6 (Ex.encs s) none]
def Ex.encs: List Ex → List AV
 | [] => []
 | e :: es => e.enc :: Ex.encs es
end
theorem encs_map (l: List Ex): Ex.encs l = l.map Ex.enc := by
 induction l with
 | nil => simp [Ex.encs]
 | cons e l ih => simp [Ex.encs,ih]
theorem enc_eq (e: Ex): e.enc = .agg [.i e.kind,.i e.n,.s e.name,.i e.op,.lst 1 (e.arms.map AV.s) none,.lst 6 (e.subs.map Ex.enc) none] := by
 cases e with
 | mk k n m o a s => simp [Ex.enc,encs_map,Ex.kind,Ex.n,Ex.name,Ex.op,Ex.arms,Ex.subs]
theorem enc_cells (e: Ex): e.enc.cells = [.i e.kind,.i e.n,.s e.name,.i e.op,.lst 1 (e.arms.map AV.s) none,.lst 6 (e.subs.map Ex.enc) none] := by rw [enc_eq]; rfl
theorem flat_strs (l: List ByteArray): flat (l.map AV.s) = l.map AV.s := by
 induction l with
 | nil => rfl
 | cons x l ih => simp only [flat,List.map_cons,List.flatMap_cons] at ih ⊢; rw [ih]; rfl
theorem pure_strs (l: List ByteArray): Pure (.lst 1 (l.map AV.s) none) := by
 refine .lst _ _ fun c hc => ?_
 rw [flat_strs] at hc
 obtain ⟨x,_,rfl⟩ := List.mem_map.1 hc
 exact .raw _
mutual
theorem pure_enc: ∀ e: Ex,Pure e.enc
 | .mk k n m o a s => by
  rw [Ex.enc]
  refine .agg _ fun c hc => ?_
  simp only [List.mem_cons,List.not_mem_nil,or_false] at hc
  rcases hc with rfl | rfl | rfl | rfl | rfl | rfl
  ·
   exact .raw _
  ·
   exact .raw _
  ·
   exact .raw _
  ·
   exact .raw _
  ·
   exact pure_strs a
  ·
   exact .lst _ _ (pure_encs s)
theorem pure_encs: ∀ l: List Ex,∀ c ∈ flat (Ex.encs l),Pure c
 | [],c,hc => by simp [Ex.encs,flat] at hc
 | e :: l,c,hc => by
  simp only [Ex.encs,flat,List.flatMap_cons,List.mem_append] at hc
  rcases hc with hc | hc
  ·
   have := pure_enc e
   rw [enc_eq] at this hc
   cases this with
   | agg _ h => exact h c hc
  ·
   exact pure_encs l c hc
end
theorem pure_lst (l: List Ex): Pure (.lst 6 (l.map Ex.enc) none) := .lst _ _ (by rw [← encs_map]; exact pure_encs l)
theorem pure_cons {x: AV} {l: List AV} (h: Pure x) (hl: ∀ y ∈ l,Pure y): ∀ y ∈ x :: l,Pure y := by
 intro y hy
 rcases List.mem_cons.1 hy with rfl | hy
 ·
  exact h
 ·
  exact hl y hy
theorem pure_nil: ∀ y ∈ ([]: List AV),Pure y := by simp
class PureI (a: AV): Prop where
 out: Pure a
class PureL (l: List AV): Prop where
 out: ∀ y ∈ l,Pure y
theorem pureI {a: AV} [h: PureI a]: Pure a := h.out
theorem pureL {l: List AV} [h: PureL l]: ∀ y ∈ l,Pure y := h.out
instance: PureL [] := ⟨pure_nil⟩
instance {x: AV} {l: List AV} [PureI x] [PureL l]: PureL (x :: l) := ⟨pure_cons pureI pureL⟩
instance (v: Value): PureI (.raw v) := ⟨.raw v⟩
instance {l: List AV} [PureL l]: PureI (.agg l) := ⟨.agg _ pureL⟩
instance {l: List AV} [PureL l]: PureI (.tup l) := ⟨.tup _ pureL⟩
instance (g: Fn): PureI (.fn g [] []) := ⟨.fn _ _ _ pure_nil pure_nil⟩
instance (e: Ex): PureI e.enc := ⟨pure_enc e⟩
instance (l: List Ex): PureI (.lst 6 (l.map Ex.enc) none) := ⟨pure_lst l⟩
instance (l: List ByteArray): PureI (.lst 1 (l.map AV.s) none) := ⟨pure_strs l⟩
theorem Ex.ind {p: Ex → Prop} (h: ∀ e,(∀ x ∈ e.subs,p x) → p e): ∀ e,p e := by
 have key: ∀ (n: Nat) (e: Ex),SizeOf.sizeOf e ≤ n → p e := by
  intro n
  induction n with
  | zero => intro e he; cases e; simp at he
  | succ n ih =>
   intro e he
   refine h e fun x hx => ih x ?_
   cases e with
   | mk k n' m o a s =>
    have := List.sizeOf_lt_of_mem hx
    simp [Ex.subs] at this he
    omega
 exact fun e => key _ e (Nat.le_refl _)
theorem enc_fold (e: Ex): AV.agg [.i e.kind,.i e.n,.s e.name,.i e.op,.lst 1 (e.arms.map AV.s) none,.lst 6 (e.subs.map Ex.enc) none] = e.enc := (enc_eq e).symm
theorem map_at {α: Type} (f: α → AV) {l: List α} {k: Nat} {x: α} (hx: l[k]? = some x): (l.map f)[((k: Int)).toNat]? = some (f x) := by
 rw [Int.toNat_natCast,List.getElem?_map,hx]; rfl
theorem wrap_in (x: Int) (h1: -9223372036854775808 ≤ x) (h2: x ≤ 9223372036854775807): IntKind.i64.wrap x = x := by
 rw [IntKind.wrap_i64]; omega
theorem int_beq (a b: Int): (a == b) = decide (a = b) := by
 by_cases h: a = b <;> simp [h]
theorem int_bne (a b: Int): (a != b) = decide (a ≠ b) := by
 by_cases h: a = b <;> simp [h]
theorem str_beq (a b: ByteArray): (a.toList == b.toList) = decide (a = b) := by
 by_cases h: a = b
 ·
  simp [h]
 ·
  have: a.toList ≠ b.toList := fun e => h (toList_inj e)
  simp [h,this]
theorem not_dec (p: Prop) [Decidable p]: (!decide p) = decide (¬ p) := by simp
theorem at_app {α: Type} (l m: List α) (k: Nat): (l ++ m)[l.length + k]? = m[k]? := by
 rw [List.getElem?_append_right (by omega)]; congr 1; omega
theorem at_app0 {α: Type} (l m: List α): (l ++ m)[l.length]? = m[0]? := at_app l m 0
theorem set_app {α: Type} (l m: List α) (k: Nat) (v: α): (l ++ m).set (l.length + k) v = l ++ m.set k v := by
 rw [List.set_append_right _ _ (by omega)]; congr 2; omega
theorem set_app0 {α: Type} (l m: List α) (v: α): (l ++ m).set l.length v = l ++ m.set 0 v := set_app l m 0 v
theorem take_map {α: Type} (f: α → AV) (l: List α) (n: Nat): (l.map f).take n = (l.take n).map f := List.map_take.symm
theorem drop_map {α: Type} (f: α → AV) (l: List α) (n: Nat): (l.map f).drop n = (l.drop n).map f := List.map_drop.symm
theorem elemHave {α: Type} {f: α → AV} {l: List α} {i: Int} {x: α} {g: AV → AV} {dst: Option Tmp} {s: List AV} {h: List Blk} {K: List AV → List Blk → Prop} (h0: 0 ≤ i) (hx: l[i.toNat]? = some x) (hk: K (put s dst (g (f x))) h): ElemK i (l.map f) g dst s h K :=
 ⟨f x,⟨h0,by rw [List.getElem?_map,hx]; rfl⟩,hk⟩
theorem elemMap {α: Type} {f: α → AV} {l: List α} {i: Int} {g: AV → AV} {dst: Option Tmp} {s: List AV} {h: List Blk} {K: List AV → List Blk → Prop} (h0: 0 ≤ i) (hlt: i < l.length) (hk: ∀ x,l[i.toNat]? = some x → K (put s dst (g (f x))) h): ElemK i (l.map f) g dst s h K := by
 have hlt': i.toNat < l.length := by omega
 exact ⟨f l[i.toNat],⟨h0,by rw [List.getElem?_map,List.getElem?_eq_getElem hlt']; rfl⟩,hk _ (List.getElem?_eq_getElem hlt')⟩
theorem Vis.next {N: Nat} {vis: List (Nat × AV)} {s: List AV} {t i: Nat} (h: s[t]? = some (.i (IntKind.i64.wrap ((i: Int) + 1)))) (hi: i < 9223372036854775807) (hv: Vis N vis s): Vis N ((t,.i ((i + 1: Nat): Int)) :: vis) s := by
 rw [wrap_in _ (by omega) (by omega)] at h
 exact .cons h hv
theorem finB {T: TypeId → TI} {t: Nat} {s: List AV} {h: List Blk} {b: Bool} (hs: s[t]? = some (.b b)): FinE T [.tmp t] (fun r => ∃ b: Bool,r = .raw (.bool b)) s h :=
 ⟨[.b b],by simp only [resAV,opd,List.getD_eq_getElem?_getD,hs]; rfl,false,.b b,.refl _,.raw _,b,rfl⟩
theorem finI {T: TypeId → TI} {t: Nat} {s: List AV} {h: List Blk} {n: Int} (hs: s[t]? = some (.i n)): FinE T [.tmp t] (fun r => ∃ n: Int,r = .i n) s h :=
 ⟨[.i n],by simp only [resAV,opd,List.getD_eq_getElem?_getD,hs]; rfl,false,.i n,.refl _,.raw _,n,rfl⟩
theorem finII {T: TypeId → TI} {t u: Nat} {s: List AV} {h: List Blk} {n m: Int} (hs: s[t]? = some (.i n)) (hu: s[u]? = some (.i m)): FinE T [.tmp t,.tmp u] (fun r => ∃ a b: Int,r = .tup [.i a,.i b]) s h :=
 ⟨[.i n,.i m],by simp only [resAV,opd,List.getD_eq_getElem?_getD,hs,hu]; rfl,false,.tup [.i n,.i m],.refl _,.tup _ (by
  intro c hc
  simp only [List.mem_cons,List.not_mem_nil,or_false] at hc
  rcases hc with rfl | rfl <;> exact .raw _),n,m,rfl⟩
theorem finBk {T: TypeId → TI} {t: Nat} {s: List AV} {h: List Blk} {b: Bool} {K: Bool → Prop} (hs: s[t]? = some (.b b)) (hk: K b): FinE T [.tmp t] (fun r => ∃ b: Bool,r = .b b ∧ K b) s h :=
 ⟨[.b b],by simp only [resAV,opd,List.getD_eq_getElem?_getD,hs]; rfl,false,.b b,.refl _,.raw _,b,rfl,hk⟩
theorem take_all {α: Type} {p: α → Prop} {l: List α} {k: Nat} {x: α} (h: ∀ y ∈ l.take k,p y) (hx: l[k]? = some x) (hp: p x): ∀ y ∈ l.take (k + 1),p y := by
 intro y hy
 rw [List.take_add_one,hx] at hy
 simp only [Option.toList,List.mem_append,List.mem_singleton] at hy
 rcases hy with hy | rfl
 ·
  exact h y hy
 ·
  exact hp
theorem take_full {α: Type} {p: α → Prop} {l: List α} {k: Nat} (h: ∀ y ∈ l.take k,p y) (hk: l.length ≤ k): ∀ y ∈ l,p y := by
 rw [List.take_of_length_le hk] at h
 exact h
theorem finP {T: TypeId → TI} {rs: List ResultVar} {r: AV} {s: List AV} {h: List Blk} (hr: resAV T s h rs = some [r]): Go.Abs.Fin T rs r s h := ⟨_,hr,false,.refl _⟩
theorem finT {T: TypeId → TI} {rs: List ResultVar} {r u: AV} {l: List AV} {s: List AV} {h: List Blk} (hr: resAV T s h rs = some (r :: u :: l)): Go.Abs.Fin T rs (.tup (r :: u :: l)) s h := ⟨_,hr,false,.refl _⟩
theorem finBq {T: TypeId → TI} {t: Nat} {s: List AV} {h: List Blk} {b c: Bool} (hs: s[t]? = some (.b b)) (he: b = c): Go.Abs.Fin T [.tmp t] (.b c) s h := he ▸ ⟨[.b b],by simp only [resAV,opd,List.getD_eq_getElem?_getD,hs]; rfl,false,.refl _⟩
abbrev bbA (p: Bool × Bool): AV := .tup [.b p.1,.b p.2]
theorem finBBk {T: TypeId → TI} {t u: Nat} {s: List AV} {h: List Blk} {x y: Bool} {p: Bool × Bool} (hs: s[t]? = some (.b x)) (hu: s[u]? = some (.b y)) (hp: p = (x,y)): Go.Abs.Fin T [.tmp t,.tmp u] (bbA p) s h := by
 subst hp
 exact ⟨[.b x,.b y],by simp only [resAV,opd,List.getD_eq_getElem?_getD,hs,hu]; rfl,false,.refl _⟩
abbrev gbA (p: Bool × Bool): AV := .agg [.b p.1,.b p.2]
theorem finGk {T: TypeId → TI} {rs: List ResultVar} {s: List AV} {h: List Blk} {x y: Bool} {p: Bool × Bool} (hs: resAV T s h rs = some [.agg [.b x,.b y]]) (hp: p = (x,y)): Go.Abs.Fin T rs (gbA p) s h := by
 subst hp
 exact ⟨_,hs,false,.refl _⟩
theorem weak_ex {k n o: Int} {m: ByteArray} {arms: List ByteArray} {subs: List Ex} {a s: AV} (ha: Weak a (.lst 1 (arms.map AV.s) none)) (hs: Weak s (.lst 6 (subs.map Ex.enc) none)): Weak (.agg [.i k,.i n,.s m,.i o,a,s]) (Ex.mk k n m o arms subs).enc := by
 rw [enc_eq]
 exact Weak.aggs ⟨.refl _,.refl _,.refl _,.refl _,ha,hs,trivial⟩
theorem weak_subs {es: List AV} {subs: List Ex} {k: Option Nat} (hl: es.length = subs.length) (h: WeakL (flat es) (flat (subs.map Ex.enc))): Weak (.lst 6 es k) (.lst 6 (subs.map Ex.enc) none) :=
 Weak.lsts (by simp [hl]) (fun e he => by
  obtain ⟨x,_,rfl⟩ := List.mem_map.1 he
  rw [enc_cells]; rfl) h
theorem flat_nil: flat [] = [] := rfl
theorem flat_agg (cs es: List AV): flat (.agg cs :: es) = cs ++ flat es := rfl
theorem flat_ex (e: Ex) (es: List Ex): flat ((e :: es).map Ex.enc) = e.enc.cells ++ flat (es.map Ex.enc) := rfl
theorem flat_ex0: flat (([]: List Ex).map Ex.enc) = [] := rfl
attribute [go_sem] enc_fold enc_cells List.length_map maxLen take_map drop_map Bool.not_false Bool.not_true at_app at_app0 set_app set_app0 List.append_assoc List.length_append int_beq int_bne str_beq not_dec
attribute [irreducible] Ex.enc
end Go.Abs
namespace Go.Proofs.YtpamokpmlplopaaGreatDoor
open Go.Abs
set_option maxRecDepth 20000
set_option linter.unusedSimpArgs false
set_option linter.unusedVariables false
set_option maxHeartbeats 1000000
attribute [local irreducible] vc vcOps vcStep vcGuard prK hrK gK gsK brK callK ElemK SeqK BlockK ScopeK OpsK CallK LoopK LoopGo finPost ACall PCall PCallE BCall vqOps vqStep vqGuard qrK heK pcK gqK gqsK QOpsK qcallK DrawK
mutual
def parts: Ex → List Ex
 | .mk k n m o a s => .mk k n m o a s :: partsL s
def partsL: List Ex → List Ex
 | [] => []
 | x :: xs => parts x ++ partsL xs
end
theorem parts_eq (e: Ex): parts e = e :: partsL e.subs := by cases e; simp [parts,Ex.subs]
theorem partsL_append (l m: List Ex): partsL (l ++ m) = partsL l ++ partsL m := by
 induction l with
 | nil => simp [partsL]
 | cons x l ih => simp [partsL,ih]
theorem partsL_take {l: List Ex} {k: Nat} (h: k < l.length): partsL (l.take (k + 1)) = partsL (l.take k) ++ parts l[k] := by
 rw [List.take_succ_eq_append_getElem h,partsL_append]
 simp [partsL]
theorem partsL_le {l: List Ex} {k: Nat}: (partsL (l.take k)).length ≤ (partsL l).length := by
 have: partsL l = partsL (l.take k) ++ partsL (l.drop k) := by rw [← partsL_append,List.take_append_drop]
 rw [this]; simp
theorem parts_le {l: List Ex} {k: Nat} (h: k < l.length): (parts l[k]).length ≤ (partsL l).length := by
 have h1 := partsL_take h
 have h2 := partsL_le (l := l) (k := k + 1)
 rw [h1] at h2
 simp at h2
 omega
theorem parts_spec: ∀ (e: Ex),(parts e).length ≤ 100000 → PCall Tryz.prog 83 [e.enc] (.lst 6 ((parts e).map Ex.enc) none) := by
 intro e
 induction e using Ex.ind with
 | _ e ih =>
 intro hl
 refine pcall_of_vc tabOK Tryz.func83 (by kernel_rfl) rfl (pure_cons (pure_enc e) pure_nil) (pure_lst _) (n := 23) rfl (rs := [.tmp 2]) rfl ?_
 simp only [go_sem]
 rw [parts_eq] at hl ⊢
 refine loop_rule (fun n s h => ∃ (k: Nat),k ≤ e.subs.length ∧ n = e.subs.length - k ∧
   Vis 23 [(1,.ptr 0 0),(3,.lst 6 ((e :: partsL (e.subs.take k)).map Ex.enc) (some 1)),(4,.i k)] s ∧
   h = [.cells 72 [.i e.kind,.i e.n,.s e.name,.i e.op,.lst 1 (e.arms.map AV.s) none,.lst 6 (e.subs.map Ex.enc) none],.tok 72 6 (partsL (e.subs.take k)).length.succ]) e.subs.length ?_ ?_
 ·
  exact ⟨0,by omega,rfl,.cons rfl (.cons (by simp [partsL]) (.cons rfl (.nil rfl))),by simp [partsL]⟩
 rintro n s h ⟨k,hk,rfl,hv,rfl⟩
 obtain ⟨j,rfl⟩ := hv.out
 simp only [go_sem]
 intro hm
 refine brK_dec (fun hlt => ?_) (fun hge => ?_)
 ·
  have hlt': k < e.subs.length := by omega
  have h1 := parts_le hlt'
  have h2 := partsL_le (l := e.subs) (k := k + 1)
  have h3 := partsL_take hlt'
  rw [h3] at h2
  simp only [List.length_cons,List.length_append] at hl h2
  simp only [go_sem]
  refine elemK (e.subs[k]).enc (by omega) (map_at _ (List.getElem?_eq_getElem hlt')) ?_
  simp only [go_sem]
  refine PCall.call (ih e.subs[k] (List.getElem_mem _) (by omega)) ?_
  simp only [go_sem]
  refine ⟨by omega,?_⟩
  rw [wrap_in _ (by omega) (by omega)]
  refine loopGo _ ?_ ⟨k + 1,by omega,rfl,.cons rfl (.cons (by rw [h3]; simp [slot]) (.cons rfl (.nil rfl))),by rw [h3]; simp⟩
  omega
 ·
  have: k = e.subs.length := by omega
  subst this
  simp only [go_sem]
  rw [List.take_length]
  exact ⟨_,rfl,false,.tok _ _ _⟩
end Go.Proofs.YtpamokpmlplopaaGreatDoor
namespace Go.Abs
open Go.RowKit
section
variable {P: Program} {T: TypeId → TI} {s s': List AV} {h h': List Blk} {Q: Post} {c: Code}
def carried (C: List (Nat × AV)) (t: Nat): Option AV :=
 match C with
 | [] => none
 | (u,v) :: r => match Nat.beq u t with
  | true => some v
  | false => carried r t
def inD (D: List Nat) (t: Nat): Bool :=
 match D with
 | [] => false
 | u :: r => match Nat.beq u t with
  | true => true
  | false => inD r t
def mixC (D: List Nat) (C: List (Nat × AV)) (j: Nat → AV): Nat → List AV → List AV
 | _,[] => []
 | k,a :: l => (match carried C k with | some v => v | none => match inD D k with | true => j k | false => a) :: mixC D C j (k + 1) l
def Agree (C: List (Nat × AV)) (s: List AV): Prop := ∀ p ∈ C,s[p.1]? = some p.2
theorem Agree.nil: Agree [] s := by intro p hp; simp at hp
theorem Agree.cons {C: List (Nat × AV)} {t: Nat} {v: AV} (h: s[t]? = some v) (hv: Agree C s): Agree ((t,v) :: C) s := by
 intro p hp
 rcases List.mem_cons.1 hp with rfl | hp
 ·
  exact h
 ·
  exact hv p hp
def Fr (D: List Nat) (s s': List AV): Prop := s' = mixC D [] (fun k => s'.getD k (.tup [])) 0 s
theorem mixC_at (D: List Nat) (C: List (Nat × AV)) (j: Nat → AV): ∀ (s: List AV) (k i: Nat),(mixC D C j k s)[i]? = s[i]?.map fun a => match carried C (k + i) with | some v => v | none => match inD D (k + i) with | true => j (k + i) | false => a
 | [],k,i => by simp [mixC]
 | a :: l,k,0 => by simp [mixC]
 | a :: l,k,i + 1 => by
  simp only [mixC,List.getElem?_cons_succ]
  rw [mixC_at D C j l (k + 1) i]
  have: k + 1 + i = k + (i + 1) := by omega
  rw [this]
theorem carried_some {C: List (Nat × AV)} {t: Nat} {v: AV} (h: carried C t = some v): (t,v) ∈ C := by
 induction C with
 | nil => cases h
 | cons p r ih =>
  obtain ⟨u,x⟩ := p
  simp only [carried] at h
  split at h
  ·
   rename_i hb
   cases h
   rw [Nat.eq_of_beq_eq_true hb]
   simp
  ·
   exact List.mem_cons_of_mem _ (ih h)
theorem mix_eq {D: List Nat} {C: List (Nat × AV)} (hf: Fr D s s') (ha: Agree C s'): s' = mixC D C (fun k => s'.getD k (.tup [])) 0 s := by
 apply List.ext_getElem?
 intro i
 rw [mixC_at]
 rw [Nat.zero_add]
 have hi: s'[i]? = (mixC D [] (fun k => s'.getD k (.tup [])) 0 s)[i]? := congrArg (fun l => l[i]?) hf
 rw [mixC_at,Nat.zero_add] at hi
 cases hc: carried C i with
 | none => rw [hi]; simp [carried]
 | some v =>
  have := ha _ (carried_some hc)
  simp only at this
  rw [this]
  rw [this] at hi
  cases hs: s[i]? with
  | none => rw [hs] at hi; simp at hi
  | some a => simp
def FrI (I: Nat → List (Nat × AV) → List Blk → Prop) (D: List Nat) (s: List AV) (n: Nat) (s': List AV) (h': List Blk): Prop := ∃ C,I n C h' ∧ Agree C s' ∧ Fr D s s'
theorem fr_self (D: List Nat) (s: List AV): Fr D s s := by
 apply List.ext_getElem?
 intro i
 rw [mixC_at]
 cases hs: s[i]? with
 | none => simp
 | some a =>
  simp only [Option.map_some,carried,Nat.zero_add,Option.some.injEq]
  split <;> simp [List.getD_eq_getElem?_getD,hs]
theorem loop_fr (D: List Nat) (I: Nat → List (Nat × AV) → List Blk → Prop) (n0: Nat) (C0: List (Nat × AV)) (hi: I n0 C0 h) (hc: Agree C0 s)
  (hstep: ∀ n C j h',I n C h' → vc P T c (LoopK (FrI I D s) n Q) (mixC D C j 0 s) h'): vc P T (.loop c) Q s h := by
 refine loop_rule (FrI I D s) n0 ⟨C0,hi,hc,fr_self D s⟩ ?_
 rintro n s' h' ⟨C,hI,ha,hf⟩
 have := hstep n C (fun k => s'.getD k (.tup [])) h' hI
 rw [← mix_eq hf ha] at this
 exact this
theorem loopFr {I: Nat → List (Nat × AV) → List Blk → Prop} {D: List Nat} {n: Nat} (m: Nat) (hm: m < n) {C: List (Nat × AV)} (hi: I m C h') (ha: Agree C s') (hf: Fr D s s'): LoopGo (FrI I D s) n s' h' := ⟨m,hm,C,hi,ha,hf⟩
theorem loop_frH (D: List Nat) (I: Nat → List (Nat × AV) → Prop) (n0: Nat) (C0: List (Nat × AV)) (hi: I n0 C0) (hc: Agree C0 s)
  (hstep: ∀ n C j,I n C → vc P T c (LoopK (FrI (fun n C h' => I n C ∧ h' = h) D s) n Q) (mixC D C j 0 s) h): vc P T (.loop c) Q s h :=
 loop_fr D (fun n C h' => I n C ∧ h' = h) n0 C0 ⟨hi,rfl⟩ hc fun n C j h' hI => by obtain ⟨hI,rfl⟩ := hI; exact hstep n C j hI
theorem loopFrH {I: Nat → List (Nat × AV) → Prop} {D: List Nat} {n: Nat} (m: Nat) (hm: m < n) {C: List (Nat × AV)} (hi: I m C) (ha: Agree C s') (hf: Fr D s s'): LoopGo (FrI (fun n C h' => I n C ∧ h' = h) D s) n s' h := ⟨m,hm,C,⟨hi,rfl⟩,ha,hf⟩
def HExt (h h': List Blk): Prop := ∃ r,h' = h ++ r
theorem loop_frX (D: List Nat) (I: Nat → List (Nat × AV) → Prop) (n0: Nat) (C0: List (Nat × AV)) (hi: I n0 C0) (hc: Agree C0 s)
  (hstep: ∀ n C j r,I n C → vc P T c (LoopK (FrI (fun n C h' => I n C ∧ HExt h h') D s) n Q) (mixC D C j 0 s) (h ++ r)): vc P T (.loop c) Q s h :=
 loop_fr D (fun n C h' => I n C ∧ HExt h h') n0 C0 ⟨hi,[],by simp⟩ hc fun n C j h' hI => by obtain ⟨hI,r,rfl⟩ := hI; exact hstep n C j r hI
theorem loopFrX {I: Nat → List (Nat × AV) → Prop} {D: List Nat} {n: Nat} (m: Nat) (hm: m < n) {C: List (Nat × AV)} (r: List Blk) (hi: I m C) (ha: Agree C s') (hf: Fr D s s') (hh: h' = h ++ r): LoopGo (FrI (fun n C h' => I n C ∧ HExt h h') D s) n s' h' := ⟨m,hm,C,⟨hi,r,hh⟩,ha,hf⟩
theorem Agree.next {C: List (Nat × AV)} {t i: Nat} (h: s[t]? = some (.raw (.int .i64 (IntKind.i64.wrap ((i: Int) + 1))))) (hi: i < 9223372036854775807) (hv: Agree C s): Agree ((t,.raw (.int .i64 ((i + 1: Nat): Int))) :: C) s := by
 have: IntKind.i64.wrap ((i: Int) + 1) = ((i + 1: Nat): Int) := by rw [IntKind.wrap_i64]; omega
 rw [this] at h
 exact .cons h hv
theorem loop_ghost {s': List AV} {h': List Blk} (hg: Ghost s h s' h') (hv: vc P T (.loop c) Q s' h'): vc P T (.loop c) Q s h := by
 obtain ⟨s0,h0,hg',hn⟩ := hv
 exact ⟨s0,h0,hg.trans hg',hn⟩
theorem ghost_own (t: Nat) (e: TypeId) (sz: Nat) (ht: s[t]? = some (.raw (.slice none 0 0))): Ghost s h (s.set t (.own sz h.length 0)) (h ++ [.own e sz []]) := by
 intro S φ w vs hs hr
 obtain ⟨k1,k2⟩ := hr.push (l := .tok 0 (.slice none 0 0)) (x := .own e sz []) (S' := S) (w' := w) rfl rfl rfl (Nat.le_refl _) (fun _ _ => rfl) (fun _ h => h) (fun _ h => .inl h) hr.bnd
  ⟨_,upd_same _ _ _,by simp,.inl ⟨rfl,rfl⟩⟩ (fun b hb => by simp [blockOf] at hb)
 refine ⟨S,_,?_,k1,k2⟩
 have hs' := k2.CAll hs
 obtain ⟨v,hv,hc⟩ := hs.at ht
 cases hc
 have := hs'.set t (C.own (S := S) (w := w) sz h.length 0 none 0 (Nat.le_refl _) (by simp [maxLen]) ⟨_,_,upd_same _ _ _,Nat.le_refl _,fun _ => rfl⟩)
 have e: vs.setIfInBounds t (.slice none 0 0) = vs := by
  apply Array.ext
  ·
   simp
  ·
   intro i h1 h2
   by_cases ei: t = i
   ·
    subst ei
    have hv': vs[t] = .slice none 0 0 := by
     rw [Array.getElem?_eq_getElem h2] at hv
     exact Option.some.inj hv
    simp [hv']
   ·
    simp [h2,ei]
 rw [e] at this
 exact this
inductive Blw (n: Nat): AV → Prop where
 | raw (v: Value): Blw n (.raw v)
 | agg (cs: List AV) (h: ∀ c ∈ cs,Blw n c): Blw n (.agg cs)
 | tup (cs: List AV) (h: ∀ c ∈ cs,Blw n c): Blw n (.tup cs)
 | lst (sz: Nat) (es: List AV) (tok: Option Nat) (h: ∀ c ∈ flat es,Blw n c) (ht: ∀ k,tok = some k → k < n): Blw n (.lst sz es tok)
 | eptr (cs: List AV) (h: ∀ c ∈ cs,Blw n c): Blw n (.eptr cs)
 | ptr (k off: Nat) (h: k < n): Blw n (.ptr k off)
 | sl (sz k off len: Nat) (h: k < n): Blw n (.sl sz k off len)
 | fn (f: Fn) (xs ys: List AV) (h: ∀ c ∈ xs,Blw n c) (h': ∀ c ∈ ys,Blw n c): Blw n (.fn f xs ys)
 | map (k: Nat) (h: k < n): Blw n (.map k)
 | own (sz k m: Nat) (h: k < n): Blw n (.own sz k m)
theorem Blw.pure {n: Nat} {a: AV} (h: Pure a): Blw n a := by
 induction h with
 | raw v => exact .raw v
 | agg cs _ ih => exact .agg cs ih
 | tup cs _ ih => exact .tup cs ih
 | lst sz es _ ih => exact .lst sz es none ih (fun k e => by cases e)
 | eptr cs _ ih => exact .eptr cs ih
 | fn f xs ys _ _ ih ih' => exact .fn f xs ys ih ih'
section
variable {S: Addr → Prop} {φ φ': Nat → Loc} {w: World}
theorem Blw.of_C {n: Nat} (hf: ∀ k,n ≤ k → φ k = .no) {a: AV} {v: Value} (h: C S w φ a v): Blw n a := by
 have lt: ∀ {k: Nat},φ k ≠ .no → k < n := fun {k} hk => by
  rcases Nat.lt_or_ge k n with g | g
  ·
   exact g
  ·
   exact absurd (hf k g) hk
 have all: ∀ {cs: List AV} {vs: Array Value},vs.size = cs.length → (∀ (i: Nat) a v,cs[i]? = some a → vs[i]? = some v → Blw n a) → ∀ c ∈ cs,Blw n c := by
  intro cs vs hl h c hc
  obtain ⟨i,hi,rfl⟩ := List.getElem_of_mem hc
  exact h i _ vs[i] (List.getElem?_eq_getElem hi) (Array.getElem?_eq_getElem (by omega))
 have cells: ∀ {cs: List AV},(∀ (j: Nat) c,cs[j]? = some c → Blw n c) → ∀ c ∈ cs,Blw n c := by
  intro cs h c hc
  obtain ⟨i,hi,rfl⟩ := List.getElem_of_mem hc
  exact h i _ (List.getElem?_eq_getElem hi)
 have tk: ∀ {tok: Option Nat} {len: Nat} {v: Value},TokOK φ tok len v → ∀ k,tok = some k → k < n := by
  intro tok len v ht k e
  subst e
  obtain ⟨_,_,h1,_⟩ := ht
  exact lt (by rw [h1]; simp)
 induction h with
 | raw v => exact .raw v
 | agg cs vs hl h h1 ih => exact .agg cs (all hl ih)
 | tup cs vs hl h ih => exact .tup cs (all hl ih)
 | lst sz es tok a len cap u hlen hcap hmax hsz hm hc h1 ht ih => exact .lst sz es tok (cells ih) (tk ht)
 | lstnil sz tok ht => exact .lst sz [] tok (by simp [flat]) (tk ht)
 | eptr cs a u hm hc h1 ih => exact .eptr cs (cells ih)
 | ptr k off b h => exact .ptr k off (lt (by rw [h]; simp))
 | sl sz k off len b cap h hcap hmax => exact .sl sz k off len (lt (by rw [h]; simp))
 | fn f xs ys vs us hl hl' h h' ih ih' => exact .fn f xs ys (all hl ih) (all hl' ih')
 | map k b h => exact .map k (lt (by rw [h]; simp))
 | own sz k m a cap hcap hmax ht => exact .own sz k m (tk ht k rfl)
theorem Blw.C {n: Nat} (hf: ∀ k,k < n → φ' k = φ k) {a: AV} {v: Value} (h: C S w φ a v): Blw n a → Go.Abs.C S w φ' a v := by
 have tk: ∀ {tok: Option Nat} {len: Nat} {v: Value},TokOK φ tok len v → (∀ k,tok = some k → k < n) → TokOK φ' tok len v := by
  intro tok len v ht hk
  cases tok with
  | none => trivial
  | some k =>
   obtain ⟨m,u,h1,h2⟩ := ht
   exact ⟨m,u,by rw [hf k (hk k rfl)]; exact h1,h2⟩
 induction h with
 | raw v => intro _; exact .raw v
 | agg cs vs hl h h1 ih => intro hb; cases hb with | agg _ hb => exact .agg cs vs hl (fun i a v ha hv => ih i a v ha hv (hb a (List.mem_of_getElem? ha))) h1
 | tup cs vs hl h ih => intro hb; cases hb with | tup _ hb => exact .tup cs vs hl (fun i a v ha hv => ih i a v ha hv (hb a (List.mem_of_getElem? ha)))
 | lst sz es tok a len cap u hlen hcap hmax hsz hm hc h1 ht ih => intro hb; cases hb with | lst _ _ _ hb hk => exact .lst sz es tok a len cap u hlen hcap hmax hsz hm (fun j c hj => ih j c hj (hb c (List.mem_of_getElem? hj))) h1 (tk ht hk)
 | lstnil sz tok ht => intro hb; cases hb with | lst _ _ _ hb hk => exact .lstnil sz tok (tk ht hk)
 | eptr cs a u hm hc h1 ih => intro hb; cases hb with | eptr _ hb => exact .eptr cs a u hm (fun j c hj => ih j c hj (hb c (List.mem_of_getElem? hj))) h1
 | ptr k off b h => intro hb; cases hb with | ptr _ _ hb => exact .ptr k off b (by rw [hf k hb]; exact h)
 | sl sz k off len b cap h hcap hmax => intro hb; cases hb with | sl _ _ _ _ hb => exact .sl sz k off len b cap (by rw [hf k hb]; exact h) hcap hmax
 | fn f xs ys vs us hl hl' h h' ih ih' => intro hb; cases hb with | fn _ _ _ hb hb' => exact .fn f xs ys vs us hl hl' (fun i a v ha hv => ih i a v ha hv (hb a (List.mem_of_getElem? ha))) (fun i a v ha hv => ih' i a v ha hv (hb' a (List.mem_of_getElem? ha)))
 | map k b h => intro hb; cases hb with | map _ hb => exact .map k b (by rw [hf k hb]; exact h)
 | own sz k m a cap hcap hmax ht => intro hb; cases hb with | own _ _ _ hb => exact .own sz k m a cap hcap hmax (tk ht fun j e => by cases e; exact hb)
def BlwBlk (n: Nat): Blk → Prop
 | .cells _ cs => ∀ c ∈ cs,Blw n c
 | .own _ _ es => ∀ c ∈ flat es,Blw n c
 | .mp kk _ f => ∀ k a,isKey kk k = true → f k = some a → Blw n a
 | .lp _ _ _ _ _ _ s => ∀ c ∈ s,Blw n c
 | _ => True
def Chg (n: Nat): List Blk → List Blk → Prop
 | [],[] => True
 | x :: r,y :: r' => (x = y ∨ BlwBlk n y) ∧ Chg n r r'
 | _,_ => False
theorem Chg.refl (n: Nat): ∀ h: List Blk,Chg n h h
 | [] => trivial
 | _ :: r => ⟨.inl rfl,Chg.refl n r⟩
theorem Chg.at {n: Nat}: ∀ {h h': List Blk},Chg n h h' → h'.length = h.length ∧ ∀ (k: Nat) y,h'[k]? = some y → h[k]? = some y ∨ BlwBlk n y
 | [],[],_ => ⟨rfl,fun k y h => by simp at h⟩
 | x :: r,y :: r',hc => by
  obtain ⟨h1,h2⟩ := hc.2.at
  refine ⟨by simp [h1],fun k z hz => ?_⟩
  cases k with
  | zero =>
   simp at hz
   subst hz
   rcases hc.1 with e | e
   ·
    exact .inl (by simp [e])
   ·
    exact .inr e
  | succ k => simpa using h2 k z (by simpa using hz)
 | [],_ :: _,h => h.elim
 | _ :: _,[],h => h.elim
theorem RB.low {n: Nat} (hf: ∀ k,k < n → φ' k = φ k) {k: Nat} (hk: k < n) {x: Blk} (hb: RB S w φ k x) (hx: BlwBlk n x): RB S w φ' k x := by
 cases x with
 | cells t cs =>
  obtain ⟨b,vs,h1,h2,h3,h4,h5⟩ := hb
  exact ⟨b,vs,by rw [hf k hk]; exact h1,h2,⟨h3.1,fun i a v ha hv => (h3.2 i a v ha hv |> Blw.C hf) (hx a (List.mem_of_getElem? ha))⟩,h4,h5⟩
 | tok e sz m => obtain ⟨u,h1,h2⟩ := hb; exact ⟨u,by rw [hf k hk]; exact h1,h2⟩
 | cut e sz m => obtain ⟨u,h1,h2⟩ := hb; exact ⟨u,by rw [hf k hk]; exact h1,h2⟩
 | own e sz es =>
  obtain ⟨u,h1,h2,h3⟩ := hb
  refine ⟨u,by rw [hf k hk]; exact h1,h2,?_⟩
  rcases h3 with h3 | ⟨b,cap,vs,g1,g2,g3,g4,g5,g6,g7⟩
  ·
   exact .inl h3
  ·
   exact .inr ⟨b,cap,vs,g1,g2,g3,g4,g5,fun j c hj => by
    obtain ⟨x,q1,q2,q3⟩ := g6 j c hj
    exact ⟨x,q1,Blw.C hf q2 (hx c (List.mem_of_getElem? hj)),q3⟩,g7⟩
 | mp kk m f =>
  obtain ⟨b,es,clock,h1,h2,h3,⟨m1,m2,m3⟩,h5⟩ := hb
  refine ⟨b,es,clock,by rw [hf k hk]; exact h1,h2,h3,⟨m1,m2,fun key hkey => ?_⟩,h5⟩
  have := m3 key hkey
  revert this
  cases mfind key es.toList <;> cases hfk: f key <;> intro hh
  ·
   trivial
  ·
   exact hh
  ·
   exact hh
  ·
   exact Blw.C hf hh (hx key _ hkey hfk)
 | it b p =>
  obtain ⟨l,h1,h2,h4⟩ := hb
  exact ⟨l,by rw [hf k hk]; exact h1,h2,h4⟩
 | lp l st pe ps x y s =>
  obtain ⟨h1,fn,tmps,D,h2,h3,h4⟩ := hb
  exact ⟨by rw [hf k hk]; exact h1,fn,tmps,D,h2,⟨h3.1,fun i a v ha hv => (h3.2 i a v ha hv |> Blw.C hf) (hx a (List.mem_of_getElem? ha))⟩,h4⟩
 | dead => trivial
theorem RB.blw {n: Nat} (hf: ∀ k,n ≤ k → φ k = .no) {k: Nat} {x: Blk} (hb: RB S w φ k x): BlwBlk n x := by
 cases x with
 | cells t cs =>
  obtain ⟨b,vs,h1,h2,h3,_⟩ := hb
  intro c hc
  obtain ⟨i,hi,rfl⟩ := List.getElem_of_mem hc
  have hiv: i < vs.size := by rw [h3.1]; exact hi
  exact Blw.of_C hf (h3.2 i _ vs[i] (List.getElem?_eq_getElem hi) (Array.getElem?_eq_getElem hiv))
 | tok e sz m => trivial
 | cut e sz m => trivial
 | own e sz es =>
  obtain ⟨u,h1,h2,h3⟩ := hb
  rcases h3 with ⟨_,rfl⟩ | ⟨b,cap,vs,g1,g2,g3,g4,g5,g6,g7⟩
  ·
   intro c hc; simp [flat] at hc
  ·
   intro c hc
   obtain ⟨i,hi,rfl⟩ := List.getElem_of_mem hc
   obtain ⟨x,q1,q2,q3⟩ := g6 i _ (List.getElem?_eq_getElem hi)
   exact Blw.of_C hf q2
 | mp kk m f =>
  obtain ⟨b,es,clock,h1,h2,h3,⟨m1,m2,m3⟩,h5⟩ := hb
  intro key a hkey hfa
  have := m3 key hkey
  rw [hfa] at this
  revert this
  cases mfind key es.toList with
  | none => intro hh; exact hh.elim
  | some v => intro hh; exact Blw.of_C hf hh
 | it b p => trivial
 | lp l st pe ps x y s =>
  obtain ⟨h1,fn,tmps,D,h2,h3,h4⟩ := hb
  intro c hc
  obtain ⟨i,hi,rfl⟩ := List.getElem_of_mem hc
  have hiv: i < tmps.size := by rw [h3.1]; exact hi
  exact Blw.of_C hf (h3.2 i _ tmps[i] (List.getElem?_eq_getElem hi) (Array.getElem?_eq_getElem hiv))
 | dead => trivial
end
def FinH (T: TypeId → TI) (rs: List ResultVar) (h: List Blk) (K: AV → List Blk → Prop) (s: List AV) (h': List Blk): Prop :=
 ∃ l,resAV T s h' rs = some l ∧ ∃ r h1 junk,Weak (oneOrTup l) r ∧ Blw h.length r ∧ h' = h1 ++ junk ∧ Chg h.length h h1 ∧ K r h1
theorem drop_sound {S S': Addr → Prop} {φ φ': Nat → Loc} {w w': World} {h1 junk: List Blk} (hr: R S φ h w) (hr': R S' φ' (h1 ++ junk) w') (he: Ext S φ h w S' φ' (h1 ++ junk) w') (hc: Chg h.length h h1) :
  let φ'': Nat → Loc := fun k => if k < h.length then φ' k else .no
  R S' φ'' h1 w' ∧ Ext S φ h w S' φ'' h1 w' := by
 intro φ''
 obtain ⟨hl,hat⟩ := hc.at
 have hf: ∀ k,k < h.length → φ'' k = φ' k := fun k hk => by simp only [φ'']; rw [if_pos hk]
 have hno: ∀ k,h.length ≤ k → φ'' k = .no := fun k hk => by simp only [φ'']; rw [if_neg (by omega)]
 have hle: ∀ k,(φ k).le (φ'' k) := by
  intro k
  rcases Nat.lt_or_ge k h.length with g | g
  ·
   rw [hf k g]; exact he.loc k
  ·
   rw [hr.fresh k g]; trivial
 have hin: ∀ (k: Nat) y,h1[k]? = some y → k < h.length ∧ (h1 ++ junk)[k]? = some y := fun k y hk => by
  have := lookupD hk
  exact ⟨by omega,by rw [List.getElem?_append_left (by omega)]; exact hk⟩
 have hlow: ∀ (k: Nat) y,h1[k]? = some y → BlwBlk h.length y := by
  intro k y hk
  rcases hat k y hk with g | g
  ·
   exact RB.blw (fun j hj => hr.fresh j hj) (hr.blk k _ g)
  ·
   exact g
 have hown: ∀ b,Owns φ'' h1 b → Owns φ' (h1 ++ junk) b := by
  rintro b ⟨k,x,hk,hb⟩
  obtain ⟨g1,g2⟩ := hin k x hk
  exact ⟨k,x,g2,by rw [← hf k g1]; exact hb⟩
 refine ⟨⟨fun k x hk => ?_,fun k k' x x' b hk hk' hb hb' => ?_,hr'.bnd,fun k hk => hno k (by omega),fun x hx => ⟨(hr'.tab x hx).1,fun o => (hr'.tab x hx).2 (hown _ o)⟩⟩,⟨he.os,he.tape,he.output,he.size,he.keep,he.sub,he.cell,hle,he.new,fun b hb => he.own b (hown b hb)⟩⟩
 ·
  obtain ⟨g1,g2⟩ := hin k x hk
  exact RB.low hf g1 (hr'.blk k x g2) (hlow k x hk)
 ·
  obtain ⟨g1,g2⟩ := hin k x hk
  obtain ⟨q1,q2⟩ := hin k' x' hk'
  rw [hf k g1] at hb
  rw [hf k' q1] at hb'
  exact hr'.inj k k' x x' b g2 q2 hb hb'
theorem acall_of_vc (hT : TabOK P T) {f : FuncId} {fn : Func} (hf : P.funcs[f]? = some fn) (hname : (fn.name == "runtime.NumGoroutine") = false) (hb : fn.body = some c) {args : List AV} {K : AV → List Blk → Prop}
  {n: Nat} (hn: fn.ntmps = n) {rs: List ResultVar} (hrs: fn.results.toList = rs)
  (hv: vc P T c (finPost (FinH T rs h K)) (args ++ List.replicate (n - args.length) (.tup [])) h): ACall P f args h K := by
 intro S φ w vs hr hargs
 refine ⟨run_callFunc hf hname (by rw [hb]; rfl) vs w,?_⟩
 have htmps: CAll S w φ (args ++ List.replicate (n - args.length) (.tup [])) (vs ++ Array.replicate (fn.ntmps - vs.size) undef) := by
  refine hargs.append ⟨by rw [Array.size_replicate,List.length_replicate,hn,hargs.1],fun i x v hx hv => ?_⟩
  rw [List.getElem?_replicate] at hx
  rw [Array.getElem?_replicate] at hv
  split at hx
  ·
   split at hv
   ·
    cases hx; cases hv; exact C.undef_
   ·
    cases hv
  ·
   cases hx
 refine calls_of_vc hT hf hb hv htmps hr ?_
 intro tmps s' h' S' φ' w' hG hs' hr' he
 revert hG
 rintro ⟨l,hl,r,h1,junk,hwk,hbl,rfl,hchg,hKr⟩
 obtain ⟨k1,k2⟩ := drop_sound hr hr' he hchg
 have g3 := results_plain hT hs' hr' (fn := fn) (a := { tmps := tmps,defers := [] }) (by rw [hrs]; exact hl)
 obtain ⟨v',e1,e2⟩ := g3
 exact ⟨v',e1,v',r,h1,S',_,rfl,hKr,Blw.C (fun k hk => by rw [if_pos hk]) (e2.weak hwk) hbl,k1,k2⟩
def FinK (T: TypeId → TI) (rs: List ResultVar) (K: AV → List Blk → Prop) (s: List AV) (h': List Blk): Prop :=
 ∃ l,resAV T s h' rs = some l ∧ ∃ r,Weak (oneOrTup l) r ∧ K r h'
theorem finK {rs: List ResultVar} {K: AV → List Blk → Prop} {r: AV} (hl: resAV T s h rs = some [r]) (hK: K r h): FinK T rs K s h := ⟨_,hl,r,.refl _,hK⟩
theorem acallK_of_vc (hT : TabOK P T) {f : FuncId} {fn : Func} (hf : P.funcs[f]? = some fn) (hname : (fn.name == "runtime.NumGoroutine") = false) (hb : fn.body = some c) {args : List AV} {K : AV → List Blk → Prop}
  {n: Nat} (hn: fn.ntmps = n) {rs: List ResultVar} (hrs: fn.results.toList = rs)
  (hv: vc P T c (finPost (FinK T rs K)) (args ++ List.replicate (n - args.length) (.tup [])) h): ACall P f args h K := by
 intro S φ w vs hr hargs
 refine ⟨run_callFunc hf hname (by rw [hb]; rfl) vs w,?_⟩
 have htmps: CAll S w φ (args ++ List.replicate (n - args.length) (.tup [])) (vs ++ Array.replicate (fn.ntmps - vs.size) undef) := by
  refine hargs.append ⟨by rw [Array.size_replicate,List.length_replicate,hn,hargs.1],fun i x v hx hv => ?_⟩
  rw [List.getElem?_replicate] at hx
  rw [Array.getElem?_replicate] at hv
  split at hx
  ·
   split at hv
   ·
    cases hx; cases hv; exact C.undef_
   ·
    cases hv
  ·
   cases hx
 refine calls_of_vc hT hf hb hv htmps hr ?_
 intro tmps s' h' S' φ' w' hG hs' hr' he
 revert hG
 rintro ⟨l,hl,r,hwk,hKr⟩
 obtain ⟨v',e1,e2⟩ := results_plain hT hs' hr' (fn := fn) (a := { tmps := tmps,defers := [] }) (by rw [hrs]; exact hl)
 exact ⟨v',e1,v',r,h',S',φ',rfl,hKr,e2.weak hwk,hr',he⟩
theorem finH0 {rs: List ResultVar} {K: AV → List Blk → Prop} {r: AV} (junk: List Blk) (hl: resAV T s (h ++ junk) rs = some [r]) (hp: Pure r) (hK: K r h): FinH T rs h K s (h ++ junk) :=
 ⟨_,hl,r,h,junk,.refl _,Blw.pure hp,rfl,Chg.refl _ _,hK⟩
theorem acall_of {f: FuncId} {args: List AV} {h: List Blk} {K: AV → List Blk → Prop} (hc: ∀ S φ w vs,R S φ h w → CAll S w φ args vs → (callFunc f vs).run P w = .ok (.enter f vs) w ∧
  Calls P f vs w fun e w' => ∃ v r h' S' φ',e = .returned v ∧ K r h' ∧ C S' w' φ' r v ∧ R S' φ' h' w' ∧ Ext S φ h w S' φ' h' w'): ACall P f args h K := hc
theorem finH1 {rs: List ResultVar} {K: AV → List Blk → Prop} {r: AV} (hl: resAV T s h rs = some [r]) (hp: Pure r) (hK: K r h): FinH T rs h K s h :=
 ⟨_,hl,r,h,[],.refl _,Blw.pure hp,(List.append_nil h).symm,Chg.refl _ _,hK⟩
end
attribute [go_sem] mixC carried inD
end Go.Abs
namespace Go.Abs
open Go.RowKit
abbrev AV.u8 (n: Int): AV := .raw (.int .u8 n)
@[go_sem] theorem u8sAV_u8 (l: List Int): u8sAV (l.map AV.u8) = some (l.map fun n => UInt8.ofNat n.toNat) := u8sAV_map l
abbrev AV.il (l: List Int): AV := .lst 1 (l.map AV.i) none
theorem flat_of {α: Type} {f: α → AV} (h: ∀ x,(f x).cells = [f x]) (l: List α): flat (l.map f) = l.map f := by
 induction l with
 | nil => rfl
 | cons x l ih => simp only [flat,List.map_cons,List.flatMap_cons] at ih ⊢; rw [ih,h]; rfl
theorem pure_ints (l: List Int): Pure (.lst 1 (l.map AV.i) none) := by
 refine .lst _ _ fun c hc => ?_
 rw [flat_of (fun _ => rfl)] at hc
 obtain ⟨x,_,rfl⟩ := List.mem_map.1 hc
 exact .raw _
theorem pure_u8s (l: List Int): Pure (.lst 1 (l.map AV.u8) none) := by
 refine .lst _ _ fun c hc => ?_
 rw [flat_of (fun _ => rfl)] at hc
 obtain ⟨x,_,rfl⟩ := List.mem_map.1 hc
 exact .raw _
theorem pure_ints2 (l: List (List Int)): Pure (.lst 1 (l.map AV.il) none) := by
 refine .lst _ _ fun c hc => ?_
 rw [flat_of (fun _ => rfl)] at hc
 obtain ⟨x,_,rfl⟩ := List.mem_map.1 hc
 exact pure_ints x
theorem Pure.cell {a: AV} (h: Pure a) (ht: ∀ cs,a = .agg cs → ∀ c ∈ cs,Pure c): ∀ c ∈ a.cells,Pure c := by
 intro c hc
 cases a with
 | agg cs => exact ht cs rfl c hc
 | raw v =>
  cases v with
  | agg vs => simp only [AV.cells,List.mem_map] at hc; obtain ⟨x,_,rfl⟩ := hc; exact .raw _
  | _ => simp only [AV.cells,List.mem_singleton] at hc; subst hc; exact h
 | _ => simp only [AV.cells,List.mem_singleton] at hc; subst hc; exact h
theorem Pure.cells {a: AV} (h: Pure a): ∀ c ∈ a.cells,Pure c := h.cell fun cs e => by
 subst e
 cases h with
 | agg _ h => exact h
theorem pure_list {α: Type} {f: α → AV} {sz: Nat} (h: ∀ x,Pure (f x)) (l: List α): Pure (.lst sz (l.map f) none) := by
 refine .lst _ _ fun c hc => ?_
 simp only [flat,List.mem_flatMap] at hc
 obtain ⟨a,ha,hc⟩ := hc
 obtain ⟨x,_,rfl⟩ := List.mem_map.1 ha
 exact (h x).cells c hc
instance (l: List Int): PureI (.lst 1 (l.map AV.i) none) := ⟨pure_ints l⟩
instance (l: List Int): PureI (.lst 1 (l.map AV.u8) none) := ⟨pure_u8s l⟩
instance (l: List (List Int)): PureI (.lst 1 (l.map AV.il) none) := ⟨pure_ints2 l⟩
structure DTy where
 Kind: Int
 Enum: Int
 Len: Int
 deriving DecidableEq
def DTy.enc (x: DTy): AV := .agg [.i x.Kind,.i x.Enum,.i x.Len]
theorem DTy.enc_eq (x: DTy): x.enc = .agg [.i x.Kind,.i x.Enum,.i x.Len] := rfl
theorem DTy.enc_cells (x: DTy): x.enc.cells = [.i x.Kind,.i x.Enum,.i x.Len] := rfl
theorem DTy.fold (x: DTy): AV.agg [.i x.Kind,.i x.Enum,.i x.Len] = x.enc := rfl
theorem DTy.pure (x: DTy): Pure x.enc := by
 refine .agg _ ?_
 repeat' first | exact pure_nil | refine pure_cons ?_ ?_ | exact .raw _ | exact pure_strs _ | exact pure_ints _ | exact pure_u8s _ | exact pure_ints2 _ | exact pure_lst _
theorem DTy.isAgg (x: DTy): isAggAV x.enc = true := rfl
theorem DTy.pures (l: List DTy): Pure (.lst 3 (l.map DTy.enc) none) := pure_list DTy.pure l
instance (x: DTy): PureI x.enc := ⟨DTy.pure x⟩
instance (l: List DTy): PureI (.lst 3 (l.map DTy.enc) none) := ⟨DTy.pures l⟩
structure DEnum where
 Name: ByteArray
 Ctors: List ByteArray
def DEnum.enc (x: DEnum): AV := .agg [.s x.Name,.lst 1 (x.Ctors.map AV.s) none]
theorem DEnum.enc_eq (x: DEnum): x.enc = .agg [.s x.Name,.lst 1 (x.Ctors.map AV.s) none] := rfl
theorem DEnum.enc_cells (x: DEnum): x.enc.cells = [.s x.Name,.lst 1 (x.Ctors.map AV.s) none] := rfl
theorem DEnum.fold (x: DEnum): AV.agg [.s x.Name,.lst 1 (x.Ctors.map AV.s) none] = x.enc := rfl
theorem DEnum.pure (x: DEnum): Pure x.enc := by
 refine .agg _ ?_
 repeat' first | exact pure_nil | refine pure_cons ?_ ?_ | exact .raw _ | exact pure_strs _ | exact pure_ints _ | exact pure_u8s _ | exact pure_ints2 _ | exact pure_lst _
theorem DEnum.isAgg (x: DEnum): isAggAV x.enc = true := rfl
theorem DEnum.pures (l: List DEnum): Pure (.lst 2 (l.map DEnum.enc) none) := pure_list DEnum.pure l
instance (x: DEnum): PureI x.enc := ⟨DEnum.pure x⟩
instance (l: List DEnum): PureI (.lst 2 (l.map DEnum.enc) none) := ⟨DEnum.pures l⟩
structure DDecl where
 Name: ByteArray
 Ty: DTy
 On: ByteArray
 Ctor: ByteArray
 deriving DecidableEq
def DDecl.enc (x: DDecl): AV := .agg [.s x.Name,.i x.Ty.Kind,.i x.Ty.Enum,.i x.Ty.Len,.s x.On,.s x.Ctor]
theorem DDecl.enc_eq (x: DDecl): x.enc = .agg [.s x.Name,.i x.Ty.Kind,.i x.Ty.Enum,.i x.Ty.Len,.s x.On,.s x.Ctor] := rfl
theorem DDecl.enc_cells (x: DDecl): x.enc.cells = [.s x.Name,.i x.Ty.Kind,.i x.Ty.Enum,.i x.Ty.Len,.s x.On,.s x.Ctor] := rfl
theorem DDecl.fold (x: DDecl): AV.agg [.s x.Name,.i x.Ty.Kind,.i x.Ty.Enum,.i x.Ty.Len,.s x.On,.s x.Ctor] = x.enc := rfl
theorem DDecl.pure (x: DDecl): Pure x.enc := by
 refine .agg _ ?_
 repeat' first | exact pure_nil | refine pure_cons ?_ ?_ | exact .raw _ | exact pure_strs _ | exact pure_ints _ | exact pure_u8s _ | exact pure_ints2 _ | exact pure_lst _
theorem DDecl.isAgg (x: DDecl): isAggAV x.enc = true := rfl
theorem DDecl.pures (l: List DDecl): Pure (.lst 6 (l.map DDecl.enc) none) := pure_list DDecl.pure l
instance (x: DDecl): PureI x.enc := ⟨DDecl.pure x⟩
instance (l: List DDecl): PureI (.lst 6 (l.map DDecl.enc) none) := ⟨DDecl.pures l⟩
structure DEq where
 Names: List ByteArray
 E: Ex
def DEq.enc (x: DEq): AV := .agg [.lst 1 (x.Names.map AV.s) none,.i x.E.kind,.i x.E.n,.s x.E.name,.i x.E.op,.lst 1 (x.E.arms.map AV.s) none,.lst 6 (x.E.subs.map Ex.enc) none]
theorem DEq.enc_eq (x: DEq): x.enc = .agg [.lst 1 (x.Names.map AV.s) none,.i x.E.kind,.i x.E.n,.s x.E.name,.i x.E.op,.lst 1 (x.E.arms.map AV.s) none,.lst 6 (x.E.subs.map Ex.enc) none] := rfl
theorem DEq.enc_cells (x: DEq): x.enc.cells = [.lst 1 (x.Names.map AV.s) none,.i x.E.kind,.i x.E.n,.s x.E.name,.i x.E.op,.lst 1 (x.E.arms.map AV.s) none,.lst 6 (x.E.subs.map Ex.enc) none] := rfl
theorem DEq.fold (x: DEq): AV.agg [.lst 1 (x.Names.map AV.s) none,.i x.E.kind,.i x.E.n,.s x.E.name,.i x.E.op,.lst 1 (x.E.arms.map AV.s) none,.lst 6 (x.E.subs.map Ex.enc) none] = x.enc := rfl
theorem DEq.pure (x: DEq): Pure x.enc := by
 refine .agg _ ?_
 repeat' first | exact pure_nil | refine pure_cons ?_ ?_ | exact .raw _ | exact pure_strs _ | exact pure_ints _ | exact pure_u8s _ | exact pure_ints2 _ | exact pure_lst _
theorem DEq.isAgg (x: DEq): isAggAV x.enc = true := rfl
theorem DEq.pures (l: List DEq): Pure (.lst 7 (l.map DEq.enc) none) := pure_list DEq.pure l
instance (x: DEq): PureI x.enc := ⟨DEq.pure x⟩
instance (l: List DEq): PureI (.lst 7 (l.map DEq.enc) none) := ⟨DEq.pures l⟩
structure DNode where
 Name: ByteArray
 Ins: List DDecl
 Outs: List DDecl
 Vars: List DDecl
 Eqs: List DEq
def DNode.enc (x: DNode): AV := .agg [.s x.Name,.lst 6 (x.Ins.map DDecl.enc) none,.lst 6 (x.Outs.map DDecl.enc) none,.lst 6 (x.Vars.map DDecl.enc) none,.lst 7 (x.Eqs.map DEq.enc) none]
theorem DNode.enc_eq (x: DNode): x.enc = .agg [.s x.Name,.lst 6 (x.Ins.map DDecl.enc) none,.lst 6 (x.Outs.map DDecl.enc) none,.lst 6 (x.Vars.map DDecl.enc) none,.lst 7 (x.Eqs.map DEq.enc) none] := rfl
theorem DNode.enc_cells (x: DNode): x.enc.cells = [.s x.Name,.lst 6 (x.Ins.map DDecl.enc) none,.lst 6 (x.Outs.map DDecl.enc) none,.lst 6 (x.Vars.map DDecl.enc) none,.lst 7 (x.Eqs.map DEq.enc) none] := rfl
theorem DNode.fold (x: DNode): AV.agg [.s x.Name,.lst 6 (x.Ins.map DDecl.enc) none,.lst 6 (x.Outs.map DDecl.enc) none,.lst 6 (x.Vars.map DDecl.enc) none,.lst 7 (x.Eqs.map DEq.enc) none] = x.enc := rfl
theorem DNode.pure (x: DNode): Pure x.enc := by
 refine .agg _ ?_
 repeat' first | exact pure_nil | refine pure_cons ?_ ?_ | exact .raw _ | exact pure_strs _ | exact pure_ints _ | exact pure_u8s _ | exact pure_ints2 _ | exact pure_lst _ | exact pure_list DDecl.pure _ | exact pure_list DEq.pure _
theorem DNode.isAgg (x: DNode): isAggAV x.enc = true := rfl
theorem DNode.pures (l: List DNode): Pure (.lst 5 (l.map DNode.enc) none) := pure_list DNode.pure l
instance (x: DNode): PureI x.enc := ⟨DNode.pure x⟩
instance (l: List DNode): PureI (.lst 5 (l.map DNode.enc) none) := ⟨DNode.pures l⟩
structure DProg where
 Enums: List DEnum
 Nodes: List DNode
def DProg.enc (x: DProg): AV := .agg [.lst 2 (x.Enums.map DEnum.enc) none,.lst 5 (x.Nodes.map DNode.enc) none]
theorem DProg.enc_eq (x: DProg): x.enc = .agg [.lst 2 (x.Enums.map DEnum.enc) none,.lst 5 (x.Nodes.map DNode.enc) none] := rfl
theorem DProg.enc_cells (x: DProg): x.enc.cells = [.lst 2 (x.Enums.map DEnum.enc) none,.lst 5 (x.Nodes.map DNode.enc) none] := rfl
theorem DProg.fold (x: DProg): AV.agg [.lst 2 (x.Enums.map DEnum.enc) none,.lst 5 (x.Nodes.map DNode.enc) none] = x.enc := rfl
theorem DProg.pure (x: DProg): Pure x.enc := by
 refine .agg _ ?_
 repeat' first | exact pure_nil | refine pure_cons ?_ ?_ | exact .raw _ | exact pure_strs _ | exact pure_ints _ | exact pure_u8s _ | exact pure_ints2 _ | exact pure_lst _ | exact pure_list DEnum.pure _ | exact pure_list DNode.pure _
theorem DProg.isAgg (x: DProg): isAggAV x.enc = true := rfl
theorem DProg.pures (l: List DProg): Pure (.lst 2 (l.map DProg.enc) none) := pure_list DProg.pure l
instance (x: DProg): PureI x.enc := ⟨DProg.pure x⟩
instance (l: List DProg): PureI (.lst 2 (l.map DProg.enc) none) := ⟨DProg.pures l⟩
structure DCond where
 Var: ByteArray
 Val: Int
 deriving DecidableEq
def DCond.enc (x: DCond): AV := .agg [.s x.Var,.i x.Val]
theorem DCond.enc_eq (x: DCond): x.enc = .agg [.s x.Var,.i x.Val] := rfl
theorem DCond.enc_cells (x: DCond): x.enc.cells = [.s x.Var,.i x.Val] := rfl
theorem DCond.fold (x: DCond): AV.agg [.s x.Var,.i x.Val] = x.enc := rfl
theorem DCond.pure (x: DCond): Pure x.enc := by
 refine .agg _ ?_
 repeat' first | exact pure_nil | refine pure_cons ?_ ?_ | exact .raw _ | exact pure_strs _ | exact pure_ints _ | exact pure_u8s _ | exact pure_ints2 _ | exact pure_lst _
theorem DCond.isAgg (x: DCond): isAggAV x.enc = true := rfl
theorem DCond.pures (l: List DCond): Pure (.lst 2 (l.map DCond.enc) none) := pure_list DCond.pure l
instance (x: DCond): PureI x.enc := ⟨DCond.pure x⟩
instance (l: List DCond): PureI (.lst 2 (l.map DCond.enc) none) := ⟨DCond.pures l⟩
structure DAtom where
 Var: ByteArray
 N: Int
 deriving DecidableEq
def DAtom.enc (x: DAtom): AV := .agg [.s x.Var,.i x.N]
theorem DAtom.enc_eq (x: DAtom): x.enc = .agg [.s x.Var,.i x.N] := rfl
theorem DAtom.enc_cells (x: DAtom): x.enc.cells = [.s x.Var,.i x.N] := rfl
theorem DAtom.fold (x: DAtom): AV.agg [.s x.Var,.i x.N] = x.enc := rfl
theorem DAtom.pure (x: DAtom): Pure x.enc := by
 refine .agg _ ?_
 repeat' first | exact pure_nil | refine pure_cons ?_ ?_ | exact .raw _ | exact pure_strs _ | exact pure_ints _ | exact pure_u8s _ | exact pure_ints2 _ | exact pure_lst _
theorem DAtom.isAgg (x: DAtom): isAggAV x.enc = true := rfl
theorem DAtom.pures (l: List DAtom): Pure (.lst 2 (l.map DAtom.enc) none) := pure_list DAtom.pure l
instance (x: DAtom): PureI x.enc := ⟨DAtom.pure x⟩
instance (l: List DAtom): PureI (.lst 2 (l.map DAtom.enc) none) := ⟨DAtom.pures l⟩
structure DPlain where
 Kind: Int
 Names: List ByteArray
 Op: Int
 Args: List DAtom
 Init: List Int
 Node: Int
 Reset: Bool
 Every: DAtom
 On: List DCond
def DPlain.enc (x: DPlain): AV := .agg [.i x.Kind,.lst 1 (x.Names.map AV.s) none,.i x.Op,.lst 2 (x.Args.map DAtom.enc) none,.lst 1 (x.Init.map AV.i) none,.i x.Node,.b x.Reset,.s x.Every.Var,.i x.Every.N,.lst 2 (x.On.map DCond.enc) none]
theorem DPlain.enc_eq (x: DPlain): x.enc = .agg [.i x.Kind,.lst 1 (x.Names.map AV.s) none,.i x.Op,.lst 2 (x.Args.map DAtom.enc) none,.lst 1 (x.Init.map AV.i) none,.i x.Node,.b x.Reset,.s x.Every.Var,.i x.Every.N,.lst 2 (x.On.map DCond.enc) none] := rfl
theorem DPlain.enc_cells (x: DPlain): x.enc.cells = [.i x.Kind,.lst 1 (x.Names.map AV.s) none,.i x.Op,.lst 2 (x.Args.map DAtom.enc) none,.lst 1 (x.Init.map AV.i) none,.i x.Node,.b x.Reset,.s x.Every.Var,.i x.Every.N,.lst 2 (x.On.map DCond.enc) none] := rfl
theorem DPlain.fold (x: DPlain): AV.agg [.i x.Kind,.lst 1 (x.Names.map AV.s) none,.i x.Op,.lst 2 (x.Args.map DAtom.enc) none,.lst 1 (x.Init.map AV.i) none,.i x.Node,.b x.Reset,.s x.Every.Var,.i x.Every.N,.lst 2 (x.On.map DCond.enc) none] = x.enc := rfl
theorem DPlain.pure (x: DPlain): Pure x.enc := by
 refine .agg _ ?_
 repeat' first | exact pure_nil | refine pure_cons ?_ ?_ | exact .raw _ | exact pure_strs _ | exact pure_ints _ | exact pure_u8s _ | exact pure_ints2 _ | exact pure_lst _ | exact pure_list DCond.pure _ | exact pure_list DAtom.pure _
theorem DPlain.isAgg (x: DPlain): isAggAV x.enc = true := rfl
theorem DPlain.pures (l: List DPlain): Pure (.lst 10 (l.map DPlain.enc) none) := pure_list DPlain.pure l
instance (x: DPlain): PureI x.enc := ⟨DPlain.pure x⟩
instance (l: List DPlain): PureI (.lst 10 (l.map DPlain.enc) none) := ⟨DPlain.pures l⟩
structure DVar where
 Name: ByteArray
 Ty: DTy
 On: List DCond
def DVar.enc (x: DVar): AV := .agg [.s x.Name,.i x.Ty.Kind,.i x.Ty.Enum,.i x.Ty.Len,.lst 2 (x.On.map DCond.enc) none]
theorem DVar.enc_eq (x: DVar): x.enc = .agg [.s x.Name,.i x.Ty.Kind,.i x.Ty.Enum,.i x.Ty.Len,.lst 2 (x.On.map DCond.enc) none] := rfl
theorem DVar.enc_cells (x: DVar): x.enc.cells = [.s x.Name,.i x.Ty.Kind,.i x.Ty.Enum,.i x.Ty.Len,.lst 2 (x.On.map DCond.enc) none] := rfl
theorem DVar.fold (x: DVar): AV.agg [.s x.Name,.i x.Ty.Kind,.i x.Ty.Enum,.i x.Ty.Len,.lst 2 (x.On.map DCond.enc) none] = x.enc := rfl
theorem DVar.pure (x: DVar): Pure x.enc := by
 refine .agg _ ?_
 repeat' first | exact pure_nil | refine pure_cons ?_ ?_ | exact .raw _ | exact pure_strs _ | exact pure_ints _ | exact pure_u8s _ | exact pure_ints2 _ | exact pure_lst _ | exact pure_list DCond.pure _
theorem DVar.isAgg (x: DVar): isAggAV x.enc = true := rfl
theorem DVar.pures (l: List DVar): Pure (.lst 5 (l.map DVar.enc) none) := pure_list DVar.pure l
instance (x: DVar): PureI x.enc := ⟨DVar.pure x⟩
instance (l: List DVar): PureI (.lst 5 (l.map DVar.enc) none) := ⟨DVar.pures l⟩
structure DFlow where
 Name: ByteArray
 Ins: List DVar
 Outs: List DVar
 Vars: List DVar
 Eqs: List DPlain
def DFlow.enc (x: DFlow): AV := .agg [.s x.Name,.lst 5 (x.Ins.map DVar.enc) none,.lst 5 (x.Outs.map DVar.enc) none,.lst 5 (x.Vars.map DVar.enc) none,.lst 10 (x.Eqs.map DPlain.enc) none]
theorem DFlow.enc_eq (x: DFlow): x.enc = .agg [.s x.Name,.lst 5 (x.Ins.map DVar.enc) none,.lst 5 (x.Outs.map DVar.enc) none,.lst 5 (x.Vars.map DVar.enc) none,.lst 10 (x.Eqs.map DPlain.enc) none] := rfl
theorem DFlow.enc_cells (x: DFlow): x.enc.cells = [.s x.Name,.lst 5 (x.Ins.map DVar.enc) none,.lst 5 (x.Outs.map DVar.enc) none,.lst 5 (x.Vars.map DVar.enc) none,.lst 10 (x.Eqs.map DPlain.enc) none] := rfl
theorem DFlow.fold (x: DFlow): AV.agg [.s x.Name,.lst 5 (x.Ins.map DVar.enc) none,.lst 5 (x.Outs.map DVar.enc) none,.lst 5 (x.Vars.map DVar.enc) none,.lst 10 (x.Eqs.map DPlain.enc) none] = x.enc := rfl
theorem DFlow.pure (x: DFlow): Pure x.enc := by
 refine .agg _ ?_
 repeat' first | exact pure_nil | refine pure_cons ?_ ?_ | exact .raw _ | exact pure_strs _ | exact pure_ints _ | exact pure_u8s _ | exact pure_ints2 _ | exact pure_lst _ | exact pure_list DPlain.pure _ | exact pure_list DVar.pure _
theorem DFlow.isAgg (x: DFlow): isAggAV x.enc = true := rfl
theorem DFlow.pures (l: List DFlow): Pure (.lst 5 (l.map DFlow.enc) none) := pure_list DFlow.pure l
instance (x: DFlow): PureI x.enc := ⟨DFlow.pure x⟩
instance (l: List DFlow): PureI (.lst 5 (l.map DFlow.enc) none) := ⟨DFlow.pures l⟩
structure DFlows where
 Enums: List DEnum
 Flows: List DFlow
def DFlows.enc (x: DFlows): AV := .agg [.lst 2 (x.Enums.map DEnum.enc) none,.lst 5 (x.Flows.map DFlow.enc) none]
theorem DFlows.enc_eq (x: DFlows): x.enc = .agg [.lst 2 (x.Enums.map DEnum.enc) none,.lst 5 (x.Flows.map DFlow.enc) none] := rfl
theorem DFlows.enc_cells (x: DFlows): x.enc.cells = [.lst 2 (x.Enums.map DEnum.enc) none,.lst 5 (x.Flows.map DFlow.enc) none] := rfl
theorem DFlows.fold (x: DFlows): AV.agg [.lst 2 (x.Enums.map DEnum.enc) none,.lst 5 (x.Flows.map DFlow.enc) none] = x.enc := rfl
theorem DFlows.pure (x: DFlows): Pure x.enc := by
 refine .agg _ ?_
 repeat' first | exact pure_nil | refine pure_cons ?_ ?_ | exact .raw _ | exact pure_strs _ | exact pure_ints _ | exact pure_u8s _ | exact pure_ints2 _ | exact pure_lst _ | exact pure_list DEnum.pure _ | exact pure_list DFlow.pure _
theorem DFlows.isAgg (x: DFlows): isAggAV x.enc = true := rfl
theorem DFlows.pures (l: List DFlows): Pure (.lst 2 (l.map DFlows.enc) none) := pure_list DFlows.pure l
instance (x: DFlows): PureI x.enc := ⟨DFlows.pure x⟩
instance (l: List DFlows): PureI (.lst 2 (l.map DFlows.enc) none) := ⟨DFlows.pures l⟩
structure DAsked where
 Name: ByteArray
 E: Ex
 On: List DCond
def DAsked.enc (x: DAsked): AV := .agg [.s x.Name,.i x.E.kind,.i x.E.n,.s x.E.name,.i x.E.op,.lst 1 (x.E.arms.map AV.s) none,.lst 6 (x.E.subs.map Ex.enc) none,.lst 2 (x.On.map DCond.enc) none]
theorem DAsked.enc_eq (x: DAsked): x.enc = .agg [.s x.Name,.i x.E.kind,.i x.E.n,.s x.E.name,.i x.E.op,.lst 1 (x.E.arms.map AV.s) none,.lst 6 (x.E.subs.map Ex.enc) none,.lst 2 (x.On.map DCond.enc) none] := rfl
theorem DAsked.enc_cells (x: DAsked): x.enc.cells = [.s x.Name,.i x.E.kind,.i x.E.n,.s x.E.name,.i x.E.op,.lst 1 (x.E.arms.map AV.s) none,.lst 6 (x.E.subs.map Ex.enc) none,.lst 2 (x.On.map DCond.enc) none] := rfl
theorem DAsked.fold (x: DAsked): AV.agg [.s x.Name,.i x.E.kind,.i x.E.n,.s x.E.name,.i x.E.op,.lst 1 (x.E.arms.map AV.s) none,.lst 6 (x.E.subs.map Ex.enc) none,.lst 2 (x.On.map DCond.enc) none] = x.enc := rfl
theorem DAsked.pure (x: DAsked): Pure x.enc := by
 refine .agg _ ?_
 repeat' first | exact pure_nil | refine pure_cons ?_ ?_ | exact .raw _ | exact pure_strs _ | exact pure_ints _ | exact pure_u8s _ | exact pure_ints2 _ | exact pure_lst _ | exact pure_list DCond.pure _
theorem DAsked.isAgg (x: DAsked): isAggAV x.enc = true := rfl
theorem DAsked.pures (l: List DAsked): Pure (.lst 8 (l.map DAsked.enc) none) := pure_list DAsked.pure l
instance (x: DAsked): PureI x.enc := ⟨DAsked.pure x⟩
instance (l: List DAsked): PureI (.lst 8 (l.map DAsked.enc) none) := ⟨DAsked.pures l⟩
structure DFault where
 Node: Int
 Eq: Int
 Err: Int
 deriving DecidableEq
def DFault.enc (x: DFault): AV := .agg [.i x.Node,.i x.Eq,.i x.Err]
theorem DFault.enc_eq (x: DFault): x.enc = .agg [.i x.Node,.i x.Eq,.i x.Err] := rfl
theorem DFault.enc_cells (x: DFault): x.enc.cells = [.i x.Node,.i x.Eq,.i x.Err] := rfl
theorem DFault.fold (x: DFault): AV.agg [.i x.Node,.i x.Eq,.i x.Err] = x.enc := rfl
theorem DFault.pure (x: DFault): Pure x.enc := by
 refine .agg _ ?_
 repeat' first | exact pure_nil | refine pure_cons ?_ ?_ | exact .raw _ | exact pure_strs _ | exact pure_ints _ | exact pure_u8s _ | exact pure_ints2 _ | exact pure_lst _
theorem DFault.isAgg (x: DFault): isAggAV x.enc = true := rfl
theorem DFault.pures (l: List DFault): Pure (.lst 3 (l.map DFault.enc) none) := pure_list DFault.pure l
instance (x: DFault): PureI x.enc := ⟨DFault.pure x⟩
instance (l: List DFault): PureI (.lst 3 (l.map DFault.enc) none) := ⟨DFault.pures l⟩
structure DCell where
 Path: ByteArray
 Vals: List Int
def DCell.enc (x: DCell): AV := .agg [.s x.Path,.lst 1 (x.Vals.map AV.i) none]
theorem DCell.enc_eq (x: DCell): x.enc = .agg [.s x.Path,.lst 1 (x.Vals.map AV.i) none] := rfl
theorem DCell.enc_cells (x: DCell): x.enc.cells = [.s x.Path,.lst 1 (x.Vals.map AV.i) none] := rfl
theorem DCell.fold (x: DCell): AV.agg [.s x.Path,.lst 1 (x.Vals.map AV.i) none] = x.enc := rfl
theorem DCell.pure (x: DCell): Pure x.enc := by
 refine .agg _ ?_
 repeat' first | exact pure_nil | refine pure_cons ?_ ?_ | exact .raw _ | exact pure_strs _ | exact pure_ints _ | exact pure_u8s _ | exact pure_ints2 _ | exact pure_lst _
theorem DCell.isAgg (x: DCell): isAggAV x.enc = true := rfl
theorem DCell.pures (l: List DCell): Pure (.lst 2 (l.map DCell.enc) none) := pure_list DCell.pure l
instance (x: DCell): PureI x.enc := ⟨DCell.pure x⟩
instance (l: List DCell): PureI (.lst 2 (l.map DCell.enc) none) := ⟨DCell.pures l⟩
structure DReply where
 Err: Int
 Outs: List (List Int)
 Cells: List DCell
def DReply.enc (x: DReply): AV := .agg [.i x.Err,.lst 1 (x.Outs.map AV.il) none,.lst 2 (x.Cells.map DCell.enc) none]
theorem DReply.enc_eq (x: DReply): x.enc = .agg [.i x.Err,.lst 1 (x.Outs.map AV.il) none,.lst 2 (x.Cells.map DCell.enc) none] := rfl
theorem DReply.enc_cells (x: DReply): x.enc.cells = [.i x.Err,.lst 1 (x.Outs.map AV.il) none,.lst 2 (x.Cells.map DCell.enc) none] := rfl
theorem DReply.fold (x: DReply): AV.agg [.i x.Err,.lst 1 (x.Outs.map AV.il) none,.lst 2 (x.Cells.map DCell.enc) none] = x.enc := rfl
theorem DReply.pure (x: DReply): Pure x.enc := by
 refine .agg _ ?_
 repeat' first | exact pure_nil | refine pure_cons ?_ ?_ | exact .raw _ | exact pure_strs _ | exact pure_ints _ | exact pure_u8s _ | exact pure_ints2 _ | exact pure_lst _ | exact pure_list DCell.pure _
theorem DReply.isAgg (x: DReply): isAggAV x.enc = true := rfl
theorem DReply.pures (l: List DReply): Pure (.lst 3 (l.map DReply.enc) none) := pure_list DReply.pure l
instance (x: DReply): PureI x.enc := ⟨DReply.pure x⟩
instance (l: List DReply): PureI (.lst 3 (l.map DReply.enc) none) := ⟨DReply.pures l⟩
structure DAsk where
 Text: ByteArray
 Bytes: Bool
 Image: List Int
 Moves: ByteArray
 Fuel: Int
def DAsk.enc (x: DAsk): AV := .agg [.s x.Text,.b x.Bytes,.lst 1 (x.Image.map AV.u8) none,.s x.Moves,.i x.Fuel]
theorem DAsk.enc_eq (x: DAsk): x.enc = .agg [.s x.Text,.b x.Bytes,.lst 1 (x.Image.map AV.u8) none,.s x.Moves,.i x.Fuel] := rfl
theorem DAsk.enc_cells (x: DAsk): x.enc.cells = [.s x.Text,.b x.Bytes,.lst 1 (x.Image.map AV.u8) none,.s x.Moves,.i x.Fuel] := rfl
theorem DAsk.fold (x: DAsk): AV.agg [.s x.Text,.b x.Bytes,.lst 1 (x.Image.map AV.u8) none,.s x.Moves,.i x.Fuel] = x.enc := rfl
theorem DAsk.pure (x: DAsk): Pure x.enc := by
 refine .agg _ ?_
 repeat' first | exact pure_nil | refine pure_cons ?_ ?_ | exact .raw _ | exact pure_strs _ | exact pure_ints _ | exact pure_u8s _ | exact pure_ints2 _ | exact pure_lst _
theorem DAsk.isAgg (x: DAsk): isAggAV x.enc = true := rfl
theorem DAsk.pures (l: List DAsk): Pure (.lst 5 (l.map DAsk.enc) none) := pure_list DAsk.pure l
instance (x: DAsk): PureI x.enc := ⟨DAsk.pure x⟩
instance (l: List DAsk): PureI (.lst 5 (l.map DAsk.enc) none) := ⟨DAsk.pures l⟩
structure DOp where
 Kind: Int
 Ask: DAsk
 Ins: List (List Int)
 Fault: Int
def DOp.enc (x: DOp): AV := .agg [.i x.Kind,.s x.Ask.Text,.b x.Ask.Bytes,.lst 1 (x.Ask.Image.map AV.u8) none,.s x.Ask.Moves,.i x.Ask.Fuel,.lst 1 (x.Ins.map AV.il) none,.i x.Fault]
theorem DOp.enc_eq (x: DOp): x.enc = .agg [.i x.Kind,.s x.Ask.Text,.b x.Ask.Bytes,.lst 1 (x.Ask.Image.map AV.u8) none,.s x.Ask.Moves,.i x.Ask.Fuel,.lst 1 (x.Ins.map AV.il) none,.i x.Fault] := rfl
theorem DOp.enc_cells (x: DOp): x.enc.cells = [.i x.Kind,.s x.Ask.Text,.b x.Ask.Bytes,.lst 1 (x.Ask.Image.map AV.u8) none,.s x.Ask.Moves,.i x.Ask.Fuel,.lst 1 (x.Ins.map AV.il) none,.i x.Fault] := rfl
theorem DOp.fold (x: DOp): AV.agg [.i x.Kind,.s x.Ask.Text,.b x.Ask.Bytes,.lst 1 (x.Ask.Image.map AV.u8) none,.s x.Ask.Moves,.i x.Ask.Fuel,.lst 1 (x.Ins.map AV.il) none,.i x.Fault] = x.enc := rfl
theorem DOp.pure (x: DOp): Pure x.enc := by
 refine .agg _ ?_
 repeat' first | exact pure_nil | refine pure_cons ?_ ?_ | exact .raw _ | exact pure_strs _ | exact pure_ints _ | exact pure_u8s _ | exact pure_ints2 _ | exact pure_lst _
theorem DOp.isAgg (x: DOp): isAggAV x.enc = true := rfl
theorem DOp.pures (l: List DOp): Pure (.lst 8 (l.map DOp.enc) none) := pure_list DOp.pure l
instance (x: DOp): PureI x.enc := ⟨DOp.pure x⟩
instance (l: List DOp): PureI (.lst 8 (l.map DOp.enc) none) := ⟨DOp.pures l⟩
abbrev I64 (n: Int): Prop := -9223372036854775808 ≤ n ∧ n ≤ 9223372036854775807
abbrev S47 (s: ByteArray): Prop := s.size ≤ maxLen
mutual
def Ex.ok: Ex → Prop
 | .mk k n m o a s => I64 k ∧ I64 n ∧ S47 m ∧ I64 o ∧ (∀ y ∈ a,S47 y) ∧ Ex.oks s
def Ex.oks: List Ex → Prop
 | [] => True
 | x :: xs => Ex.ok x ∧ Ex.oks xs
end
theorem oks_iff (l: List Ex): Ex.oks l ↔ ∀ x ∈ l,x.ok := by
 induction l with
 | nil => simp [Ex.oks]
 | cons x l ih => simp [Ex.oks,ih]
theorem Ex.ok_eq (e: Ex): e.ok ↔ (I64 e.kind ∧ I64 e.n ∧ S47 e.name ∧ I64 e.op ∧ (∀ y ∈ e.arms,S47 y) ∧ ∀ x ∈ e.subs,x.ok) := by
 cases e; simp [Ex.ok,oks_iff,Ex.kind,Ex.n,Ex.name,Ex.op,Ex.arms,Ex.subs]
def DTy.ok (x: DTy): Prop := I64 x.Kind ∧ I64 x.Enum ∧ I64 x.Len
def DEnum.ok (x: DEnum): Prop := S47 x.Name ∧ (∀ y ∈ x.Ctors,S47 y)
def DDecl.ok (x: DDecl): Prop := S47 x.Name ∧ x.Ty.ok ∧ S47 x.On ∧ S47 x.Ctor
def DEq.ok (x: DEq): Prop := (∀ y ∈ x.Names,S47 y) ∧ x.E.ok
def DNode.ok (x: DNode): Prop := S47 x.Name ∧ (∀ y ∈ x.Ins,y.ok) ∧ (∀ y ∈ x.Outs,y.ok) ∧ (∀ y ∈ x.Vars,y.ok) ∧ (∀ y ∈ x.Eqs,y.ok)
def DProg.ok (x: DProg): Prop := (∀ y ∈ x.Enums,y.ok) ∧ (∀ y ∈ x.Nodes,y.ok)
def DCond.ok (x: DCond): Prop := S47 x.Var ∧ I64 x.Val
def DAtom.ok (x: DAtom): Prop := S47 x.Var ∧ I64 x.N
def DPlain.ok (x: DPlain): Prop := I64 x.Kind ∧ (∀ y ∈ x.Names,S47 y) ∧ I64 x.Op ∧ (∀ y ∈ x.Args,y.ok) ∧ (∀ y ∈ x.Init,I64 y) ∧ I64 x.Node ∧ x.Every.ok ∧ (∀ y ∈ x.On,y.ok)
def DVar.ok (x: DVar): Prop := S47 x.Name ∧ x.Ty.ok ∧ (∀ y ∈ x.On,y.ok)
def DFlow.ok (x: DFlow): Prop := S47 x.Name ∧ (∀ y ∈ x.Ins,y.ok) ∧ (∀ y ∈ x.Outs,y.ok) ∧ (∀ y ∈ x.Vars,y.ok) ∧ (∀ y ∈ x.Eqs,y.ok)
def DFlows.ok (x: DFlows): Prop := (∀ y ∈ x.Enums,y.ok) ∧ (∀ y ∈ x.Flows,y.ok)
def DAsked.ok (x: DAsked): Prop := S47 x.Name ∧ x.E.ok ∧ (∀ y ∈ x.On,y.ok)
def DFault.ok (x: DFault): Prop := I64 x.Node ∧ I64 x.Eq ∧ I64 x.Err
def DCell.ok (x: DCell): Prop := S47 x.Path ∧ (∀ y ∈ x.Vals,I64 y)
def DReply.ok (x: DReply): Prop := I64 x.Err ∧ (∀ z ∈ x.Outs,∀ y ∈ z,I64 y) ∧ (∀ y ∈ x.Cells,y.ok)
def DAsk.ok (x: DAsk): Prop := S47 x.Text ∧ (∀ y ∈ x.Image,0 ≤ y ∧ y ≤ 255) ∧ S47 x.Moves ∧ I64 x.Fuel
def DOp.ok (x: DOp): Prop := I64 x.Kind ∧ x.Ask.ok ∧ (∀ z ∈ x.Ins,∀ y ∈ z,I64 y) ∧ I64 x.Fault
attribute [go_sem] DTy.fold DTy.enc_cells DTy.isAgg DEnum.fold DEnum.enc_cells DEnum.isAgg DDecl.fold DDecl.enc_cells DDecl.isAgg DEq.fold DEq.enc_cells DEq.isAgg DNode.fold DNode.enc_cells DNode.isAgg DProg.fold DProg.enc_cells DProg.isAgg DCond.fold DCond.enc_cells DCond.isAgg DAtom.fold DAtom.enc_cells DAtom.isAgg DPlain.fold DPlain.enc_cells DPlain.isAgg DVar.fold DVar.enc_cells DVar.isAgg DFlow.fold DFlow.enc_cells DFlow.isAgg DFlows.fold DFlows.enc_cells DFlows.isAgg DAsked.fold DAsked.enc_cells DAsked.isAgg DFault.fold DFault.enc_cells DFault.isAgg DCell.fold DCell.enc_cells DCell.isAgg DReply.fold DReply.enc_cells DReply.isAgg DAsk.fold DAsk.enc_cells DAsk.isAgg DOp.fold DOp.enc_cells DOp.isAgg
attribute [irreducible] DTy.enc DEnum.enc DDecl.enc DEq.enc DNode.enc DProg.enc DCond.enc DAtom.enc DPlain.enc DVar.enc DFlow.enc DFlows.enc DAsked.enc DFault.enc DCell.enc DReply.enc DAsk.enc DOp.enc
end Go.Abs
namespace Go.Abs
open Go.RowKit
def idxOf {α: Type} (p: α → Bool) (l: List α): Int :=
 match l.findIdx? p with
 | some i => (i: Nat)
 | none => -1
theorem idxOf_at {α: Type} {p: α → Bool} {l: List α} {i: Nat} {x: α} (h0: ∀ y ∈ l.take i,p y = false) (hx: l[((i: Int)).toNat]? = some x) (hp: p x = true): idxOf p l = (i: Int) := by
 rw [Int.toNat_natCast] at hx
 have: l.findIdx? p = some i := by
  rw [List.findIdx?_eq_some_iff_getElem]
  obtain ⟨hi,rfl⟩ := List.getElem?_eq_some_iff.1 hx
  refine ⟨hi,hp,fun j hj => ?_⟩
  have := h0 l[j] (List.mem_take_iff_getElem.2 ⟨j,by omega,rfl⟩)
  simp [this]
 simp [idxOf,this]
theorem idxOf_none {α: Type} {p: α → Bool} {l: List α} (h0: ∀ y ∈ l,p y = false): idxOf p l = -1 := by
 have: l.findIdx? p = none := by
  rw [List.findIdx?_eq_none_iff]
  exact h0
 simp [idxOf,this]
theorem idxOf_cases {α: Type} (p: α → Bool) (l: List α): (idxOf p l = -1 ∧ l.find? p = none) ∨ ∃ (i: Nat) (x: α),idxOf p l = (i: Int) ∧ l[i]? = some x ∧ l.find? p = some x ∧ p x = true ∧ i < l.length := by
 cases h: l.findIdx? p with
 | none =>
  left
  refine ⟨by simp [idxOf,h],?_⟩
  rw [List.findIdx?_eq_none_iff] at h
  rw [List.find?_eq_none]
  intro x hx
  simp [h x hx]
 | some i =>
  right
  have h0 := h
  rw [List.findIdx?_eq_some_iff_getElem] at h
  obtain ⟨hi,hp,hn⟩ := h
  refine ⟨i,l[i],by simp [idxOf,h0],List.getElem?_eq_getElem hi,?_,hp,hi⟩
  rw [List.find?_eq_some_iff_getElem]
  exact ⟨hp,i,hi,rfl,fun j hj => by simpa using hn j hj⟩
theorem take_flatten_le {α: Type} (ls: List (List α)) (i: Nat): (ls.take i).flatten.length ≤ ls.flatten.length := by
 have h: ls.flatten.length = (ls.take i ++ ls.drop i).flatten.length := by rw [List.take_append_drop]
 rw [List.flatten_append,List.length_append] at h
 omega
end Go.Abs
namespace Go.Abs
abbrev bts (t: ByteArray): List UInt8 := t.data.toList
theorem bts_len (t: ByteArray): (bts t).length = t.size := by
 show t.data.toList.length = t.data.size
 rw [Array.length_toList]
theorem bts_inj {s t: ByteArray} (h: bts s = bts t): s = t := by
 cases s; cases t
 simp only [bts] at h
 congr 1
 exact Array.ext' h
def inB (a b c: Int): Bool := decide (a ≤ c) && decide (c ≤ b)
def okB (c: Int): Bool := inB 97 122 c || inB 65 90 c || inB 48 57 c || decide (c = 95)
def firstB (F: Int → Bool): List UInt8 → Bool
 | [] => false
 | c :: _ => F c.toNat
def nameG (F: Int → Bool) (t: ByteArray): Bool := decide (1 ≤ t.size) && decide (t.size ≤ 12) && firstB F (bts t) && (bts t).all fun c => okB c.toNat
def firstNo0: List UInt8 → Bool
 | [] => true
 | c :: _ => !decide (c.toNat = 48)
def numG (t: ByteArray): Bool := decide (1 ≤ t.size) && decide (t.size ≤ 3) && firstNo0 (bts t) && (bts t).all fun c => inB 48 57 c.toNat
theorem decode_lo {s: ByteArray} {p: Nat} {c: UInt8} (hc: (bts s)[p]? = some c) (hlo: c.toNat < 128): Utf8.decode s p = (c.toNat,1) := by
 obtain ⟨h,he⟩ := List.getElem?_eq_some_iff.1 hc
 have hp: p < s.size := by rw [bts_len] at h; exact h
 have e: s[p]'hp = c := by rw [← he]; rfl
 rw [decode_ascii s p hp (by rw [e]; exact hlo),e]
theorem decode_hi {s: ByteArray} {p: Nat} {c: UInt8} (hc: (bts s)[p]? = some c) (hhi: 128 ≤ c.toNat): 128 ≤ (Utf8.decode s p).1 := by
 obtain ⟨h,he⟩ := List.getElem?_eq_some_iff.1 hc
 have hp: p < s.size := by rw [bts_len] at h; exact h
 have e: (s.get! (p + 0)).toNat = c.toNat := by
  have: s.get! (p + 0) = s[p]'hp := by
   show s.get! p = _
   simp [ByteArray.get!,getElem!_pos,hp]
   rfl
  rw [this,← he]; rfl
 unfold Utf8.decode
 simp only [e,Utf8.runeError]
 rw [if_neg (by omega)]
 repeat' split
 all_goals (first | (simp_all; done) | (simp_all; omega) | (dsimp only; omega))
def splitL (c: UInt8): List UInt8 → List (List UInt8)
 | [] => [[]]
 | x :: xs => if x = c then [] :: splitL c xs else match splitL c xs with
  | [] => [[x]]
  | y :: ys => (x :: y) :: ys
theorem splitL_ne (c: UInt8) (l: List UInt8): splitL c l ≠ [] := by
 cases l with
 | nil => simp [splitL]
 | cons x l =>
  rw [splitL]
  split
  ·
   simp
  ·
   split <;> simp
theorem splitL_no {c: UInt8}: ∀ {a: List UInt8},c ∉ a → splitL c a = [a]
 | [],_ => rfl
 | x :: a,h => by
  rw [splitL,if_neg (fun e => h (by simp [e])),splitL_no (fun hm => h (by simp [hm]))]
theorem splitL_at {c: UInt8}: ∀ {a: List UInt8} (b: List UInt8),c ∉ a → splitL c (a ++ c :: b) = a :: splitL c b
 | [],b,_ => by rw [List.nil_append,splitL,if_pos rfl]
 | x :: a,b,h => by
  rw [List.cons_append,splitL,if_neg (fun e => h (by simp [e])),splitL_at b (fun hm => h (by simp [hm]))]
theorem splitL_len {c: UInt8}: ∀ (a: List UInt8),(splitL c a).length = a.count c + 1
 | [] => rfl
 | x :: a => by
  rw [splitL,List.count_cons]
  have ih := splitL_len (c := c) a
  split
  ·
   rename_i h
   simp [h,ih]
  ·
   rename_i h
   cases hs: splitL c a with
   | nil => exact absurd hs (splitL_ne c a)
   | cons y ys =>
    rw [hs] at ih
    simp at ih ⊢
    simp [h,ih]
def pieces (c: UInt8) (t: ByteArray): List ByteArray := (splitL c (bts t)).map fun l => ⟨l.toArray⟩
theorem pieces_ne (c: UInt8) (t: ByteArray): pieces c t ≠ [] := by
 unfold pieces
 intro h
 exact splitL_ne c _ (List.map_eq_nil_iff.1 h)
def words: List ByteArray := [⟨#[110,111,100,101]⟩,⟨#[114,101,116,117,114,110,115]⟩,⟨#[118,97,114]⟩,⟨#[108,101,116]⟩,⟨#[116,101,108]⟩,⟨#[101,110,117,109]⟩,⟨#[105,102]⟩,⟨#[116,104,101,110]⟩,⟨#[101,108,115,101]⟩,⟨#[102,98,121]⟩,⟨#[112,114,101]⟩,⟨#[119,104,101,110]⟩,⟨#[109,101,114,103,101]⟩,⟨#[101,118,101,114,121]⟩,⟨#[110,111,116]⟩,⟨#[97,110,100]⟩,⟨#[111,114]⟩,⟨#[120,111,114]⟩,⟨#[109,111,100]⟩,⟨#[116,114,117,101]⟩,⟨#[102,97,108,115,101]⟩,⟨#[105,110,116]⟩,⟨#[98,111,111,108]⟩,⟨#[119,105,116,104]⟩]
def wordF (t: ByteArray): Bool := words.any fun w => decide (t = w)
def lowF (t: ByteArray): Bool := nameG (inB 97 122) t && !wordF t
def highF (t: ByteArray): Bool := nameG (inB 65 90) t
def partF (t: ByteArray): Bool := match pieces 46 t with
 | [p] => lowF p
 | [p,q] => lowF p && numG q
 | _ => false
def pathF (t: ByteArray): Bool := (pieces 47 t).all partF
end Go.Abs
namespace Go.Abs
theorem raw_vals {S: Addr → Prop} {w: World} {φ: Nat → Loc} {vals: List Value} {vs: Array Value} (h: CAll S w φ (vals.map AV.raw) vs): vs = vals.toArray := by
 apply Array.ext'
 apply List.ext_getElem?
 intro i
 rw [Array.getElem?_toList,List.toList_toArray]
 cases hv: vals[i]? with
 | none =>
  have: vals.length ≤ i := List.getElem?_eq_none_iff.1 hv
  rw [Array.getElem?_eq_none_iff]
  have := h.1
  simp at this
  omega
 | some v =>
  obtain ⟨u,hu,hc⟩ := h.at (i := i) (a := .raw v) (by simp [hv])
  cases hc
  exact hu
theorem pcall_raw {P: Program} {f: FuncId} {vals: List Value} {v: Value} (hent: ∀ vs w,(callFunc f vs).run P w = .ok (.enter f vs) w) (hc: ∀ w,Calls P f vals.toArray w fun e w' => e = .returned v ∧ w' = w): PCall P f (vals.map AV.raw) (.raw v) := by
 refine ⟨fun x hx => by obtain ⟨y,_,rfl⟩ := List.mem_map.1 hx; exact .raw _,.raw _,fun S w vs hb ht hargs => ?_⟩
 have := raw_vals hargs
 subst this
 refine ⟨hent _ _,Calls.mono (hc w) ?_⟩
 rintro e w' ⟨rfl,rfl⟩
 exact ⟨v,S,rfl,.raw _,R.nil hb ht,Ext.refl _ _ _ _⟩
end Go.Abs
namespace Go.Abs
open Go.RowKit Go.Proofs Go.Sort
def Cells (k: Nat): Type := { l: List Value // l.length = k ∧ ∀ v ∈ l,v.oneCell' = true }
instance (k: Nat): Inhabited (Cells k) := ⟨⟨List.replicate k (.bool false),by simp,fun v hv => by rw [List.eq_of_mem_replicate hv]; rfl⟩⟩
theorem own_reverse {P: Program} {f: FuncId} {e: TypeId} {k: Nat} (hk0: 0 < k) (hent: ∀ vs w,(callFunc f vs).run P w = .ok (.enter f vs) w)
  (hcon: ∀ (blk cap: Nat) (d: Array (Cells k)) (w: World),HoldsK (fun x: Cells k => x.1) k w blk 0 d → d.size ≤ 9223372036854775807 →
   Calls P f #[.slice (some ⟨blk,0,none⟩) d.size cap] w fun e w' => e = .returned (.tuple #[]) ∧ ∃ n,w' = putRowK (fun x: Cells k => x.1) k (Sort.ahead w n) blk 0 d.reverse)
  (hemp: ∀ (a: Option Addr) (cap: Nat) (w: World),Calls P f #[.slice a 0 cap] w fun e w' => e = .returned (.tuple #[]) ∧ w' = w)
  {es: List AV} {kk: Nat} {h: List Blk} {K: AV → List Blk → Prop} (hk: h[kk]? = some (.own e k es)) (hK: K (.tup []) (h.set kk (.own e k es.reverse))): ACall P f [.own k kk es.length] h K := by
 intro S φ w vs0 hr hargs
 refine ⟨hent _ _,?_⟩
 obtain ⟨v0,hv0,c0⟩ := hargs.at (i := 0) rfl
 have hvs0: vs0 = #[v0] := by
  have hl := hargs.1
  apply Array.ext_getElem?
  intro i
  match i with
  | 0 => exact hv0
  | i + 1 => simp at hl ⊢; omega
 subst hvs0
 obtain ⟨u,g1,g2,g3⟩ := hr.blk kk _ hk
 have hsame: es.length = 0 → h.set kk (.own e k es.reverse) = h := by
  intro h0
  have: es = [] := List.eq_nil_of_length_eq_zero h0
  subst this
  apply List.ext_getElem?
  intro j
  rw [List.getElem?_set]
  by_cases ej: kk = j
  ·
   subst ej; rw [if_pos rfl,if_pos (lookupD hk)]; exact hk.symm
  ·
   rw [if_neg ej]
 have ret: C S w φ (.tup []) (.tuple #[]) := .tup [] #[] rfl (fun i a v h => by simp at h)
 rcases Nat.eq_zero_or_pos es.length with h0 | hpos
 ·
  rw [h0] at c0
  cases c0 with
  | own _ _ _ a cap hcap hmax ht =>
   refine Calls.mono (hemp a cap w) ?_
   rintro e w' ⟨rfl,rfl⟩
   rw [hsame h0] at hK
   exact ⟨_,_,_,S,φ,rfl,hK,ret,hr,Ext.refl _ _ _ _⟩
 ·
  rcases g3 with ⟨_,rfl⟩ | ⟨b,cap,vs,q1,q2,rfl,q4,q5,q6,q7⟩
  ·
   simp at hpos
  ·
   have hv: v0 = .slice (some ⟨b,0,none⟩) es.length cap := by
    cases c0 with
    | own _ _ _ a cap' _ _ ht =>
     obtain ⟨n',u',e1,_,e3⟩ := ht
     rw [g1] at e1
     cases e1
     exact e3 rfl
   subst hv
   have hfl := flat_length g2
   have hcell: ∀ j,j < es.length * k → ∃ x,vs[j]? = some x ∧ x.oneCell' = true := by
    intro j hj
    have: ∃ c,(flat es)[j]? = some c := ⟨_,List.getElem?_eq_getElem (by rw [hfl]; exact hj)⟩
    obtain ⟨c,hc⟩ := this
    obtain ⟨x,x1,_,x3⟩ := q6 j c hc
    exact ⟨x,x1,x3⟩
   have hsz: es.length * k ≤ vs.size := by rw [q5]; exact Nat.mul_le_mul_right _ q1
   have hrow: ∀ i,i < es.length → i * k + k ≤ es.length * k := fun i hi => by
    have := Nat.mul_le_mul_right k (show i + 1 ≤ es.length from hi); rwa [Nat.add_mul,Nat.one_mul] at this
   let el (i: Nat) (hi: i < es.length): Cells k := ⟨(vs.toList.drop (i * k)).take k,by
    have := hrow i hi
    refine ⟨by rw [List.length_take,List.length_drop,Array.length_toList]; omega,fun v hv => ?_⟩
    obtain ⟨c,hc,rfl⟩ := List.getElem_of_mem hv
    rw [List.length_take] at hc
    obtain ⟨x,x1,x3⟩ := hcell (i * k + c) (by omega)
    have: x = ((vs.toList.drop (i * k)).take k)[c]'(by rw [List.length_take]; exact hc) := by
     have e1: ((vs.toList.drop (i * k)).take k)[c]? = some x := by
      rw [List.getElem?_take,if_pos (by omega),List.getElem?_drop]
      simpa using x1
     rw [List.getElem?_eq_getElem (by rw [List.length_take]; exact hc)] at e1
     exact (Option.some.inj e1).symm
    rw [← this]
    exact x3⟩
   let d: Array (Cells k) := Array.ofFn (n := es.length) fun i => el i.1 i.2
   have hd: d.size = es.length := by simp [d]
   have hdi: ∀ i (hi: i < es.length),d[i]! = el i hi := fun i hi => by
    rw [getElem!_pos d i (by rw [hd]; exact hi)]
    simp [d]
   have hdc: ∀ i c,i < es.length → c < k → (d[i]!.1)[c]! = vs[i * k + c]! := fun i c hi hc => by
    rw [hdi i hi]
    have hlt: i * k + c < vs.size := by have := hrow i hi; omega
    have h2: ((vs.toList.drop (i * k)).take k)[c]? = some vs[i * k + c] := by
     rw [List.getElem?_take,if_pos hc,List.getElem?_drop]
     simp [hlt]
    rw [getElem!_pos vs _ hlt]
    have hl := (el i hi).2.1
    rw [getElem!_pos (el i hi).1 c (by rw [hl]; exact hc)]
    have h3: (el i hi).1[c]? = some vs[i * k + c] := h2
    rw [List.getElem?_eq_getElem (by rw [hl]; exact hc)] at h3
    exact Option.some.inj h3
   have hH: HoldsK (fun x: Cells k => x.1) k w b 0 d := by
    intro j hj
    rw [size_flatK,hd] at hj
    have hlt: j < vs.size := by omega
    refine ⟨?_,by simp [World.frozen?,q4]⟩
    rw [get_flatK _ _ _ _ (by rw [hd]; exact hj),hdc _ _ (by rw [Nat.div_lt_iff_lt_mul hk0]; exact hj) (Nat.mod_lt _ hk0)]
    have e1: j / k * k + j % k = j := by rw [Nat.mul_comm]; exact Nat.div_add_mod _ _
    rw [e1,Nat.zero_add,getElem!_pos vs j hlt]
    simp [World.cell?,q4,hlt]
   have hmx: es.length ≤ 9223372036854775807 := by have: maxLen = 9223372036854775807 := by decide
                                                   omega
   have hcl := hcon b cap d w hH (by rw [hd]; exact hmx)
   rw [hd] at hcl
   refine Calls.mono hcl ?_
   rintro ee w' ⟨rfl,n,rfl⟩
   let F := flatK (fun x: Cells k => x.1) k d.reverse
   have hFs: F.size = es.length * k := by simp [F,hd]
   let vs' := putCells id 0 F vs
   have hvs': vs'.size = vs.size := by simp [vs',putCells]
   have hheap: (putRowK (fun x: Cells k => x.1) k (Sort.ahead w n) b 0 d.reverse).heap[b]? = some (.cells vs' e (0,0)) := by
    show ((w.heap.modify b _)[b]?) = _
    rw [Array.getElem?_modify]
    simp only [if_true,q4]
    rfl
   have hoth: ∀ b',b' ≠ b → (putRowK (fun x: Cells k => x.1) k (Sort.ahead w n) b 0 d.reverse).heap[b']? = w.heap[b']? := by
    intro b' hb'
    show ((w.heap.modify b _)[b']?) = _
    rw [Array.getElem?_modify,if_neg (fun e => hb' e.symm)]
   have hown: blockOf (φ kk) (.own e k es) = some b := by rw [g1]; rfl
   have hc: ∀ a,S a → (putRowK (fun x: Cells k => x.1) k (Sort.ahead w n) b 0 d.reverse).cell? a = w.cell? a := fun a ha => cell_of_heap (hoth _ (q7 a ha))
   have hupd: upd φ kk (φ kk) = φ := by
    funext j
    by_cases ej: j = kk
    ·
     subst ej; rw [upd_same]
    ·
     rw [upd_other _ ej]
   have hput := hr.put (S' := S) (w' := putRowK (fun x: Cells k => x.1) k (Sort.ahead w n) b 0 d.reverse) (l := φ kk) (x := .own e k es.reverse) hk rfl rfl rfl (by show w.heap.size ≤ (w.heap.modify b _).size; simp) (fun b' _ hne => hoth b' (fun e0 => hne (by rw [e0]; exact hown)))
    (fun _ h => h) hc (fun _ h => .inl h) (fun a ha => by have := hr.bnd a ha; show _ < (w.heap.modify b _).size; simpa using this) (Loc.le_refl _)
    (by
     rw [hupd]
     refine ⟨_,by rw [List.length_reverse]; exact g1,fun x hx => g2 x (by simpa using hx),.inr ⟨b,cap,vs',by simpa using q1,q2,by rw [List.length_reverse],hheap,by rw [hvs',q5],fun j c hj => ?_,q7⟩⟩
     have hrev: ∀ x ∈ es.reverse,x.cells.length = k := fun x hx => g2 x (by simpa using hx)
     have hjl := lookupD hj
     rw [flat_length hrev,List.length_reverse] at hjl
     have hi: j / k < es.length := by rw [Nat.div_lt_iff_lt_mul hk0]; exact hjl
     have hm: j % k < k := Nat.mod_lt _ hk0
     have e1: j / k * k + j % k = j := by rw [Nat.mul_comm]; exact Nat.div_add_mod _ _
     have hF: F[j]! = (d.reverse[j / k]!.1)[j % k]! := get_flatK _ _ _ _ (by simp [hd]; exact hjl)
     have hlt: j < vs.size := by omega
     have hv1: vs'[j]? = some (F[j]!) := by
      simp only [vs',putCells,Array.getElem?_mapIdx,Array.getElem?_eq_getElem hlt,Option.map_some]
      rw [if_pos (by rw [hFs]; exact ⟨Nat.zero_le _,by omega⟩),Nat.sub_zero]
      rfl
     generalize j / k = q at hi e1 hF
     generalize j % k = r at hm e1 hF
     have hx: es.reverse[q]? = some es[es.length - 1 - q] := by
      rw [List.getElem?_reverse hi,List.getElem?_eq_getElem (by omega)]
     have hcl: r < es[es.length - 1 - q].cells.length := by rw [g2 _ (List.getElem_mem _)]; exact hm
     have h1 := flat_at hrev hx (j := r) (List.getElem?_eq_getElem hcl)
     rw [e1,hj] at h1
     have h2 := flat_at g2 (List.getElem?_eq_getElem (l := es) (i := es.length - 1 - q) (by omega)) (j := r) (List.getElem?_eq_getElem hcl)
     obtain ⟨x,x1,x2,x3⟩ := q6 _ _ h2
     refine ⟨x,?_,by cases h1; exact x2.mono (fun _ h => h) hc (fun _ => Loc.le_refl _),x3⟩
     rw [hv1,hF]
     have hdr: d.reverse[q]! = d[es.length - 1 - q]! := by
      rw [getElem!_pos d.reverse _ (by simp [hd]; exact hi),getElem!_pos d _ (by rw [hd]; omega),Array.getElem_reverse]
      simp only [hd]
     rw [hdr,hdc _ _ (by omega) hm]
     have hlt2: (es.length - 1 - q) * k + r < vs.size := (Array.getElem?_eq_some_iff.1 x1).1
     rw [getElem!_pos vs _ hlt2,← x1,Array.getElem?_eq_getElem hlt2])
    (fun b' hb' => by rw [g1] at hb'; simp only [blockOf] at hb'; cases hb'; exact .inr hown)
   rw [hupd] at hput
   exact ⟨_,_,_,S,φ,rfl,hK,ret.mono (fun _ h => h) hc (fun _ => Loc.le_refl _),hput.1,hput.2⟩
end Go.Abs
namespace Go.Proofs.YtpamokpmlplopaaGreatDoor
open Go.Abs
set_option maxRecDepth 20000
set_option linter.unusedSimpArgs false
set_option linter.unusedVariables false
set_option maxHeartbeats 1000000
attribute [local irreducible] vc vcOps vcStep vcGuard prK hrK gK gsK brK callK ElemK SeqK BlockK ScopeK OpsK CallK LoopK LoopGo finPost ACall PCall PCallE BCall vqOps vqStep vqGuard qrK heK pcK gqK gqsK QOpsK qcallK DrawK
theorem moX: Tryz.prog.follows .mixedOrders = true := by kernel_rfl
theorem mo: Tryz.prog.follows .mixedOrders = true := moX
theorem in_x (x a b: Int): PCall Tryz.prog 323 [.raw (.int .u8 x),.raw (.int .u8 a),.raw (.int .u8 b)] (.b (inB a b x)) := by
 refine pcall_of_vc tabOK Tryz.func323 (by kernel_rfl) rfl pureL pureI (n := 15) rfl (rs := [.tmp 6]) rfl ?_
 repeat' first
  | exact finB rfl
  | exact finI rfl
  | exact finP rfl
  | exact absurd rfl (by assumption)
  | simp only [go_sem]
  | (intro _)
  | refine brK_dec (fun _ => ?_) (fun _ => ?_)
  | refine brK_any ?_ ?_
  | refine gK_dec (fun _ => ?_) (fun _ => ?_)
  | refine gK_any ?_ ?_
  | refine gqK_dec (fun _ => ?_) (fun _ => ?_)
  | refine ⟨by omega,?_⟩
  | refine elemHave (by omega) (by assumption) ?_
  | refine elemMap (by omega) (by omega) (fun x hx => ?_)
  | refine drawK mo (by kernel_rfl) ?_
  | (refine finBq rfl ?_; unfold inB; simp; omega)
theorem bat {t: ByteArray} {i: Nat} {c: UInt8} (h: (bts t)[i]? = some c): (t.data.toList.getD ((i: Int)).toNat 0).toNat = c.toNat := by
 rw [Int.toNat_natCast,List.getD_eq_getElem?_getD,show t.data.toList[i]? = some c from h]
 rfl
theorem bts_at {t: ByteArray} {i: Nat} (h: i < t.size): ∃ c,(bts t)[i]? = some c := ⟨_,List.getElem?_eq_getElem (by rw [bts_len]; exact h)⟩
theorem bts_cons {t: ByteArray} {c: UInt8} (h: (bts t)[0]? = some c): ∃ l,bts t = c :: l := by
 cases hb: bts t with
 | nil => rw [hb] at h; cases h
 | cons x l => rw [hb] at h; cases h; exact ⟨l,rfl⟩
theorem all_no {t: ByteArray} {i: Nat} {c: UInt8} {p: UInt8 → Bool} (h: (bts t)[i]? = some c) (hp: p c = false): (bts t).all p = false := by
 rw [List.all_eq_false]
 exact ⟨c,List.mem_of_getElem? h,by simp [hp]⟩
theorem all_yes {t: ByteArray} {i: Nat} {p: UInt8 → Bool} (h: ∀ c ∈ (bts t).take i,p c = true) (hi: t.size ≤ i): (bts t).all p = true :=
 List.all_eq_true.2 fun c hc => by
  rw [List.take_of_length_le (by rw [bts_len]; exact hi)] at h
  exact h c hc
theorem name_x (t: ByteArray) (a b: Int): PCall Tryz.prog 308 [.s t,.raw (.int .u8 a),.raw (.int .u8 b)] (.b (nameG (inB a b) t)) := by
 refine pcall_of_vc tabOK Tryz.func308 (by kernel_rfl) rfl pureL pureI (n := 55) rfl (rs := [.tmp 6]) rfl ?_
 by_cases h1: 1 ≤ t.size ∧ t.size ≤ 12
 ·
  obtain ⟨c0,hc0⟩ := bts_at (t := t) (i := 0) (by omega)
  obtain ⟨l0,hl0⟩ := bts_cons hc0
  have hn: nameG (inB a b) t = (inB a b c0.toNat && (bts t).all fun c => okB c.toNat) := by
   unfold nameG
   rw [decide_eq_true h1.1,decide_eq_true h1.2,Bool.true_and,Bool.true_and]
   rw [hl0]; rfl
  rw [hn]
  have hb0: (t.data.toList.getD 0 0).toNat = c0.toNat := by have := bat hc0; simpa using this
  repeat' first
  | exact finB rfl
  | exact finI rfl
  | exact finP rfl
  | exact absurd rfl (by assumption)
  | simp only [go_sem]
  | (intro _)
  | refine brK_dec (fun _ => ?_) (fun _ => ?_)
  | refine brK_split (fun hb_ => ?_) (fun hb_ => ?_)
  | refine gK_dec (fun _ => ?_) (fun _ => ?_)
  | refine gK_split (fun hb_ => ?_) (fun hb_ => ?_)
  | refine gqK_dec (fun _ => ?_) (fun _ => ?_)
  | refine ⟨by omega,?_⟩
  | refine elemHave (by omega) (by assumption) ?_
  | refine elemMap (by omega) (by omega) (fun x hx => ?_)
  | refine drawK mo (by kernel_rfl) ?_
  | (exfalso; omega)
  | (rw [hb0]; refine PCall.call (in_x _ a b) ?_; generalize hq0: inB a b (c0.toNat: Nat) = q0; cases q0)
  | ((fail_if_success (clear hcc)); have hlt_: i < t.size := (by omega); have hcx := bts_at hlt_; obtain ⟨c,hcc⟩ := hcx; have hbi := bat hcc)
  | (rw [hbi])
  | (refine PCall.call (in_x _ _ _) ?_)
  | (exact finP rfl)
  | (refine finBq rfl ?_; first | (rw [all_yes hpi (by omega)]) | (rw [all_no (p := fun c => okB c.toNat) hcc (by simp_all [okB] <;> omega)]))
  | exact loopFrH _ (by omega) ⟨i + 1,by omega,rfl,take_all hpi hcc (by simp_all [okB] <;> omega),rfl⟩ (.next rfl (by omega) .nil) rfl
  | (refine loop_frH [6,7,24,25,26,27,28,29,30,31,32,33,34,35,36,37,38,39,40,41,42,43,44,45,46,47,48,49,50,51,52,53,54] (fun mm_ CC_ => ∃ (i: Nat),i ≤ t.size ∧ mm_ = t.size - i ∧ (∀ c ∈ (bts t).take i,okB c.toNat = true) ∧ CC_ = [(7,.raw (.int .i64 ((i: Nat): Int)))]) (t.size) _ ⟨0,by omega,by omega,by simp,rfl⟩ (.cons rfl .nil) ?_; rintro mm_ CC_ ji ⟨i,hi,rfl,hpi,rfl⟩)
 ·
  have hn: nameG (inB a b) t = false := by
   unfold nameG
   rcases Classical.em (1 ≤ t.size) with q | q
   ·
    have: ¬ t.size ≤ 12 := fun q' => h1 ⟨q,q'⟩
    simp [this]
   ·
    simp [q]
  rw [hn]
  repeat' first
  | exact finB rfl
  | exact finI rfl
  | exact finP rfl
  | exact absurd rfl (by assumption)
  | simp only [go_sem]
  | (intro _)
  | refine brK_dec (fun _ => ?_) (fun _ => ?_)
  | refine brK_any ?_ ?_
  | refine gK_dec (fun _ => ?_) (fun _ => ?_)
  | refine gK_any ?_ ?_
  | refine gqK_dec (fun _ => ?_) (fun _ => ?_)
  | refine ⟨by omega,?_⟩
  | refine elemHave (by omega) (by assumption) ?_
  | refine elemMap (by omega) (by omega) (fun x hx => ?_)
  | refine drawK mo (by kernel_rfl) ?_
  | (exfalso; omega)
  | (exact finP rfl)
theorem words_x: PCall Tryz.prog 324 [] (.lst 1 (words.map AV.s) none) := by
 refine pcall_of_vc tabOK Tryz.func324 (by kernel_rfl) rfl pure_nil (pure_strs _) (n := 2) rfl (rs := [.tmp 0]) rfl ?_
 simp only [go_sem]
 exact ⟨_,rfl,false,.tok _ _ _⟩
theorem word_no {t: ByteArray} {i: Nat} (h: ∀ w ∈ words.take i,¬ w = t) (hi: words.length ≤ i): wordF t = false := by
 unfold wordF
 rw [List.any_eq_false]
 intro w hw
 rw [List.take_of_length_le hi] at h
 simpa using fun e => h w hw e.symm
theorem word_yes {t w: ByteArray} (h: w ∈ words) (e: w = t): wordF t = true := by
 unfold wordF
 rw [List.any_eq_true]
 exact ⟨w,h,by simp [e]⟩
theorem word_x (t: ByteArray): PCall Tryz.prog 309 [.s t] (.b (wordF t)) := by
 refine pcall_of_vc tabOK Tryz.func309 (by kernel_rfl) rfl pureL pureI (n := 18) rfl (rs := [.tmp 2]) rfl ?_
 repeat' first
  | exact finB rfl
  | exact finI rfl
  | exact finP rfl
  | exact absurd rfl (by assumption)
  | simp only [go_sem]
  | (intro _)
  | refine brK_dec (fun _ => ?_) (fun _ => ?_)
  | refine brK_any ?_ ?_
  | refine gK_dec (fun _ => ?_) (fun _ => ?_)
  | refine gK_any ?_ ?_
  | refine gqK_dec (fun _ => ?_) (fun _ => ?_)
  | refine ⟨by omega,?_⟩
  | refine elemHave (by omega) (by assumption) ?_
  | refine elemMap (by omega) (by omega) (fun x hx => ?_)
  | refine drawK mo (by kernel_rfl) ?_
  | (refine PCall.call words_x ?_)
  | (refine finBq rfl ?_; first | (rw [word_no hpi (by omega)]) | (rw [word_yes (List.mem_of_getElem? hx) (by assumption)]))
  | exact loopFrH _ (by omega) ⟨i + 1,by omega,rfl,take_all hpi (by simpa using hx) (by assumption),rfl⟩ (.next rfl (by omega) .nil) rfl
  | (refine loop_frH [2,4,6,7,8,9,10,11,12,13,14,15,16,17] (fun mm_ CC_ => ∃ (i: Nat),i ≤ words.length ∧ mm_ = words.length - i ∧ (∀ w ∈ words.take i,¬ w = t) ∧ CC_ = [(4,.raw (.int .i64 ((i: Nat): Int)))]) (words.length) _ ⟨0,by omega,by omega,by simp,rfl⟩ (.cons rfl .nil) ?_; rintro mm_ CC_ ji ⟨i,hi,rfl,hpi,rfl⟩)
theorem low_x (t: ByteArray): PCall Tryz.prog 278 [.s t] (.b (lowF t)) := by
 refine pcall_of_vc tabOK Tryz.func278 (by kernel_rfl) rfl pureL pureI (n := 10) rfl (rs := [.tmp 2]) rfl ?_
 unfold lowF
 repeat' first
  | exact finB rfl
  | exact finI rfl
  | exact finP rfl
  | exact absurd rfl (by assumption)
  | simp only [go_sem]
  | (intro _)
  | refine brK_dec (fun _ => ?_) (fun _ => ?_)
  | refine brK_any ?_ ?_
  | refine gK_dec (fun _ => ?_) (fun _ => ?_)
  | refine gK_any ?_ ?_
  | refine gqK_dec (fun _ => ?_) (fun _ => ?_)
  | refine ⟨by omega,?_⟩
  | refine elemHave (by omega) (by assumption) ?_
  | refine elemMap (by omega) (by omega) (fun x hx => ?_)
  | refine drawK mo (by kernel_rfl) ?_
  | (refine PCall.call (name_x _ _ _) ?_; generalize nameG (inB 97 122) t = q; cases q)
  | (refine PCall.call (word_x _) ?_)
  | (exact finBq rfl (by simp))
theorem high_x (t: ByteArray): PCall Tryz.prog 279 [.s t] (.b (highF t)) := by
 refine pcall_of_vc tabOK Tryz.func279 (by kernel_rfl) rfl pureL pureI (n := 5) rfl (rs := [.tmp 2]) rfl ?_
 unfold highF
 repeat' first
  | exact finB rfl
  | exact finI rfl
  | exact finP rfl
  | exact absurd rfl (by assumption)
  | simp only [go_sem]
  | (intro _)
  | refine brK_dec (fun _ => ?_) (fun _ => ?_)
  | refine brK_any ?_ ?_
  | refine gK_dec (fun _ => ?_) (fun _ => ?_)
  | refine gK_any ?_ ?_
  | refine gqK_dec (fun _ => ?_) (fun _ => ?_)
  | refine ⟨by omega,?_⟩
  | refine elemHave (by omega) (by assumption) ?_
  | refine elemMap (by omega) (by omega) (fun x hx => ?_)
  | refine drawK mo (by kernel_rfl) ?_
  | (refine PCall.call (name_x _ _ _) ?_)
  | (exact finBq rfl (by simp))
end Go.Proofs.YtpamokpmlplopaaGreatDoor
namespace Go.Abs
open Go
theorem bts_extract (t: ByteArray) (i j: Nat): bts (t.extract i j) = ((bts t).take j).drop i := by
 simp only [bts,ByteArray.data_extract,Array.toList_extract,List.extract_eq_take_drop]
 rw [List.drop_take]
theorem of_bts (t: ByteArray): (⟨(bts t).toArray⟩: ByteArray) = t := by cases t; simp [bts]
theorem idx_no {c: UInt8}: ∀ {l: List UInt8},c ∉ l → Lib.indexByte l c = -1
 | [],_ => rfl
 | b :: l,h => by
  have h1: (b == c) = false := by simp; exact fun e => h (by simp [e])
  have h2 := idx_no (l := l) (c := c) fun hm => h (by simp [hm])
  rw [Lib.indexByte,h1,h2]; rfl
theorem idx_at {c: UInt8}: ∀ {l: List UInt8},c ∈ l → ∃ m: Nat,Lib.indexByte l c = m ∧ m < l.length ∧ l = l.take m ++ c :: l.drop (m + 1) ∧ c ∉ l.take m
 | [],h => by simp at h
 | b :: l,h => by
  by_cases hb: b = c
  ·
   exact ⟨0,by simp [Lib.indexByte,hb],by simp,by simp [hb],by simp⟩
  ·
   have hm: c ∈ l := by
    rcases List.mem_cons.1 h with e | e
    ·
     exact absurd e.symm hb
    ·
     exact e
   obtain ⟨m,h1,h2,h3,h4⟩ := idx_at hm
   refine ⟨m + 1,?_,by simp; omega,?_,?_⟩
   ·
    have h0: (b == c) = false := by simpa using hb
    have hne: ((m: Int) == -1) = false := by first | (simp; done) | (simp; omega)
    rw [Lib.indexByte,h0,h1,hne]
    simp
   ·
    simp only [List.take_succ_cons,List.drop_succ_cons,List.cons_append]
    rw [← h3]
   ·
    simp only [List.take_succ_cons,List.mem_cons,not_or]
    exact ⟨fun e => hb e.symm,h4⟩
theorem pieces_no {c: UInt8} {t: ByteArray} (h: c ∉ bts t): pieces c t = [t] := by
 unfold pieces
 rw [splitL_no h]
 simp
theorem pieces_at {c: UInt8} {t: ByteArray} {m: Nat} (_hm: m < (bts t).length) (h3: bts t = (bts t).take m ++ c :: (bts t).drop (m + 1)) (h4: c ∉ (bts t).take m) :
  pieces c t = t.extract 0 m :: pieces c (t.extract (m + 1) t.size) := by
 unfold pieces
 have e1: bts (t.extract 0 m) = (bts t).take m := by rw [bts_extract]; simp
 have e2: bts (t.extract (m + 1) t.size) = (bts t).drop (m + 1) := by rw [bts_extract,List.take_of_length_le (by rw [bts_len]; exact Nat.le_refl _)]
 rw [e2]
 conv => lhs; rw [h3]
 rw [splitL_at _ h4,List.map_cons,← e1,of_bts]
theorem pieces_len (c: UInt8) (t: ByteArray): (pieces c t).length = (bts t).count c + 1 := by
 unfold pieces
 rw [List.length_map,splitL_len]
theorem splitL_le {c: UInt8}: ∀ {l p: List UInt8},p ∈ splitL c l → p.length ≤ l.length
 | [],p,h => by simp [splitL] at h; simp [h]
 | x :: l,p,h => by
  rw [splitL] at h
  split at h
  ·
   rcases List.mem_cons.1 h with e | e
   ·
    simp [e]
   ·
    have := splitL_le e; simp; omega
  ·
   cases hs: splitL c l with
   | nil => exact absurd hs (splitL_ne c l)
   | cons y ys =>
    rw [hs] at h
    rcases List.mem_cons.1 h with e | e
    ·
     have := splitL_le (c := c) (l := l) (p := y) (by rw [hs]; simp)
     rw [e]; simp; omega
    ·
     have := splitL_le (c := c) (l := l) (p := p) (by rw [hs]; simp [e])
     simp; omega
theorem pieces_le {c: UInt8} {t p: ByteArray} (h: p ∈ pieces c t): p.size ≤ t.size := by
 obtain ⟨l,hl,rfl⟩ := List.mem_map.1 h
 have := splitL_le hl
 rw [bts_len] at this
 have e: (⟨l.toArray⟩: ByteArray).size = l.length := by show l.toArray.size = _; rw [List.size_toArray]
 rw [e]; exact this
theorem numG_no {t: ByteArray} (h: (46: UInt8) ∈ bts t): numG t = false := by
 unfold numG
 have: ((bts t).all fun c => inB 48 57 c.toNat) = false := by
  rw [List.all_eq_false]
  exact ⟨46,h,by decide⟩
 rw [this]; simp
theorem partF_no {t: ByteArray} (h: (46: UInt8) ∉ bts t): partF t = lowF t := by
 unfold partF
 rw [pieces_no h]
theorem partF_at {t: ByteArray} {m: Nat} (hm: m < (bts t).length) (h3: bts t = (bts t).take m ++ 46 :: (bts t).drop (m + 1)) (h4: (46: UInt8) ∉ (bts t).take m) :
  partF t = (lowF (t.extract 0 m) && numG (t.extract (m + 1) t.size)) := by
 unfold partF
 rw [pieces_at hm h3 h4]
 by_cases h: (46: UInt8) ∈ bts (t.extract (m + 1) t.size)
 ·
  rw [numG_no h]
  have hl := pieces_len 46 (t.extract (m + 1) t.size)
  have hc: 0 < (bts (t.extract (m + 1) t.size)).count 46 := List.count_pos_iff.2 h
  cases hp: pieces 46 (t.extract (m + 1) t.size) with
  | nil => rw [hp] at hl; simp at hl
  | cons x l =>
   cases l with
   | nil => rw [hp,List.length_singleton] at hl; omega
   | cons y l => simp
 ·
  rw [pieces_no h]
end Go.Abs
namespace Go.Abs
theorem bts_from (t: ByteArray) (f: Nat): bts (t.extract f t.size) = (bts t).drop f := by
 rw [bts_extract,List.take_of_length_le (by rw [bts_len]; exact Nat.le_refl _)]
theorem pieces_step {c: UInt8} {t: ByteArray} {f i: Nat} (hf: f ≤ i) (hc: (bts t)[i]? = some c) (hno: c ∉ ((bts t).take i).drop f) :
  pieces c (t.extract f t.size) = t.extract f i :: pieces c (t.extract (i + 1) t.size) := by
 obtain ⟨hi,he⟩ := List.getElem?_eq_some_iff.1 hc
 have hb := bts_from t f
 have h4: ((bts t).drop f).take (i - f) = ((bts t).take i).drop f := by rw [List.drop_take]
 have hm: i - f < (bts (t.extract f t.size)).length := by rw [hb,List.length_drop]; omega
 have h3: bts (t.extract f t.size) = (bts (t.extract f t.size)).take (i - f) ++ c :: (bts (t.extract f t.size)).drop (i - f + 1) := by
  rw [hb,List.drop_drop,show f + (i - f + 1) = i + 1 by omega]
  have: (bts t).drop i = c :: (bts t).drop (i + 1) := by rw [List.drop_eq_getElem_cons hi,he]
  conv => lhs; rw [← List.take_append_drop (i - f) ((bts t).drop f)]
  rw [List.drop_drop,show f + (i - f) = i by omega,this]
 rw [pieces_at hm h3 (by rw [hb,h4]; exact hno)]
 have e1: (t.extract f t.size).extract 0 (i - f) = t.extract f i := by
  apply bts_inj
  rw [bts_extract,hb,bts_extract,h4]
  simp
 have e2: (t.extract f t.size).extract (i - f + 1) (t.extract f t.size).size = t.extract (i + 1) t.size := by
  apply bts_inj
  rw [bts_from,hb,bts_from,List.drop_drop,show f + (i - f + 1) = i + 1 by omega]
 rw [e1,e2]
theorem pieces_last {c: UInt8} {t: ByteArray} {f: Nat} (hno: c ∉ ((bts t).take t.size).drop f): pieces c (t.extract f t.size) = [t.extract f t.size] := by
 apply pieces_no
 rw [bts_from]
 rwa [List.take_of_length_le (by rw [bts_len]; exact Nat.le_refl _)] at hno
theorem no_next {c x: UInt8} {t: ByteArray} {f i: Nat} (hf: f ≤ i) (hx: (bts t)[i]? = some x) (hne: ¬ x = c) (hno: c ∉ ((bts t).take i).drop f): c ∉ ((bts t).take (i + 1)).drop f := by
 obtain ⟨hi,he⟩ := List.getElem?_eq_some_iff.1 hx
 rw [List.take_succ_eq_append_getElem hi,List.drop_append_of_le_length (by rw [List.length_take]; omega),he]
 intro hm
 rcases List.mem_append.1 hm with q | q
 ·
  exact hno q
 ·
  simp at q; exact hne q.symm
end Go.Abs
namespace Go.Proofs.YtpamokpmlplopaaGreatDoor
open Go.Abs
set_option maxRecDepth 20000
set_option linter.unusedSimpArgs false
set_option linter.unusedVariables false
set_option maxHeartbeats 1000000
attribute [local irreducible] vc vcOps vcStep vcGuard prK hrK gK gsK brK callK ElemK SeqK BlockK ScopeK OpsK CallK LoopK LoopGo finPost ACall PCall PCallE BCall vqOps vqStep vqGuard qrK heK pcK gqK gqsK QOpsK qcallK DrawK
theorem cut_x (t: ByteArray) (c: UInt8) (ht: t.size ≤ 1000000): PCall Tryz.prog 322 [.s t,.raw (.int .u8 c.toNat)] (.lst 1 ((pieces c t).map AV.s) none) := by
 refine pcall_of_vc tabOK Tryz.func322 (by kernel_rfl) rfl (pure_cons (.raw _) (pure_cons (.raw _) pure_nil)) (pure_strs _) (n := 36) rfl (rs := [.tmp 4]) rfl ?_
 simp only [go_sem]
 refine loop_rule (fun n s h => ∃ (i fr: Nat) (D: List ByteArray) (rest: List Blk),i ≤ t.size + 1 ∧ fr ≤ i ∧ D.length ≤ i ∧ n = t.size + 1 - i ∧ (i ≤ t.size → D ++ pieces c (t.extract fr t.size) = pieces c t ∧ c ∉ ((bts t).take i).drop fr) ∧ (i = t.size + 1 → D = pieces c t) ∧
  Vis 36 [(7,.i i),(0,.s t),(1,.raw (.int .u8 c.toNat)),(5,.lst 1 (D.map AV.s) (some 0)),(6,.i fr)] s ∧ h = .tok 9 1 D.length :: rest) (t.size + 1) ?_ ?_
 ·
  refine ⟨0,0,[],[],by omega,by omega,by simp,by omega,fun _ => ⟨?_,by simp⟩,by omega,.cons rfl (.cons rfl (.cons rfl (.cons rfl (.cons rfl (.nil rfl))))),rfl⟩
  have: t.extract 0 t.size = t := bts_inj (by rw [bts_from]; rfl)
  rw [List.nil_append,this]
 rintro n s h ⟨i,fr,D,rest,hi,hfr,hl,rfl,hinv,hend,hv,rfl⟩
 obtain ⟨j,rfl⟩ := hv.out
 repeat' first
  | exact finB rfl
  | exact finI rfl
  | exact finP rfl
  | exact absurd rfl (by assumption)
  | simp only [go_sem]
  | (intro _)
  | refine brK_dec (fun _ => ?_) (fun _ => ?_)
  | refine brK_any ?_ ?_
  | refine gK_dec (fun _ => ?_) (fun _ => ?_)
  | refine gK_any ?_ ?_
  | refine gqK_dec (fun _ => ?_) (fun _ => ?_)
  | refine ⟨by omega,?_⟩
  | refine elemHave (by omega) (by assumption) ?_
  | refine elemMap (by omega) (by omega) (fun x hx => ?_)
  | refine drawK mo (by kernel_rfl) ?_
  | (exfalso; omega)
  | ((fail_if_success (clear hcc)); have hlt_: i < t.size := (by omega); have hcx := bts_at hlt_; obtain ⟨x,hcc⟩ := hcx; have hbi := bat hcc)
  | (rw [hbi])
 ·
  have hie: i = t.size := by omega
  obtain ⟨h1,h2⟩ := hinv (by omega)
  rw [hie] at h2
  have hp := pieces_last h2
  rw [hp] at h1
  exact loopGo (t.size + 1 - (i + 1)) (by omega) ⟨i + 1,i + 1,D ++ [t.extract (fr: Int).toNat (i: Int).toNat],rest ++ [.tok 9 1 1],by omega,by omega,by simp; omega,rfl,fun h => by omega,fun _ => by rw [← h1,hie,Int.toNat_natCast,Int.toNat_natCast],
   .next rfl (by omega) (.cons rfl (.cons rfl (.cons (by rw [List.map_append]; rfl) (.next rfl (by omega) (.nil rfl))))),by simp⟩
 ·
  have hxc: x = c := UInt8.toNat_inj.1 (by omega)
  subst hxc
  obtain ⟨h1,h2⟩ := hinv (by omega)
  have hp := pieces_step hfr hcc h2
  rw [hp] at h1
  exact loopGo (t.size + 1 - (i + 1)) (by omega) ⟨i + 1,i + 1,D ++ [t.extract (fr: Int).toNat (i: Int).toNat],rest ++ [.tok 9 1 1],by omega,by omega,by simp; omega,rfl,fun _ => ⟨by rw [Int.toNat_natCast,Int.toNat_natCast,List.append_assoc]; exact h1,by simp⟩,fun h => by omega,
   .next rfl (by omega) (.cons rfl (.cons rfl (.cons (by rw [List.map_append]; rfl) (.next rfl (by omega) (.nil rfl))))),by simp⟩
 ·
  have hxc: ¬ x = c := fun e => by subst e; omega
  obtain ⟨h1,h2⟩ := hinv (by omega)
  exact loopGo (t.size + 1 - (i + 1)) (by omega) ⟨i + 1,fr,D,rest,by omega,by omega,by omega,rfl,fun _ => ⟨h1,no_next hfr hcc hxc h2⟩,fun h => by omega,
   .next rfl (by omega) (.cons rfl (.cons rfl (.cons rfl (.cons rfl (.nil rfl))))),rfl⟩
 ·
  rw [← hend (by omega)]
  exact ⟨_,rfl,false,.tok _ _ _⟩
theorem numG_bad {t: ByteArray} (h: ¬ (1 ≤ t.size ∧ t.size ≤ 3)): numG t = false := by
 unfold numG
 rcases Classical.em (1 ≤ t.size) with q | q
 ·
  have: ¬ t.size ≤ 3 := fun q' => h ⟨q,q'⟩
  simp [this]
 ·
  simp [q]
theorem partF_one {t p: ByteArray} {l: List ByteArray} (hp: pieces 46 t = l) (hl: l.length = 1) (h0: l[0]? = some p): partF t = lowF p := by
 match l,hl with
 | [x],_ => simp at h0; subst h0; unfold partF; rw [hp]
theorem partF_two {t p q: ByteArray} {l: List ByteArray} (hp: pieces 46 t = l) (hl: l.length = 2) (h0: l[0]? = some p) (h1: l[1]? = some q): partF t = (lowF p && numG q) := by
 match l,hl with
 | [x,y],_ => simp at h0 h1; subst h0; subst h1; unfold partF; rw [hp]
theorem partF_more {t: ByteArray} {l: List ByteArray} (hp: pieces 46 t = l) (hl: 2 < l.length): partF t = false := by
 match l,hl with
 | x :: y :: z :: l,_ => unfold partF; rw [hp]
theorem partF_low0 {t p: ByteArray} {l: List ByteArray} (hp: pieces 46 t = l) (h0: l[0]? = some p) (h: lowF p = false): partF t = false := by
 unfold partF
 rw [hp]
 match l with
 | [] => rfl
 | [x] => simp at h0; subst h0; exact h
 | [x,y] => simp at h0; subst h0; simp [h]
 | x :: y :: z :: l => rfl
theorem cut_x' (t: ByteArray) (c: UInt8) (k: Int) (hk: (c.toNat: Int) = k) (ht: t.size ≤ 1000000): PCall Tryz.prog 322 [.s t,.raw (.int .u8 k)] (.lst 1 ((pieces c t).map AV.s) none) := hk ▸ cut_x t c ht
theorem numG_of {t: ByteArray} {b: Bool} {c: UInt8} (h1: 1 ≤ t.size) (h2: t.size ≤ 3) (h0: (bts t)[0]? = some c) (h48: ¬ c.toNat = 48) (hb: ((bts t).all fun c => inB 48 57 c.toNat) = b): numG t = b := by
 unfold numG
 obtain ⟨l,hl⟩ := bts_cons h0
 rw [decide_eq_true h1,decide_eq_true h2,hb,hl]
 simp [firstNo0,h48]
theorem numG_48 {t: ByteArray} {c: UInt8} (h0: (bts t)[0]? = some c) (h48: c.toNat = 48): numG t = false := by
 unfold numG
 obtain ⟨l,hl⟩ := bts_cons h0
 rw [hl]
 simp [firstNo0,h48]
theorem path_x (t: ByteArray) (ht: t.size ≤ 1000000): PCall Tryz.prog 306 [.s t] (.b (pathF t)) := by
 refine pcall_of_vc tabOK Tryz.func306 (by kernel_rfl) rfl pureL pureI (n := 61) rfl (rs := [.tmp 2]) rfl ?_
 unfold pathF
 simp only [go_sem]
 refine PCall.call (cut_x' t 47 47 rfl ht) ?_
 simp only [go_sem]
 refine loop_frH [2,4,5,6,7,10,11,12,13,14,15,16,17,18,19,20,21,22,23,24,25,26,27,28,29,30,31,32,33,34,35,36,37,38,39,40,41,42,43,44,45,46,47,48,49,50,51,52,53,54,55,56,57,58,59,60] (fun m C => ∃ i: Nat,i ≤ (pieces 47 t).length ∧ m = (pieces 47 t).length - i ∧ (∀ x ∈ (pieces 47 t).take i,partF x = true) ∧ C = [(4,.raw (.int .i64 (i: Nat)))]) (pieces 47 t).length _ ⟨0,by omega,by omega,by simp,rfl⟩ (.cons rfl .nil) ?_
 rintro m C j ⟨i,hi,rfl,hpi,rfl⟩
 simp only [go_sem]
 intro _
 refine brK_dec (fun hlt => ?_) (fun hge => ?_)
 ·
  simp only [go_sem]
  refine elemMap (by omega) (by omega) (fun x hx => ?_)
  have hx': (pieces 47 t)[i]? = some x := by simpa using hx
  have hle := pieces_le (List.mem_of_getElem? hx')
  have next: partF x = true → ∀ y ∈ (pieces 47 t).take (i + 1),partF y = true := fun h => take_all hpi hx' h
  have stop: partF x = false → false = (pieces 47 t).all partF := fun h => (List.all_eq_false.2 ⟨x,List.mem_of_getElem? hx',by simp [h]⟩).symm
  simp only [go_sem]
  refine PCall.call (cut_x' x 46 46 rfl (by omega)) ?_
  have hne := pieces_ne 46 x
  generalize hp: pieces 46 x = l at hne ⊢
  have hl0: 0 < l.length := List.length_pos_iff.2 hne
  obtain ⟨p0,hp0⟩: ∃ p0,l[0]? = some p0 := ⟨_,List.getElem?_eq_getElem hl0⟩
  by_cases h2: l.length = 2
  ·
   obtain ⟨q,hq⟩: ∃ q,l[1]? = some q := ⟨_,List.getElem?_eq_getElem (by omega)⟩
   have hpt := partF_two hp h2 hp0 hq
   by_cases hsz: ¬ (1 ≤ q.size ∧ q.size ≤ 3)
   ·
    have hbad := numG_bad hsz
    repeat' first
     | (exfalso; omega)
     | simp only [go_sem]
     | (intro _)
     | refine brK_dec (fun _ => ?_) (fun _ => ?_)
     | refine gK_dec (fun _ => ?_) (fun _ => ?_)
     | refine elemHave (by omega) hp0 ?_
     | refine elemHave (by omega) hq ?_
     | (refine PCall.call (low_x p0) ?_; generalize hlo: lowF p0 = lo; cases lo)
     | exact finBq rfl (stop (by rw [hpt,hbad]; simp))
   ·
    have hsz := Classical.not_not.1 hsz
    obtain ⟨c0,hc0⟩ := bts_at (t := q) (i := 0) (by omega)
    have hb0: (q.data.toList.getD 0 0).toNat = c0.toNat := by have := bat hc0; simpa using this
    (repeat' first
  | exact finB rfl
  | exact finI rfl
  | exact finP rfl
  | exact absurd rfl (by assumption)
  | simp only [go_sem]
  | (intro _)
  | refine brK_dec (fun _ => ?_) (fun _ => ?_)
  | refine brK_split (fun hb_ => ?_) (fun hb_ => ?_)
  | refine gK_dec (fun _ => ?_) (fun _ => ?_)
  | refine gK_split (fun hb_ => ?_) (fun hb_ => ?_)
  | refine gqK_dec (fun _ => ?_) (fun _ => ?_)
  | refine ⟨by omega,?_⟩
  | refine elemHave (by omega) (by assumption) ?_
  | refine elemMap (by omega) (by omega) (fun x hx => ?_)
  | refine drawK mo (by kernel_rfl) ?_
  | (exfalso; omega)
  | (refine elemHave (by omega) hp0 ?_)
  | (refine elemHave (by omega) hq ?_)
  | (rw [hb0])
  | (refine PCall.call (low_x p0) ?_; generalize hlo: lowF p0 = lo; cases lo)
  | ((fail_if_success (clear hcc)); have hlt_: k < q.size := (by omega); have hcx := bts_at hlt_; obtain ⟨c,hcc⟩ := hcx; have hbi := bat hcc)
  | (rw [hbi])
  | (refine PCall.call (in_x _ _ _) ?_; generalize hin: inB 48 57 (c.toNat: Nat) = bb; cases bb)
  | (exact finBq rfl (stop (partF_low0 hp hp0 hlo)))
  | (have h48: c0.toNat = 48 := (by omega); exact finBq rfl (stop (by rw [hpt,numG_48 hc0 h48]; simp)))
  | (have hall := all_no (p := fun c => inB 48 57 c.toNat) hcc hin; have h48: ¬ c0.toNat = 48 := (by omega); exact finBq rfl (stop (by rw [hpt,numG_of hsz.1 hsz.2 hc0 h48 hall]; simp)))
  | exact loopFrH _ (by omega) ⟨k + 1,by omega,rfl,take_all hpk hcc hin,rfl⟩ (.next rfl (by omega) .nil) rfl
  | (refine loop_frH [2,7,50,51,52,53,54,55,56,57,58,59,60] (fun mm_ CC_ => ∃ (k: Nat),k ≤ q.size ∧ mm_ = q.size - k ∧ (∀ c ∈ (bts q).take k,inB 48 57 c.toNat = true) ∧ CC_ = [(7,.raw (.int .i64 ((k: Nat): Int)))]) (q.size) _ ⟨0,by omega,by omega,by simp,rfl⟩ (.cons rfl .nil) ?_; rintro mm_ CC_ jk ⟨k,hk,rfl,hpk,rfl⟩)
  | (have hall := all_yes (p := fun c => inB 48 57 c.toNat) hpk (by omega); have h48: ¬ c0.toNat = 48 := (by omega); exact loopFrH _ (by omega) ⟨i + 1,by omega,rfl,next (by rw [hpt,hlo,numG_of hsz.1 hsz.2 hc0 h48 hall,Bool.and_self]),rfl⟩ (.next rfl (by omega) .nil) rfl))
  ·
   have h1: l.length = 1 ∨ 2 < l.length := by omega
   repeat' first
    | (exfalso; omega)
    | simp only [go_sem]
    | (intro _)
    | refine brK_dec (fun _ => ?_) (fun _ => ?_)
    | refine gK_dec (fun _ => ?_) (fun _ => ?_)
    | refine elemHave (by omega) hp0 ?_
    | (refine PCall.call (low_x p0) ?_; generalize hlo: lowF p0 = lo; cases lo)
    | (have h3: 2 < l.length := (by omega); exact finBq rfl (stop (partF_more hp h3)))
    | exact finBq rfl (stop (partF_low0 hp hp0 hlo))
    | (have h3: l.length = 1 := (by omega); exact loopFrH _ (by omega) ⟨i + 1,by omega,rfl,next (by rw [partF_one hp h3 hp0,hlo]),rfl⟩ (.next rfl (by omega) .nil) rfl)
 ·
  simp only [go_sem]
  refine finBq rfl (List.all_eq_true.2 (take_full hpi (by omega))).symm
end Go.Proofs.YtpamokpmlplopaaGreatDoor
