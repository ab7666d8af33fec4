/-
  AbsO: put together.
-/
import Derived.Test.YtpamokpmlplopaaGreatDoorUniAc
namespace Go.Abs
open Go.RowKit
section
variable {P:Program} {T:TypeId→TI}
def SeqK (P:Program) (T:TypeId→TI) (y:Code) (Q:Post):Post:=fun e s h=>match e with
 | .normal=>vc P T y Q s h
 | .exit i=>Q (.exit i) s h
 | .ret=>Q .ret s h
 | .goto l=>Q (.goto l) s h
def BlockK (id:Nat) (Q:Post):Post:=fun e s h=>match e with
 | .normal=>Q .normal s h
 | .exit i=>match decide (i=id) with
  | true=>Q .normal s h
  | false=>Q (.exit i) s h
 | .ret=>Q .ret s h
 | .goto l=>Q (.goto l) s h
def ScopeK (Q:Post):Post:=fun e s h=>match e with
 | .normal=>Q .normal s h
 | .exit i=>Q (.exit i) s h
 | .ret=>Q .ret s h
 | .goto _=>False
def OpsK (P:Program) (T:TypeId→TI) (ops:Array Oper) (rest:List Oper) (K:List AV→List Blk→Prop):List AV→List Blk→Prop:=fun s h=>vcOps P T ops rest s h K
def CallK (dst:Option Tmp) (s:List AV) (K:List AV→List Blk→Prop):AV→List Blk→Prop:=fun r h'=>K (put s dst r) h'
def ElemK (i:Int) (es:List AV) (f:AV→AV) (dst:Option Tmp) (s:List AV) (h:List Blk) (K:List AV→List Blk→Prop):Prop:=∃ x,(0≤i∧es[i.toNat]?=some x)∧K (put s dst (f x)) h
def hrK (r:HR) (dst:Option Tmp) (s:List AV) (K:List AV→List Blk→Prop):Prop :=
 match r with
 | .ok v h'=>K (put s dst v) h'
 | .side p v h'=>p∧K (put s dst v) h'
 | .bad=>False
def prK (T:TypeId→TI) (op:Op) (r:PR) (dst:Option Tmp) (s:List AV) (h:List Blk) (K:List AV→List Blk→Prop):Prop :=
 match r with
 | .ok v=>K (put s dst v) h
 | .side p v=>p∧K (put s dst v) h
 | .fact p v=>p→K (put s dst v) h
 | .elem i es f=>ElemK i es f dst s h K
 | .bad=>hrK (stepHeap T s h op) dst s K
def callK (P:Program) (f:AV) (args:List AV) (dst:Option Tmp) (s:List AV) (h:List Blk) (K:List AV→List Blk→Prop):Prop :=
 match f with
 | .fn (.func g) first captured=>ACall P g (first++args++captured) h (CallK dst s K)
 | .fn (.yield l) [] []=>YCall P l args h (CallK dst s K)
 | _=>False
def brK (P:Program) (T:TypeId→TI) (c:Operand) (v:AV) (x y:Code) (Q:Post) (s:List AV) (h:List Blk):Prop :=
 match v with
 | .raw (.bool b)=>match b with
  | true=>vc P T x Q (condSet s c true) h
  | false=>vc P T y Q (condSet s c false) h
 | _=>False
def gK (P:Program) (T:TypeId→TI) (o:Oper) (want:Bool) (d:Nat) (v:AV) (s:List AV) (h:List Blk) (K:List AV→List Blk→Prop):Prop :=
 match v with
 | .raw (.bool b)=>match b with
  | true=>match want with
   | true=>vcStep P T o (s.set d (.raw (.bool true))) h K
   | false=>K (put (s.set d (.raw (.bool true))) o.dst (.tup [])) h
  | false=>match want with
   | true=>K (put (s.set d (.raw (.bool false))) o.dst (.tup [])) h
   | false=>vcStep P T o (s.set d (.raw (.bool false))) h K
 | .tup _=>K (put s o.dst (.tup [])) h
 | _=>False
def gsK (P:Program) (T:TypeId→TI) (o:Oper) (want:Bool) (d:Option Nat) (s:List AV) (h:List Blk) (K:List AV→List Blk→Prop):Prop :=
 match d with
 | none=>False
 | some d=>gK P T o want d (s.getD d (.tup [])) s h K
def QOpsK (P:Program) (T:TypeId→TI) (ops:Array Oper) (h0:List Blk) (rest:List Oper) (K:List AV→List Blk→Prop):List AV→List Blk→Prop:=fun s h=>vqOps P T ops h0 rest s h K
def pcK (P:Program) (h0:List Blk) (g:FuncId) (args:List AV) (dst:Option Tmp) (s:List AV) (h:List Blk) (K:List AV→List Blk→Prop):Prop:=∃ v,RCall P h0 g args v∧K (put s dst v) h
def qcallK (P:Program) (h0:List Blk) (f:AV) (args:List AV) (dst:Option Tmp) (s:List AV) (h:List Blk) (K:List AV→List Blk→Prop):Prop :=
 match f with
 | .fn (.func g) first captured=>pcK P h0 g (first++args++captured) dst s h K
 | _=>False
def qrK (r:PR) (dst:Option Tmp) (s:List AV) (h:List Blk) (K:List AV→List Blk→Prop):Prop :=
 match r with
 | .ok u=>K (put s dst u) h
 | .side p u=>p∧K (put s dst u) h
 | .fact _ u=>K (put s dst u) h
 | .elem i es f=>ElemK i es f dst s h K
 | .bad=>False
def heK (h0:List Blk) (r:HR) (dst:Option Tmp) (s:List AV) (K:List AV→List Blk→Prop):Prop :=
 match r with
 | .ok u g=>MonoH h0 g∧K (put s dst u) g
 | .side p u g=>p∧MonoH h0 g∧K (put s dst u) g
 | .bad=>False
def gqK (P:Program) (T:TypeId→TI) (h0:List Blk) (o:Oper) (want:Bool) (d:Nat) (v:AV) (s:List AV) (h:List Blk) (K:List AV→List Blk→Prop):Prop :=
 match v with
 | .raw (.bool b)=>match b with
  | true=>match want with
   | true=>vqStep P T h0 o (s.set d (.raw (.bool true))) h K
   | false=>K (put (s.set d (.raw (.bool true))) o.dst (.tup [])) h
  | false=>match want with
   | true=>K (put (s.set d (.raw (.bool false))) o.dst (.tup [])) h
   | false=>vqStep P T h0 o (s.set d (.raw (.bool false))) h K
 | .tup _=>K (put s o.dst (.tup [])) h
 | _=>False
def gqsK (P:Program) (T:TypeId→TI) (h0:List Blk) (o:Oper) (want:Bool) (d:Option Nat) (s:List AV) (h:List Blk) (K:List AV→List Blk→Prop):Prop :=
 match d with
 | none=>False
 | some d=>gqK P T h0 o want d (s.getD d (.tup [])) s h K
variable {Q:Post} {s:List AV} {h:List Blk} {K:List AV→List Blk→Prop} {x y c:Code} {dst:Option Tmp} {ty:TypeId} {pos:String} {af:Array Edge} {gd:Option (Nat × Bool)} {ops:Array Oper} {rest:List Oper} {o:Oper}
theorem vc_skip:vc P T .skip Q s h=Q .normal s h:=Eq.trans rfl rfl
theorem vc_region (id:Nat) (l:List Oper):vc P T (.region id l.toArray false) Q s h=vcOps P T l.toArray l s h (Q .normal):=Eq.trans rfl rfl
theorem vc_seq:vc P T (.seq x y) Q s h=vc P T x (SeqK P T y Q) s h:=Eq.trans rfl rfl
theorem vc_cond (v:Operand):vc P T (.cond v x y) Q s h=brK P T v (opd s v) x y Q s h:=Eq.trans rfl rfl
theorem vc_block (id:Nat):vc P T (.block id c) Q s h=vc P T c (BlockK id Q) s h:=Eq.trans rfl rfl
theorem vc_exit (id:Nat):vc P T (.exit id) Q s h=Q (.exit id) s h:=Eq.trans rfl rfl
theorem vc_ret:vc P T .ret Q s h=Q .ret s h:=Eq.trans rfl rfl
theorem vc_label (l:Nat):vc P T (.label l) Q s h=Q .normal s h:=Eq.trans rfl rfl
theorem vc_scope:vc P T (.scope c) Q s h=vc P T c (ScopeK Q) s h:=Eq.trans rfl rfl
def rangeK (P:Program) (v:AV) (ps:Array Tmp) (x y:Code) (Q:Post) (s:List AV) (h:List Blk):Prop :=
 match v with
 | .fn (.func gf) [] captured=>∀ l:Nat,ACall P gf (.fn (.yield l) [] []::captured) (h++[.lp l .ready none ps x y s]) fun _ h'=>loopEnd Q s h.length h'
 | _=>False
theorem vc_rangeFunc (g:Operand) (ps:Array Tmp):vc P T (.rangeFunc g ps x y) Q s h=rangeK P (opd s g) ps x y Q s h:=Eq.trans rfl rfl
theorem rangeK_fn (gf:FuncId) (captured:List AV) (ps:Array Tmp):rangeK P (.fn (.func gf) [] captured) ps x y Q s h=∀ l:Nat,ACall P gf (.fn (.yield l) [] []::captured) (h++[.lp l .ready none ps x y s]) fun _ h'=>loopEnd Q s h.length h':=Eq.trans rfl rfl
theorem vc_goto (l:Nat):vc P T (.goto l) Q s h=Q (.goto l) s h:=Eq.trans rfl rfl
theorem SeqK_normal:SeqK P T y Q .normal s h=vc P T y Q s h:=Eq.trans rfl rfl
theorem SeqK_exit (i:Nat):SeqK P T y Q (.exit i) s h=Q (.exit i) s h:=Eq.trans rfl rfl
theorem SeqK_ret:SeqK P T y Q .ret s h=Q .ret s h:=Eq.trans rfl rfl
theorem SeqK_goto (l:Nat):SeqK P T y Q (.goto l) s h=Q (.goto l) s h:=Eq.trans rfl rfl
theorem BlockK_normal (id:Nat):BlockK id Q .normal s h=Q .normal s h:=Eq.trans rfl rfl
theorem BlockK_ret (id:Nat):BlockK id Q .ret s h=Q .ret s h:=Eq.trans rfl rfl
theorem BlockK_goto (id l:Nat):BlockK id Q (.goto l) s h=Q (.goto l) s h:=Eq.trans rfl rfl
theorem BlockK_same (id:Nat):BlockK id Q (.exit id) s h=Q .normal s h:=by simp[BlockK]
theorem BlockK_other {i id:Nat} (hne:(i==id)=false):BlockK id Q (.exit i) s h=Q (.exit i) s h:=by
 have:i≠id:=by simpa using hne
 simp[BlockK,this]
theorem ScopeK_normal:ScopeK Q .normal s h=Q .normal s h:=Eq.trans rfl rfl
theorem ScopeK_exit (i:Nat):ScopeK Q (.exit i) s h=Q (.exit i) s h:=Eq.trans rfl rfl
theorem ScopeK_ret:ScopeK Q .ret s h=Q .ret s h:=Eq.trans rfl rfl
theorem fin_normal:finPost K .normal s h=K s h:=Eq.trans rfl rfl
theorem fin_ret:finPost K .ret s h=K s h:=Eq.trans rfl rfl
theorem vcOps_nil:vcOps P T ops [] s h K=K s h:=Eq.trans rfl rfl
theorem vcOps_cons:vcOps P T ops (o::rest) s h K=vcGuard P T ops o s h (OpsK P T ops rest K):=Eq.trans rfl rfl
theorem OpsK_eq:OpsK P T ops rest K s h=vcOps P T ops rest s h K:=Eq.trans rfl rfl
theorem CallK_eq (r:AV):CallK dst s K r h=K (put s dst r) h:=Eq.trans rfl rfl
theorem vcGuard_none (op:Op):vcGuard P T ops ⟨dst,op,ty,pos,af,none⟩ s h K=vcStep P T ⟨dst,op,ty,pos,af,none⟩ s h K:=Eq.trans rfl rfl
theorem vcGuard_some (op:Op) (j:Nat) (want:Bool):vcGuard P T ops ⟨dst,op,ty,pos,af,some (j,want)⟩ s h K=gsK P T ⟨dst,op,ty,pos,af,some (j,want)⟩ want (guardSlot ops j) s h K:=Eq.trans rfl rfl
theorem gsK_some (want:Bool) (d:Nat):gsK P T o want (some d) s h K=gK P T o want d (s.getD d (.tup [])) s h K:=Eq.trans rfl rfl
theorem gK_tt (d:Nat):gK P T o true d (.raw (.bool true)) s h K=vcStep P T o (s.set d (.raw (.bool true))) h K:=Eq.trans rfl rfl
theorem gK_tf (d:Nat):gK P T o true d (.raw (.bool false)) s h K=K (put (s.set d (.raw (.bool false))) o.dst (.tup [])) h:=Eq.trans rfl rfl
theorem gK_ft (d:Nat):gK P T o false d (.raw (.bool true)) s h K=K (put (s.set d (.raw (.bool true))) o.dst (.tup [])) h:=Eq.trans rfl rfl
theorem gK_ff (d:Nat):gK P T o false d (.raw (.bool false)) s h K=vcStep P T o (s.set d (.raw (.bool false))) h K:=Eq.trans rfl rfl
theorem gK_tup (want:Bool) (d:Nat) (cs:List AV):gK P T o want d (.tup cs) s h K=K (put s o.dst (.tup [])) h:=Eq.trans rfl rfl
theorem brK_true (v:Operand):brK P T v (.raw (.bool true)) x y Q s h=vc P T x Q (condSet s v true) h:=Eq.trans rfl rfl
theorem brK_false (v:Operand):brK P T v (.raw (.bool false)) x y Q s h=vc P T y Q (condSet s v false) h:=Eq.trans rfl rfl
theorem condSet_tmp (t:Nat) (b:Bool):condSet s (.tmp t) b=s.set t (.raw (.bool b)):=Eq.trans rfl rfl
theorem condSet_const (v:Value) (b:Bool):condSet s (.const v) b=s:=Eq.trans rfl rfl
theorem prK_ok (op:Op) (v:AV):prK T op (.ok v) dst s h K=K (put s dst v) h:=Eq.trans rfl rfl
theorem prK_side (op:Op) (p:Prop) (v:AV):prK T op (.side p v) dst s h K=(p∧K (put s dst v) h):=Eq.trans rfl rfl
theorem prK_fact (op:Op) (p:Prop) (v:AV):prK T op (.fact p v) dst s h K=(p→K (put s dst v) h):=Eq.trans rfl rfl
theorem prK_elem (op:Op) (i:Int) (es:List AV) (f:AV→AV):prK T op (.elem i es f) dst s h K=ElemK i es f dst s h K:=Eq.trans rfl rfl
theorem prK_bad (op:Op):prK T op .bad dst s h K=hrK (stepHeap T s h op) dst s K:=Eq.trans rfl rfl
theorem hrK_ok (v:AV) (h':List Blk):hrK (.ok v h') dst s K=K (put s dst v) h':=Eq.trans rfl rfl
theorem hrK_side (p:Prop) (v:AV) (h':List Blk):hrK (.side p v h') dst s K=(p∧K (put s dst v) h'):=Eq.trans rfl rfl
theorem callK_fn (g:FuncId) (first args captured:List AV):callK P (.fn (.func g) first captured) args dst s h K=ACall P g (first++args++captured) h (CallK dst s K):=Eq.trans rfl rfl
theorem put_some (d:Nat) (v:AV):put s (some d) v=s.set d v:=Eq.trans rfl rfl
theorem put_none (v:AV):put s none v=s:=Eq.trans rfl rfl
theorem opd_tmp (t:Nat):opd s (.tmp t)=s.getD t (.tup []):=Eq.trans rfl rfl
theorem opd_const (v:Value):opd s (.const v)=.raw v:=Eq.trans rfl rfl
theorem opd_func (f:Nat):opd s (.func f)=.fn (.func f) [] []:=Eq.trans rfl rfl
section steps
variable (t u:TypeId) (a b d:Operand) (n:Nat)
theorem vs_move:vcStep P T ⟨dst,.move a,ty,pos,af,gd⟩ s h K=K (put s dst (opd s a)) h:=Eq.trans rfl rfl
theorem vs_assign:vcStep P T ⟨dst,.assign a,ty,pos,af,gd⟩ s h K=K (put s dst (opd s a)) h:=Eq.trans rfl rfl
theorem vs_pick:vcStep P T ⟨dst,.pick d a b,ty,pos,af,gd⟩ s h K=prK T (.pick d a b) (stepPure T s h (.pick d a b)) dst s h K:=Eq.trans rfl rfl
theorem vs_load:vcStep P T ⟨dst,.load t a,ty,pos,af,gd⟩ s h K=prK T (.load t a) (stepPure T s h (.load t a)) dst s h K:=Eq.trans rfl rfl
theorem vs_fieldAddr:vcStep P T ⟨dst,.fieldAddr t a n,ty,pos,af,gd⟩ s h K=prK T (.fieldAddr t a n) (stepPure T s h (.fieldAddr t a n)) dst s h K:=Eq.trans rfl rfl
theorem vs_field:vcStep P T ⟨dst,.field t a n,ty,pos,af,gd⟩ s h K=prK T (.field t a n) (stepPure T s h (.field t a n)) dst s h K:=Eq.trans rfl rfl
theorem vs_indexAddr:vcStep P T ⟨dst,.indexAddr t a b,ty,pos,af,gd⟩ s h K=prK T (.indexAddr t a b) (stepPure T s h (.indexAddr t a b)) dst s h K:=Eq.trans rfl rfl
theorem vs_index:vcStep P T ⟨dst,.index t a b,ty,pos,af,gd⟩ s h K=prK T (.index t a b) (stepPure T s h (.index t a b)) dst s h K:=Eq.trans rfl rfl
theorem vs_binOp (op:BinOp):vcStep P T ⟨dst,.binOp op t a b u,ty,pos,af,gd⟩ s h K=prK T (.binOp op t a b u) (stepPure T s h (.binOp op t a b u)) dst s h K:=Eq.trans rfl rfl
theorem vs_unOp (op:UnOp):vcStep P T ⟨dst,.unOp op t a,ty,pos,af,gd⟩ s h K=prK T (.unOp op t a) (stepPure T s h (.unOp op t a)) dst s h K:=Eq.trans rfl rfl
theorem vs_extract:vcStep P T ⟨dst,.extract a n,ty,pos,af,gd⟩ s h K=prK T (.extract a n) (stepPure T s h (.extract a n)) dst s h K:=Eq.trans rfl rfl
theorem vs_build (ps:Array (Nat × Operand)):vcStep P T ⟨dst,.build t ps,ty,pos,af,gd⟩ s h K=prK T (.build t ps) (stepPure T s h (.build t ps)) dst s h K:=Eq.trans rfl rfl
theorem vs_makeFunc (f:Fn) (xs ys:Array Operand):vcStep P T ⟨dst,.makeFunc f xs ys,ty,pos,af,gd⟩ s h K=prK T (.makeFunc f xs ys) (stepPure T s h (.makeFunc f xs ys)) dst s h K:=Eq.trans rfl rfl
theorem vs_slice (lo hi mx:Option Operand):vcStep P T ⟨dst,.slice t a lo hi mx,ty,pos,af,gd⟩ s h K=prK T (.slice t a lo hi mx) (stepPure T s h (.slice t a lo hi mx)) dst s h K:=Eq.trans rfl rfl
theorem vs_convert:vcStep P T ⟨dst,.convert t u a,ty,pos,af,gd⟩ s h K=prK T (.convert t u a) (stepPure T s h (.convert t u a)) dst s h K:=Eq.trans rfl rfl
theorem vs_nilCheck:vcStep P T ⟨dst,.nilCheck a,ty,pos,af,gd⟩ s h K=prK T (.nilCheck a) (stepPure T s h (.nilCheck a)) dst s h K:=Eq.trans rfl rfl
theorem vs_box:vcStep P T ⟨dst,.box t a,ty,pos,af,gd⟩ s h K=hrK (stepHeap T s h (.box t a)) dst s K:=Eq.trans rfl rfl
theorem vs_alloc:vcStep P T ⟨dst,.alloc t,ty,pos,af,gd⟩ s h K=hrK (stepHeap T s h (.alloc t)) dst s K:=Eq.trans rfl rfl
theorem vs_store:vcStep P T ⟨dst,.store t a b,ty,pos,af,gd⟩ s h K=hrK (stepHeap T s h (.store t a b)) dst s K:=Eq.trans rfl rfl
theorem vs_buildSlice (ps:Array (Nat × Operand)):vcStep P T ⟨dst,.buildSlice t n ps,ty,pos,af,gd⟩ s h K=hrK (stepHeap T s h (.buildSlice t n ps)) dst s K:=Eq.trans rfl rfl
theorem vs_makeSlice:vcStep P T ⟨dst,.makeSlice t a b,ty,pos,af,gd⟩ s h K=hrK (stepHeap T s h (.makeSlice t a b)) dst s K:=Eq.trans rfl rfl
theorem vs_call (args:Array Operand) (ts:Array TypeId):vcStep P T ⟨dst,.call { callee:=.value a,args:=args,argTypes:=ts },ty,pos,af,gd⟩ s h K=callK P (opd s a) (args.toList.map (opd s)) dst s h K:=by
 simp only[vcStep,callK]
 generalize opd s a=v
 split
 ·
  rfl
 ·
  rfl
 ·
  split<;>first|rfl|simp_all
theorem callK_yield (l:Nat) (args:List AV):callK P (.fn (.yield l) [] []) args dst s h K=YCall P l args h (CallK dst s K):=Eq.trans rfl rfl
theorem vs_len (args:Array Operand) (ts:Array TypeId):vcStep P T ⟨dst,.call { callee:=.builtin .len,args:=args,argTypes:=ts },ty,pos,af,gd⟩ s h K=prK T (.call { callee:=.builtin .len,args:=args,argTypes:=ts }) (stepPure T s h (.call { callee:=.builtin .len,args:=args,argTypes:=ts })) dst s h K:=Eq.trans rfl rfl
theorem vs_min (args:Array Operand) (ts:Array TypeId):vcStep P T ⟨dst,.call { callee:=.builtin .min,args:=args,argTypes:=ts },ty,pos,af,gd⟩ s h K=prK T (.call { callee:=.builtin .min,args:=args,argTypes:=ts }) (stepPure T s h (.call { callee:=.builtin .min,args:=args,argTypes:=ts })) dst s h K:=Eq.trans rfl rfl
theorem vs_max (args:Array Operand) (ts:Array TypeId):vcStep P T ⟨dst,.call { callee:=.builtin .max,args:=args,argTypes:=ts },ty,pos,af,gd⟩ s h K=prK T (.call { callee:=.builtin .max,args:=args,argTypes:=ts }) (stepPure T s h (.call { callee:=.builtin .max,args:=args,argTypes:=ts })) dst s h K:=Eq.trans rfl rfl
theorem vs_append (args:Array Operand) (ts:Array TypeId):vcStep P T ⟨dst,.call { callee:=.builtin .append,args:=args,argTypes:=ts },ty,pos,af,gd⟩ s h K=hrK (stepHeap T s h (.call { callee:=.builtin .append,args:=args,argTypes:=ts })) dst s K:=Eq.trans rfl rfl
theorem vs_range:vcStep P T ⟨dst,.range t a,ty,pos,af,gd⟩ s h K=hrK (stepHeap T s h (.range t a)) dst s K:=Eq.trans rfl rfl
theorem vs_next (q:Bool):vcStep P T ⟨dst,.next a q,ty,pos,af,gd⟩ s h K=hrK (stepHeap T s h (.next a q)) dst s K:=Eq.trans rfl rfl
theorem vs_lookup (ok:Bool):vcStep P T ⟨dst,.lookup t a b ok,ty,pos,af,gd⟩ s h K=hrK (stepHeap T s h (.lookup t a b ok)) dst s K:=Eq.trans rfl rfl
theorem vs_makeMap (r:Option Operand):vcStep P T ⟨dst,.makeMap t r,ty,pos,af,gd⟩ s h K=hrK (stepHeap T s h (.makeMap t r)) dst s K:=Eq.trans rfl rfl
theorem vs_mapUpdate (v:Operand):vcStep P T ⟨dst,.mapUpdate t a b v,ty,pos,af,gd⟩ s h K=hrK (stepHeap T s h (.mapUpdate t a b v)) dst s K:=Eq.trans rfl rfl
theorem vs_delete (args:Array Operand) (ts:Array TypeId):vcStep P T ⟨dst,.call { callee:=.builtin .delete,args:=args,argTypes:=ts },ty,pos,af,gd⟩ s h K=hrK (stepHeap T s h (.call { callee:=.builtin .delete,args:=args,argTypes:=ts })) dst s K:=Eq.trans rfl rfl
end steps
section draws
variable (h0:List Blk) (t u:TypeId) (a b d:Operand) (n:Nat)
theorem vc_draw (id:Nat) (l:List Oper):vc P T (.region id l.toArray true) Q s h=DrawK P T l.toArray s h (Q .normal):=Eq.trans rfl rfl
theorem vqOps_nil:vqOps P T ops h0 [] s h K=K s h:=Eq.trans rfl rfl
theorem vqOps_cons:vqOps P T ops h0 (o::rest) s h K=vqGuard P T ops h0 o s h (QOpsK P T ops h0 rest K):=Eq.trans rfl rfl
theorem QOpsK_eq:QOpsK P T ops h0 rest K s h=vqOps P T ops h0 rest s h K:=Eq.trans rfl rfl
theorem vqGuard_none (op:Op):vqGuard P T ops h0 ⟨dst,op,ty,pos,af,none⟩ s h K=vqStep P T h0 ⟨dst,op,ty,pos,af,none⟩ s h K:=Eq.trans rfl rfl
theorem vqGuard_some (op:Op) (j:Nat) (want:Bool):vqGuard P T ops h0 ⟨dst,op,ty,pos,af,some (j,want)⟩ s h K=gqsK P T h0 ⟨dst,op,ty,pos,af,some (j,want)⟩ want (guardSlot ops j) s h K:=Eq.trans rfl rfl
theorem vTree_nil:vTree P T ops K .nil s h=K s h:=Eq.trans rfl rfl
theorem vTree_one (k:Nat) (t:Tr):vTree P T ops K (.one k t) s h=vgAt P T ops ops[k]? s h (vTree P T ops K t):=Eq.trans rfl rfl
theorem vTree_two (k l:Nat) (t u:Tr):vTree P T ops K (.two k t l u) s h=(vgAt P T ops ops[k]? s h (vTree P T ops K t)∧vgAt P T ops ops[l]? s h (vTree P T ops K u)):=Eq.trans rfl rfl
theorem vgAt_some (o:Oper):vgAt P T ops (some o) s h K=vcGuard P T ops o s h K:=Eq.trans rfl rfl
theorem vqTree_nil:vqTree P T ops h0 K .nil s h=K s h:=Eq.trans rfl rfl
theorem vqTree_one (k:Nat) (t:Tr):vqTree P T ops h0 K (.one k t) s h=vqAt P T ops h0 ops[k]? s h (vqTree P T ops h0 K t):=Eq.trans rfl rfl
theorem vqTree_two (k l:Nat) (t u:Tr):vqTree P T ops h0 K (.two k t l u) s h=(vqAt P T ops h0 ops[k]? s h (vqTree P T ops h0 K t)∧vqAt P T ops h0 ops[l]? s h (vqTree P T ops h0 K u)):=Eq.trans rfl rfl
theorem vqAt_some (o:Oper):vqAt P T ops h0 (some o) s h K=vqGuard P T ops h0 o s h K:=Eq.trans rfl rfl
def MK2 (h0:List Blk) (K:List AV→List Blk→Prop) (s:List AV) (h:List Blk):Prop:=MonoH h0 h∧K s h
theorem MK2_eq:MK2 h0 K s h=(MonoH h0 h∧K s h):=Eq.trans rfl rfl
theorem vmTree_nil:vmTree P T ops h0 K .nil s h=K s h:=Eq.trans rfl rfl
theorem vmTree_pur (k:Nat) (t:TrM):vmTree P T ops h0 K (.pur k t) s h=vqAt P T ops h0 ops[k]? s h (vmTree P T ops h0 K t):=Eq.trans rfl rfl
theorem vmTree_eff (k:Nat) (t:TrM):vmTree P T ops h0 K (.eff k t) s h=vgAt P T ops ops[k]? s h (MK2 h0 (vmTree P T ops h0 K t)):=Eq.trans rfl rfl
theorem vmTree_two (k l:Nat) (t u:TrM):vmTree P T ops h0 K (.two k t l u) s h=(vgAt P T ops ops[k]? s h (MK2 h0 (vmTree P T ops h0 K t))∧vgAt P T ops ops[l]? s h (MK2 h0 (vmTree P T ops h0 K u))):=Eq.trans rfl rfl
theorem gqsK_some (want:Bool) (d:Nat):gqsK P T h0 o want (some d) s h K=gqK P T h0 o want d (s.getD d (.tup [])) s h K:=Eq.trans rfl rfl
theorem gqK_tt (d:Nat):gqK P T h0 o true d (.raw (.bool true)) s h K=vqStep P T h0 o (s.set d (.raw (.bool true))) h K:=Eq.trans rfl rfl
theorem gqK_tf (d:Nat):gqK P T h0 o true d (.raw (.bool false)) s h K=K (put (s.set d (.raw (.bool false))) o.dst (.tup [])) h:=Eq.trans rfl rfl
theorem gqK_ft (d:Nat):gqK P T h0 o false d (.raw (.bool true)) s h K=K (put (s.set d (.raw (.bool true))) o.dst (.tup [])) h:=Eq.trans rfl rfl
theorem gqK_ff (d:Nat):gqK P T h0 o false d (.raw (.bool false)) s h K=vqStep P T h0 o (s.set d (.raw (.bool false))) h K:=Eq.trans rfl rfl
theorem gqK_tup (want:Bool) (d:Nat) (cs:List AV):gqK P T h0 o want d (.tup cs) s h K=K (put s o.dst (.tup [])) h:=Eq.trans rfl rfl
theorem qrK_ok (v:AV):qrK (.ok v) dst s h K=K (put s dst v) h:=Eq.trans rfl rfl
theorem qrK_side (p:Prop) (v:AV):qrK (.side p v) dst s h K=(p∧K (put s dst v) h):=Eq.trans rfl rfl
theorem qrK_fact (p:Prop) (v:AV):qrK (.fact p v) dst s h K=K (put s dst v) h:=Eq.trans rfl rfl
theorem qrK_elem (i:Int) (es:List AV) (f:AV→AV):qrK (.elem i es f) dst s h K=ElemK i es f dst s h K:=Eq.trans rfl rfl
theorem heK_ok (v:AV) (g:List Blk):heK h0 (.ok v g) dst s K=(MonoH h0 g∧K (put s dst v) g):=Eq.trans rfl rfl
theorem heK_side (p:Prop) (v:AV) (g:List Blk):heK h0 (.side p v g) dst s K=(p∧MonoH h0 g∧K (put s dst v) g):=Eq.trans rfl rfl
theorem qcallK_fn (g:FuncId) (first args captured:List AV):qcallK P h0 (.fn (.func g) first captured) args dst s h K=pcK P h0 g (first++args++captured) dst s h K:=Eq.trans rfl rfl
theorem MonoH_nil (g:List Blk):MonoH [] g=True:=Eq.trans rfl rfl
theorem MonoH_cells (t u:TypeId) (cs ds:List AV) (x y:List Blk):MonoH (.cells t cs::x) (.cells u ds::y)=(cs=ds∧MonoH x y):=Eq.trans rfl rfl
theorem MonoH_tok (e sz m:Nat) (y:Blk) (x z:List Blk):MonoH (.tok e sz m::x) (y::z)=MonoH x z:=by simp[MonoH]
theorem MonoH_cut (e sz m:Nat) (y:Blk) (x z:List Blk):MonoH (.cut e sz m::x) (y::z)=MonoH x z:=by simp[MonoH]
theorem MonoH_mp (kk:KK) (n:Nat) (f:Value→Option AV) (y:Blk) (x z:List Blk):MonoH (.mp kk n f::x) (y::z)=MonoH x z:=by simp[MonoH]
theorem MonoH_own (e sz:Nat) (es:List AV) (y:Blk) (x z:List Blk):MonoH (.own e sz es::x) (y::z)=MonoH x z:=by simp[MonoH]
theorem MonoH_dead (y:Blk) (x z:List Blk):MonoH (.dead::x) (y::z)=MonoH x z:=by simp[MonoH]
theorem qs_move:vqStep P T h0 ⟨dst,.move a,ty,pos,af,gd⟩ s h K=K (put s dst (opd s a)) h:=Eq.trans rfl rfl
theorem qs_assign:vqStep P T h0 ⟨dst,.assign a,ty,pos,af,gd⟩ s h K=K (put s dst (opd s a)) h:=Eq.trans rfl rfl
theorem qs_pick:vqStep P T h0 ⟨dst,.pick d a b,ty,pos,af,gd⟩ s h K=qrK (stepPure T s h0 (.pick d a b)) dst s h K:=Eq.trans rfl rfl
theorem qs_load:vqStep P T h0 ⟨dst,.load t a,ty,pos,af,gd⟩ s h K=qrK (stepPure T s h0 (.load t a)) dst s h K:=Eq.trans rfl rfl
theorem qs_fieldAddr:vqStep P T h0 ⟨dst,.fieldAddr t a n,ty,pos,af,gd⟩ s h K=qrK (stepPure T s h0 (.fieldAddr t a n)) dst s h K:=Eq.trans rfl rfl
theorem qs_field:vqStep P T h0 ⟨dst,.field t a n,ty,pos,af,gd⟩ s h K=qrK (stepPure T s h0 (.field t a n)) dst s h K:=Eq.trans rfl rfl
theorem qs_indexAddr:vqStep P T h0 ⟨dst,.indexAddr t a b,ty,pos,af,gd⟩ s h K=qrK (stepPure T s h0 (.indexAddr t a b)) dst s h K:=Eq.trans rfl rfl
theorem qs_index:vqStep P T h0 ⟨dst,.index t a b,ty,pos,af,gd⟩ s h K=qrK (stepPure T s h0 (.index t a b)) dst s h K:=Eq.trans rfl rfl
theorem qs_binOp (op:BinOp):vqStep P T h0 ⟨dst,.binOp op t a b u,ty,pos,af,gd⟩ s h K=qrK (stepPure T s h0 (.binOp op t a b u)) dst s h K:=Eq.trans rfl rfl
theorem qs_unOp (op:UnOp):vqStep P T h0 ⟨dst,.unOp op t a,ty,pos,af,gd⟩ s h K=qrK (stepPure T s h0 (.unOp op t a)) dst s h K:=Eq.trans rfl rfl
theorem qs_extract:vqStep P T h0 ⟨dst,.extract a n,ty,pos,af,gd⟩ s h K=qrK (stepPure T s h0 (.extract a n)) dst s h K:=Eq.trans rfl rfl
theorem qs_build (ps:Array (Nat × Operand)):vqStep P T h0 ⟨dst,.build t ps,ty,pos,af,gd⟩ s h K=qrK (stepPure T s h0 (.build t ps)) dst s h K:=Eq.trans rfl rfl
theorem qs_makeFunc (f:Fn) (xs ys:Array Operand):vqStep P T h0 ⟨dst,.makeFunc f xs ys,ty,pos,af,gd⟩ s h K=qrK (stepPure T s h0 (.makeFunc f xs ys)) dst s h K:=Eq.trans rfl rfl
theorem qs_slice (lo hi:Option Operand):vqStep P T h0 ⟨dst,.slice t a lo hi none,ty,pos,af,gd⟩ s h K=qrK (stepPure T s h0 (.slice t a lo hi none)) dst s h K:=Eq.trans rfl rfl
theorem qs_slice3 (lo hi:Option Operand) (m:Operand):vqStep P T h0 ⟨dst,.slice t a lo hi (some m),ty,pos,af,gd⟩ s h K=heK h0 (stepHeap T s h (.slice t a lo hi (some m))) dst s K:=Eq.trans rfl rfl
theorem qs_convert:vqStep P T h0 ⟨dst,.convert t u a,ty,pos,af,gd⟩ s h K=qrK (stepPure T s h0 (.convert t u a)) dst s h K:=Eq.trans rfl rfl
theorem qs_nilCheck:vqStep P T h0 ⟨dst,.nilCheck a,ty,pos,af,gd⟩ s h K=qrK (stepPure T s h0 (.nilCheck a)) dst s h K:=Eq.trans rfl rfl
theorem qs_box:vqStep P T h0 ⟨dst,.box t a,ty,pos,af,gd⟩ s h K=heK h0 (stepHeap T s h (.box t a)) dst s K:=Eq.trans rfl rfl
theorem qs_alloc:vqStep P T h0 ⟨dst,.alloc t,ty,pos,af,gd⟩ s h K=heK h0 (stepHeap T s h (.alloc t)) dst s K:=Eq.trans rfl rfl
theorem qs_store:vqStep P T h0 ⟨dst,.store t a b,ty,pos,af,gd⟩ s h K=heK h0 (stepHeap T s h (.store t a b)) dst s K:=Eq.trans rfl rfl
theorem qs_buildSlice (ps:Array (Nat × Operand)):vqStep P T h0 ⟨dst,.buildSlice t n ps,ty,pos,af,gd⟩ s h K=heK h0 (stepHeap T s h (.buildSlice t n ps)) dst s K:=Eq.trans rfl rfl
theorem qs_mapUpdate {m:Operand}:vqStep P T h0 ⟨dst,.mapUpdate t m a b,ty,pos,af,gd⟩ s h K=heK h0 (stepHeap T s h (.mapUpdate t m a b)) dst s K:=Eq.trans rfl rfl
theorem qs_makeSlice:vqStep P T h0 ⟨dst,.makeSlice t a b,ty,pos,af,gd⟩ s h K=heK h0 (stepHeap T s h (.makeSlice t a b)) dst s K:=Eq.trans rfl rfl
theorem qs_len (args:Array Operand) (ts:Array TypeId):vqStep P T h0 ⟨dst,.call { callee:=.builtin .len,args:=args,argTypes:=ts },ty,pos,af,gd⟩ s h K=qrK (stepPure T s h0 (.call { callee:=.builtin .len,args:=args,argTypes:=ts })) dst s h K:=Eq.trans rfl rfl
theorem qs_min (args:Array Operand) (ts:Array TypeId):vqStep P T h0 ⟨dst,.call { callee:=.builtin .min,args:=args,argTypes:=ts },ty,pos,af,gd⟩ s h K=qrK (stepPure T s h0 (.call { callee:=.builtin .min,args:=args,argTypes:=ts })) dst s h K:=Eq.trans rfl rfl
theorem qs_max (args:Array Operand) (ts:Array TypeId):vqStep P T h0 ⟨dst,.call { callee:=.builtin .max,args:=args,argTypes:=ts },ty,pos,af,gd⟩ s h K=qrK (stepPure T s h0 (.call { callee:=.builtin .max,args:=args,argTypes:=ts })) dst s h K:=Eq.trans rfl rfl
theorem qs_append (args:Array Operand) (ts:Array TypeId):vqStep P T h0 ⟨dst,.call { callee:=.builtin .append,args:=args,argTypes:=ts },ty,pos,af,gd⟩ s h K=heK h0 (stepHeap T s h (.call { callee:=.builtin .append,args:=args,argTypes:=ts })) dst s K:=Eq.trans rfl rfl
theorem qs_call (args:Array Operand) (ts:Array TypeId):vqStep P T h0 ⟨dst,.call { callee:=.value a,args:=args,argTypes:=ts },ty,pos,af,gd⟩ s h K=qcallK P h0 (opd s a) (args.toList.map (opd s)) dst s h K:=by
 cases h:opd s a<;>simp only[vqStep,qcallK,pcK,h]<;>first|rfl|(split<;>first|rfl|(split<;>first|rfl|simp_all))
end draws
theorem drawK {l:List Oper} (hm:P.follows .mixedOrders=true) (hl:lexE l.toArray=true) (hv:vqOps P T l.toArray h l s h K):DrawK P T l.toArray s h K:=⟨hm,.inl ⟨hl,h,MonoH.refl h,hv⟩⟩
theorem drawC {l:List Oper} (ks:List Nat) (hm:P.follows .mixedOrders=true) (hl:lexE l.toArray=true) (hv:vqOps P T l.toArray (cutH ks h) l s h K):DrawK P T l.toArray s h K:=⟨hm,.inl ⟨hl,_,MonoH.cuts ks h,hv⟩⟩
theorem drawZ {l:List Oper} {o:Oper} (hm:P.follows .mixedOrders=true) (hl:lexZ l.toArray (l.length-1)=true) (ho:l.getLast?=some o) (hv:vqOps P T l.toArray h l.dropLast s h fun s' h'=>vcGuard P T l.toArray o s' h' K):DrawK P T l.toArray s h K:=by
 obtain⟨l',rfl⟩:=List.getLast?_eq_some_iff.1 ho
 rw[List.dropLast_concat] at hv
 exact⟨hm,.inr (.inl ⟨l',o,rfl,by simpa using hl,hv⟩)⟩
theorem drawV {l:List Oper} (t:Tr) (hm:P.follows .mixedOrders=true) (hl:(lexV l.toArray t (Array.replicate l.toArray.size false)&&decide (t.len=l.toArray.size))=true) (hv:vTree P T l.toArray K t s h):DrawK P T l.toArray s h K:=by
 simp only[Bool.and_eq_true,decide_eq_true_eq] at hl
 exact⟨hm,.inr (.inr (.inr (.inl ⟨t,hl.1,hl.2,hv⟩)))⟩
theorem drawM {l:List Oper} (ks:List Nat) (t:TrM) (hm:P.follows .mixedOrders=true) (hl:(lexM l.toArray t (Array.replicate l.toArray.size false)&&decide (t.len=l.toArray.size))=true) (hv:vmTree P T l.toArray (cutH ks h) K t s h):DrawK P T l.toArray s h K:=by
 simp only[Bool.and_eq_true,decide_eq_true_eq] at hl
 exact⟨hm,.inr (.inr (.inr (.inr ⟨t,hl.1,hl.2,_,MonoH.cuts ks h,hv⟩)))⟩
theorem pcK_of {h0:List Blk} {g:FuncId} {args:List AV} {v:AV} (hp:PCall P g args v) (hk:K (put s dst v) h):pcK P h0 g args dst s h K:=⟨v,hp.toR,hk⟩
theorem pcK_ofW {h0:List Blk} {g:FuncId} {azs args:List AV} {v:AV} (hp:PCall P g args v) (hw:WeakL azs args) (hk:K (put s dst v) h):pcK P h0 g azs dst s h K:=⟨v,fun _ _ _ hk=>hp.callW hw hk,hk⟩
theorem pcK_ofR {h0:List Blk} {g:FuncId} {args:List AV} {v:AV} (hp:RCall P h0 g args v) (hk:K (put s dst v) h):pcK P h0 g args dst s h K:=⟨v,hp,hk⟩
theorem gqK_split {h0:List Blk} {b want:Bool} {d:Nat} (ht:b=true→gqK P T h0 o want d (.raw (.bool true)) s h K) (hf:b=false→gqK P T h0 o want d (.raw (.bool false)) s h K):gqK P T h0 o want d (.raw (.bool b)) s h K:=by
 cases b with
 | true=>exact ht rfl
 | false=>exact hf rfl
theorem gqK_dec {h0:List Blk} {p:Prop} [Decidable p] {want:Bool} {d:Nat} (ht:p→gqK P T h0 o want d (.raw (.bool true)) s h K) (hf:¬ p→gqK P T h0 o want d (.raw (.bool false)) s h K):gqK P T h0 o want d (.raw (.bool (decide p))) s h K :=
 gqK_split (fun hb=>ht (of_decide_eq_true hb)) (fun hb=>hf (of_decide_eq_false hb))
theorem brK_split {b:Bool} {v:Operand} (ht:b=true→vc P T x Q (condSet s v true) h) (hf:b=false→vc P T y Q (condSet s v false) h):brK P T v (.raw (.bool b)) x y Q s h:=by
 cases b with
 | true=>exact ht rfl
 | false=>exact hf rfl
theorem gK_split {b want:Bool} {d:Nat} (ht:b=true→gK P T o want d (.raw (.bool true)) s h K) (hf:b=false→gK P T o want d (.raw (.bool false)) s h K):gK P T o want d (.raw (.bool b)) s h K:=by
 cases b with
 | true=>exact ht rfl
 | false=>exact hf rfl
theorem brK_dec {p:Prop} [Decidable p] {v:Operand} (ht:p→vc P T x Q (condSet s v true) h) (hf:¬ p→vc P T y Q (condSet s v false) h):brK P T v (.raw (.bool (decide p))) x y Q s h :=
 brK_split (fun hb=>ht (of_decide_eq_true hb)) (fun hb=>hf (of_decide_eq_false hb))
theorem brK_any {b:Bool} {v:Operand} (ht:vc P T x Q (condSet s v true) h) (hf:vc P T y Q (condSet s v false) h):brK P T v (.raw (.bool b)) x y Q s h:=brK_split (fun _=>ht) (fun _=>hf)
theorem gK_any {b want:Bool} {d:Nat} (ht:gK P T o want d (.raw (.bool true)) s h K) (hf:gK P T o want d (.raw (.bool false)) s h K):gK P T o want d (.raw (.bool b)) s h K:=gK_split (fun _=>ht) (fun _=>hf)
theorem gK_dec {p:Prop} [Decidable p] {want:Bool} {d:Nat} (ht:p→gK P T o want d (.raw (.bool true)) s h K) (hf:¬ p→gK P T o want d (.raw (.bool false)) s h K):gK P T o want d (.raw (.bool (decide p))) s h K :=
 gK_split (fun hb=>ht (of_decide_eq_true hb)) (fun hb=>hf (of_decide_eq_false hb))
theorem elemK {i:Int} {es:List AV} {f:AV→AV} (v:AV) (h0:0≤i) (hx:es[i.toNat]?=some v) (hk:K (put s dst (f v)) h):ElemK i es f dst s h K:=⟨v,⟨h0,hx⟩,hk⟩
theorem vcStep_mono {K K':List AV→List Blk→Prop} (hk:∀ s h,K s h→K' s h) (o:Oper) (hv:vcStep P T o s h K):vcStep P T o s h K':=by
 unfold vcStep at *
 split at hv
 ·
  split at hv
  ·
   exact hv.mono fun r h' hK=>hk _ _ hK
  ·
   exact hv.mono fun r h' hK=>hk _ _ hK
  ·
   exact hv.elim
 ·
  split at hv
  ·
   exact hk _ _ hv
  ·
   exact⟨hv.1,hk _ _ hv.2⟩
  ·
   exact fun hp=>hk _ _ (hv hp)
  ·
   obtain⟨x,h1,h2⟩:=hv
   exact⟨x,h1,hk _ _ h2⟩
  ·
   split at hv
   ·
    exact hk _ _ hv
   ·
    exact⟨hv.1,hk _ _ hv.2⟩
   ·
    exact hv.elim
theorem vcGuard_mono {K K':List AV→List Blk→Prop} (hk:∀ s h,K s h→K' s h) (o:Oper) (hv:vcGuard P T ops o s h K):vcGuard P T ops o s h K':=by
 unfold vcGuard at *
 split at hv
 ·
  exact vcStep_mono hk o hv
 ·
  split at hv
  ·
   exact hv.elim
  ·
   split at hv
   ·
    split at hv
    ·
     split at hv
     ·
      exact vcStep_mono hk o hv
     ·
      exact hk _ _ hv
    ·
     split at hv
     ·
      exact hk _ _ hv
     ·
      exact vcStep_mono hk o hv
   ·
    exact hk _ _ hv
   ·
    exact hv.elim
theorem vcOps_mono:∀(l:List Oper) {K K':List AV→List Blk→Prop} {s:List AV} {h:List Blk},(∀ s h,K s h→K' s h)→vcOps P T ops l s h K→vcOps P T ops l s h K'
 | [],_,_,_,_,hk,hv=>hk _ _ hv
 | o::rest,_,_,_,_,hk,hv=>vcGuard_mono (fun _ _ hv=>vcOps_mono rest hk hv) o hv
theorem LoopN_mono {body:Post→List AV→List Blk→Prop} (hb:∀(Q Q':Post) (s:List AV) (h:List Blk),(∀ e s h,Q e s h→Q' e s h)→body Q s h→body Q' s h) {Q Q':Post} (hq:∀ e s h,Q e s h→Q' e s h):∀ {n m:Nat} {s:List AV} {h:List Blk},n≤m→LoopN body Q n s h→LoopN body Q' m s h
 | 0,_,_,_,_,hl=>hl.elim
 | n+1,0,_,_,hle,_=>by omega
 | n+1,m+1,s,h,hle,hl=>by
  refine hb _ _ _ _ ?_ hl
  intro e s h hx
  cases e with
  | normal=>exact LoopN_mono hb hq (by omega) hx
  | exit i=>exact hq _ _ _ hx
  | ret=>exact hq _ _ _ hx
  | goto l=>exact hq _ _ _ hx
theorem loopEnd_mono {Q Q':Post} (hq:∀ e s h,Q e s h→Q' e s h) {s:List AV} {k:Nat} {h:List Blk} (hv:loopEnd Q s k h):loopEnd Q' s k h:=by
 unfold loopEnd at *
 split at hv
 ·
  exact hq _ _ _ hv
 ·
  exact hq _ _ _ hv
 ·
  exact hq _ _ _ hv
 ·
  exact hv.elim
theorem RangeK_mono {Q Q':Post} (hq:∀ e s h,Q e s h→Q' e s h) {g:Operand} {ps:Array Tmp} {x y:Code} {s:List AV} {h:List Blk} (hv:RangeK P g ps x y Q s h):RangeK P g ps x y Q' s h:=by
 unfold RangeK at *
 split at hv
 ·
  exact fun l=>ACall.mono (fun _ _ k=>loopEnd_mono hq k) (hv l)
 ·
  exact hv.elim
theorem vc_mono (c:Code):∀ {Q Q':Post} {s:List AV} {h:List Blk},(∀ e s h,Q e s h→Q' e s h)→vc P T c Q s h→vc P T c Q' s h:=by
 induction c with
 | skip=>intro Q Q' s h hq hv;exact hq _ _ _ hv
 | region id ops draw =>
  intro Q Q' s h hq hv
  cases draw with
  | true=>exact DrawK.mono (fun s h hx=>hq _ _ _ hx) hv
  | false=>exact vcOps_mono _ (fun s h hx=>hq _ _ _ hx) hv
 | seq x y ihx ihy =>
  intro Q Q' s h hq hv
  refine ihx ?_ hv
  intro e s h hx
  cases e with
  | normal=>exact ihy hq hx
  | exit i=>exact hq _ _ _ hx
  | ret=>exact hq _ _ _ hx
  | goto l=>exact hq _ _ _ hx
 | cond c x y ihx ihy =>
  intro Q Q' s h hq hv
  simp only[vc] at hv ⊢
  split at hv
  ·
   split at hv
   ·
    exact ihx hq hv
   ·
    exact ihy hq hv
  ·
   exact hv.elim
 | block id c ih =>
  intro Q Q' s h hq hv
  refine ih ?_ hv
  intro e s h hx
  cases e with
  | normal=>exact hq _ _ _ hx
  | exit i =>
   dsimp only at hx ⊢
   split at hx
   ·
    exact hq _ _ _ hx
   ·
    exact hq _ _ _ hx
  | ret=>exact hq _ _ _ hx
  | goto l=>exact hq _ _ _ hx
 | loop c ih =>
  intro Q Q' s h hq hv
  obtain⟨s0,h0,hg,n,hn⟩:=hv
  exact⟨s0,h0,hg,n,LoopN_mono (body:=fun Q' s h=>vc P T c Q' s h) (fun _ _ _ _ h=>ih h) hq (Nat.le_refl n) hn⟩
 | exit id=>intro Q Q' s h hq hv;exact hq _ _ _ hv
 | ret=>intro Q Q' s h hq hv;exact hq _ _ _ hv
 | label l=>intro Q Q' s h hq hv;exact hq _ _ _ hv
 | goto l=>intro Q Q' s h hq hv;exact hq _ _ _ hv
 | scope c ih =>
  intro Q Q' s h hq hv
  refine ih ?_ hv
  intro e s h hx
  cases e with
  | normal=>exact hq _ _ _ hx
  | exit i=>exact hq _ _ _ hx
  | ret=>exact hq _ _ _ hx
  | goto l=>exact hx.elim
 | rangeFunc f ps x y _ _=>intro Q Q' s h hq hv;exact RangeK_mono hq hv
 | refuse why=>intro Q Q' s h hq hv;exact hv.elim
def LoopK (I:Nat→List AV→List Blk→Prop) (n:Nat) (Q:Post):Post:=fun e s' h'=>match e with
 | .normal=>∃ m,m<n∧I m s' h'
 | .exit i=>Q (.exit i) s' h'
 | .ret=>Q .ret s' h'
 | .goto l=>Q (.goto l) s' h'
def LoopGo (I:Nat→List AV→List Blk→Prop) (n:Nat) (s:List AV) (h:List Blk):Prop:=∃ m,m<n∧I m s h
theorem LoopK_normal (I:Nat→List AV→List Blk→Prop) (n:Nat):LoopK I n Q .normal s h=LoopGo I n s h:=Eq.trans rfl rfl
theorem loopGo {I:Nat→List AV→List Blk→Prop} {n:Nat} (m:Nat) (hm:m<n) (hi:I m s h):LoopGo I n s h:=⟨m,hm,hi⟩
theorem LoopK_exit (I:Nat→List AV→List Blk→Prop) (n i:Nat):LoopK I n Q (.exit i) s h=Q (.exit i) s h:=Eq.trans rfl rfl
theorem LoopK_ret (I:Nat→List AV→List Blk→Prop) (n:Nat):LoopK I n Q .ret s h=Q .ret s h:=Eq.trans rfl rfl
theorem LoopK_goto (I:Nat→List AV→List Blk→Prop) (n l:Nat):LoopK I n Q (.goto l) s h=Q (.goto l) s h:=Eq.trans rfl rfl
theorem loop_rule (I:Nat→List AV→List Blk→Prop) (n0:Nat) (h0:I n0 s h) (hstep:∀ n s h,I n s h→vc P T c (LoopK I n Q) s h):vc P T (.loop c) Q s h:=by
 have key:∀ n s h,I n s h→LoopN (fun Q' s h=>vc P T c Q' s h) Q (n+1) s h:=by
  intro n
  induction n using Nat.strongRecOn with
  | _ n ih =>
   intro s h hi
   refine vc_mono c ?_ (hstep n s h hi)
   intro e s' h' hx
   cases e with
   | normal =>
    obtain⟨m,hm,hi'⟩:=hx
    exact LoopN_mono (body:=fun Q' s h=>vc P T c Q' s h) (fun _ _ _ _ h=>vc_mono c h) (fun _ _ _ h=>h) (by omega:m+1≤n) (ih m hm s' h' hi')
   | exit i=>exact hx
   | ret=>exact hx
   | goto l=>exact hx
 exact⟨s,h,Ghost.refl s h,n0+1,key n0 s h h0⟩
def Vis (N:Nat) (vis:List (Nat × AV)) (s:List AV):Prop:=s.length=N∧∀ p∈vis,s[p.1]?=some p.2
def slot (vis:List (Nat × AV)) (j:Nat→AV) (t:Nat):AV :=
 match vis with
 | []=>j t
 | (u,v)::r=>match Nat.beq u t with
  | true=>v
  | false=>slot r j t
def tmpl:Nat→Nat→List (Nat × AV)→(Nat→AV)→List AV
 | 0,_,_,_=>[]
 | n+1,k,vis,j=>slot vis j k::tmpl n (k+1) vis j
theorem slot_eq {vis:List (Nat × AV)} {s:List AV} (hv:∀ p∈vis,s[p.1]?=some p.2) {t:Nat} (ht:t<s.length):slot vis (fun t=>s.getD t (.tup [])) t=s[t]:=by
 induction vis with
 | nil=>simp[slot,List.getD_eq_getElem?_getD,List.getElem?_eq_getElem ht]
 | cons p r ih =>
  obtain⟨u,v⟩:=p
  simp only[slot]
  split
  ·
   rename_i hb
   have hb:=Nat.eq_of_beq_eq_true hb
   subst hb
   have:=hv (u,v) (by simp)
   simp only[List.getElem?_eq_getElem ht,Option.some.injEq] at this
   exact this.symm
  ·
   exact ih fun p hp=>hv p (by simp[hp])
theorem tmpl_eq {vis:List (Nat × AV)} {s:List AV} (hv:∀ p∈vis,s[p.1]?=some p.2):∀(n k:Nat),n+k=s.length→tmpl n k vis (fun t=>s.getD t (.tup []))=s.drop k
 | 0,k,hk=>by simp[tmpl];omega
 | n+1,k,hk=>by
  simp only[tmpl]
  rw[tmpl_eq hv n (k+1) (by omega),slot_eq hv (by omega),← List.drop_eq_getElem_cons]
theorem Vis.out {N:Nat} {vis:List (Nat × AV)} {s:List AV} (hv:Vis N vis s):∃ j,s=tmpl N 0 vis j :=
 ⟨fun t=>s.getD t (.tup []),by rw[tmpl_eq hv.2 N 0 (by rw[hv.1];rfl),List.drop_zero]⟩
theorem Vis.nil {N:Nat} {s:List AV} (h:s.length=N):Vis N [] s:=⟨h,by simp⟩
theorem Vis.cons {N:Nat} {vis:List (Nat × AV)} {s:List AV} {t:Nat} {v:AV} (h:s[t]?=some v) (hv:Vis N vis s):Vis N ((t,v)::vis) s :=
 ⟨hv.1,by simpa using ⟨h,fun a b hab=>hv.2 (a,b) hab⟩⟩
end
theorem cells_agg (cs:List AV):AV.cells (.agg cs)=cs:=rfl
theorem cells_raw_agg (vs:Array Value):AV.cells (.raw (.agg vs))=vs.toList.map .raw:=rfl
theorem cells_int (k:IntKind) (n:Int):AV.cells (.raw (.int k n))=[.raw (.int k n)]:=rfl
theorem cells_bool (b:Bool):AV.cells (.raw (.bool b))=[.raw (.bool b)]:=rfl
theorem cells_string (b:ByteArray):AV.cells (.raw (.string b))=[.raw (.string b)]:=rfl
theorem cells_pointer (b:Option Addr):AV.cells (.raw (.pointer b))=[.raw (.pointer b)]:=rfl
theorem cells_slice (b:Option Addr) (m n:Nat):AV.cells (.raw (.slice b m n))=[.raw (.slice b m n)]:=rfl
theorem cells_rmap (b:Option Nat):AV.cells (.raw (.map b))=[.raw (.map b)]:=rfl
theorem cells_nilFunc:AV.cells (.raw .nilFunc)=[.raw .nilFunc]:=rfl
theorem cells_nilIface:AV.cells (.raw .nilIface)=[.raw .nilIface]:=rfl
theorem cells_lst (sz:Nat) (es:List AV) (k:Option Nat):AV.cells (.lst sz es k)=[.lst sz es k]:=rfl
theorem cells_eptr (cs:List AV):AV.cells (.eptr cs)=[.eptr cs]:=rfl
theorem cells_ptr (k off:Nat):AV.cells (.ptr k off)=[.ptr k off]:=rfl
theorem cells_sl (sz k off len:Nat):AV.cells (.sl sz k off len)=[.sl sz k off len]:=rfl
theorem cells_fn (f:Fn) (xs ys:List AV):AV.cells (.fn f xs ys)=[.fn f xs ys]:=rfl
theorem cells_map (k:Nat):AV.cells (.map k)=[.map k]:=rfl
theorem one_raw (v:Value):AV.one (.raw v)=v.oneCell':=rfl
theorem one_lst (sz:Nat) (es:List AV) (k:Option Nat):AV.one (.lst sz es k)=true:=rfl
theorem one_eptr (cs:List AV):AV.one (.eptr cs)=true:=rfl
theorem one_ptr (k off:Nat):AV.one (.ptr k off)=true:=rfl
theorem one_sl (sz k off len:Nat):AV.one (.sl sz k off len)=true:=rfl
theorem one_fn (f:Fn) (xs ys:List AV):AV.one (.fn f xs ys)=true:=rfl
theorem one_map (k:Nat):AV.one (.map k)=true:=rfl
theorem comps_tup (cs:List AV):AV.comps (.tup cs)=cs:=rfl
attribute [go_sem] vc_draw vqOps_nil vqOps_cons QOpsK_eq vqGuard_none vqGuard_some gqsK_some gqK_tt gqK_tf gqK_ft gqK_ff gqK_tup qrK_ok qrK_side qrK_fact qrK_elem heK_ok heK_side qcallK_fn MonoH_nil MonoH_cells MonoH_tok MonoH_cut MonoH_dead MonoH_mp MonoH_own vTree_nil vTree_one vTree_two vgAt_some MK2_eq vmTree_nil vmTree_pur vmTree_eff vmTree_two vqTree_nil vqTree_one vqTree_two vqAt_some List.getElem?_toArray qs_mapUpdate qs_call qs_move qs_assign qs_pick qs_load qs_fieldAddr qs_field qs_indexAddr qs_index qs_binOp qs_unOp qs_extract qs_build qs_makeFunc qs_slice qs_slice3 qs_convert qs_nilCheck qs_box qs_alloc qs_store qs_buildSlice qs_makeSlice qs_len qs_min qs_max qs_append
theorem MonoH.app:∀(r x:List Blk),MonoH r (r++x)
 | [],_=>trivial
 | b::r,x=>⟨by cases b<;>trivial,MonoH.app r x⟩
theorem MonoH_app (r x:List Blk):MonoH r (r++x)=True:=eq_true (MonoH.app r x)
theorem MonoH_app2:∀(r x y:List Blk),MonoH (r++x) (r++y)=MonoH x y
 | [],_,_=>rfl
 | b::r,x,y=>by
  show((match b with|.cells _ cs=>(match b with|.cells _ cs'=>cs=cs'|_=>False)|_=>True)∧MonoH (r++x) (r++y))=_
  rw[MonoH_app2 r x y]
  cases b<;>simp
theorem MonoH_refl (r:List Blk):MonoH r r=True:=eq_true (MonoH.refl r)
attribute [go_sem] cutH MonoH_app MonoH_app2 MonoH_refl
attribute [go_sem] u8sAV_map u8sAV_nil u8sAV_one
attribute [go_sem] vs_range vs_next nextV nextB vs_lookup vs_makeMap vs_mapUpdate vs_delete lookupAV storeAV deleteAV lenMapAV mapKK kkEq isKey AV.tupFree
attribute [go_sem] vc_rangeFunc rangeK_fn vc_skip vc_region vc_seq vc_cond vc_block vc_exit vc_ret vc_label vc_scope vc_goto SeqK_normal SeqK_exit SeqK_ret SeqK_goto BlockK_normal BlockK_ret BlockK_goto BlockK_same BlockK_other ScopeK_normal ScopeK_exit ScopeK_ret fin_normal fin_ret
 vcOps_nil vcOps_cons OpsK_eq CallK_eq vcGuard_none vcGuard_some gsK_some gK_tt gK_tf gK_ft gK_ff gK_tup brK_true brK_false condSet_tmp condSet_const prK_ok prK_side prK_fact prK_elem prK_bad hrK_ok hrK_side callK_fn callK_yield put_some put_none opd_tmp opd_const opd_func
 vs_move vs_assign vs_pick vs_load vs_fieldAddr vs_field vs_indexAddr vs_index vs_binOp vs_unOp vs_extract vs_build vs_makeFunc vs_slice vs_convert vs_nilCheck vs_box vs_alloc vs_store vs_buildSlice vs_makeSlice vs_call vs_len vs_min vs_max vs_append
 LoopK_normal LoopK_exit LoopK_ret LoopK_goto
 stepPure stepHeap loadAV takeN blkCells intAV shAV strAV boolAV binAV nilAV nilSl sliceAV sliceStr putAt fillAV appendAV appendStr isZ8 inOrder allOf isZero kEq resAV oneOrTup cells_agg cells_raw_agg cells_int cells_bool cells_string cells_pointer cells_slice cells_rmap cells_nilFunc cells_nilIface cells_lst cells_eptr cells_ptr cells_sl cells_fn cells_map one_raw one_lst one_eptr one_ptr one_sl one_fn one_map comps_tup TI.agg guardSlot slot tmpl
 List.getD_cons_zero List.getD_cons_succ List.set_cons_zero List.set_cons_succ List.getElem?_cons_zero List.getElem?_cons_succ List.drop_succ_cons List.drop_zero List.drop_nil List.map_cons List.map_nil List.length_cons List.length_nil List.replicate_succ List.replicate_zero
 List.all_cons List.all_nil List.cons_append List.nil_append List.append_nil Option.map_some Option.map_none decide_true decide_false Nat.le_refl Nat.zero_add Bool.and_true Bool.true_and Bool.and_self Bool.cond_true Bool.cond_false Value.oneCell'
end Go.Abs
