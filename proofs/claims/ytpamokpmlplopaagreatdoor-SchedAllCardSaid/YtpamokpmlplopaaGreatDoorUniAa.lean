/-
  AbsA: put together.
-/
import Derived.WalkKit
import Derived.Orders
import Derived.Carry
import Derived.Laws.StructEq
import Derived.MapKept
import Derived.Scope
import Derived.RangeFuncIn
import Derived.TacticsIn
import Derived.OrdersIn
import Derived.Laws.BytesString
import Derived.Laws.Shifts
import Derived.Lib.AppendStr
namespace Go.Abs
open Go.RowKit
def tabL:List (Nat × (Array Value→Prop)):=[]
inductive AV where
 | raw (v:Value)
 | agg (cs:List AV)
 | tup (cs:List AV)
 | lst (sz:Nat) (es:List AV) (tok:Option Nat)
 | eptr (cs:List AV)
 | ptr (k off:Nat)
 | sl (sz k off len:Nat)
 | fn (f:Fn) (first captured:List AV)
 | map (k:Nat)
 | own (sz k n:Nat)
 deriving Inhabited
def AV.cells:AV→List AV
 | .agg cs=>cs
 | .raw (.agg vs)=>vs.toList.map .raw
 | a=>[a]
def AV.comps:AV→List AV
 | .tup cs=>cs
 | .raw (.tuple vs)=>vs.toList.map .raw
 | _=>[]
def flat (es:List AV):List AV:=es.flatMap AV.cells
def AV.one:AV→Bool
 | .agg _|.tup _=>false
 | .raw v=>v.oneCell'
 | _=>true
inductive Loc where
 | no
 | obj (b:Nat)
 | tok (n:Nat) (u:Value)
def Loc.le:Loc→Loc→Prop
 | .no,_=>True
 | .obj b,l=>l=.obj b
 | .tok n u,l=>∃ n' u',l=.tok n' u'∧n≤n'∧(n'=n→u'=u)
theorem Loc.le_refl (l:Loc):l.le l:=by
 cases l with
 | no=>trivial
 | obj b=>rfl
 | tok n u=>exact⟨n,u,rfl,Nat.le_refl _,fun _=>rfl⟩
theorem Loc.le_trans {a b c:Loc} (h:a.le b) (k:b.le c):a.le c:=by
 cases a with
 | no=>trivial
 | obj x=>cases h;exact k
 | tok n u =>
  obtain⟨n',u',rfl,h1,h2⟩:=h
  obtain⟨n'',u'',rfl,k1,k2⟩:=k
  refine⟨n'',u'',rfl,Nat.le_trans h1 k1,fun e=>?_⟩
  have e1:n'=n:=by omega
  have e2:n''=n':=by omega
  rw[k2 e2,h2 e1]
def TokOK (φ:Nat→Loc) (tok:Option Nat) (len:Nat) (v:Value):Prop :=
 match tok with
 | none=>True
 | some k=>∃ n u,φ k=.tok n u∧len≤n∧(len=n→v=u)
theorem TokOK.le {φ φ':Nat→Loc} (hφ:∀ k,(φ k).le (φ' k)) {tok:Option Nat} {len:Nat} {v:Value} (h:TokOK φ tok len v):TokOK φ' tok len v:=by
 cases tok with
 | none=>trivial
 | some k =>
  obtain⟨n,u,hk,hl,hv⟩:=h
  have:=hφ k
  rw[hk] at this
  obtain⟨n',u',hk',h1,h2⟩:=this
  refine⟨n',u',hk',Nat.le_trans hl h1,fun e=>?_⟩
  have e1:n'=n:=by omega
  rw[h2 e1]
  exact hv (by omega)
inductive C (S:Addr→Prop) (w:World) (φ:Nat→Loc):AV→Value→Prop where
 | raw (v:Value):C S w φ (.raw v) v
 | agg (cs:List AV) (vs:Array Value) (hl:vs.size=cs.length) (h:∀(i:Nat) a v,cs[i]?=some a→vs[i]?=some v→C S w φ a v)
   (h1:∀ v∈vs.toList,v.oneCell'=true):C S w φ (.agg cs) (.agg vs)
 | tup (cs:List AV) (vs:Array Value) (hl:vs.size=cs.length) (h:∀(i:Nat) a v,cs[i]?=some a→vs[i]?=some v→C S w φ a v):C S w φ (.tup cs) (.tuple vs)
 | lst (sz:Nat) (es:List AV) (tok:Option Nat) (a:Addr) (len cap:Nat) (u:Nat→Value) (hlen:es.length=len) (hcap:len≤cap) (hmax:cap≤maxLen)
   (hsz:∀ e∈es,e.cells.length=sz) (hm:∀(j:Nat) c,(flat es)[j]?=some c→w.cell? (a.add j)=some (u j)∧S (a.add j))
   (hc:∀(j:Nat) c,(flat es)[j]?=some c→C S w φ c (u j)) (h1:∀(j:Nat) c,(flat es)[j]?=some c→(u j).oneCell'=true)
   (ht:TokOK φ tok len (.slice (some a) len cap)):C S w φ (.lst sz es tok) (.slice (some a) len cap)
 | lstnil (sz:Nat) (tok:Option Nat) (ht:TokOK φ tok 0 (.slice none 0 0)):C S w φ (.lst sz [] tok) (.slice none 0 0)
 | eptr (cs:List AV) (a:Addr) (u:Nat→Value) (hm:∀(j:Nat) c,cs[j]?=some c→w.cell? (a.add j)=some (u j)∧S (a.add j))
   (hc:∀(j:Nat) c,cs[j]?=some c→C S w φ c (u j)) (h1:∀(j:Nat) c,cs[j]?=some c→(u j).oneCell'=true):C S w φ (.eptr cs) (.pointer (some a))
 | ptr (k off b:Nat) (h:φ k=.obj b):C S w φ (.ptr k off) (.pointer (some ⟨b,off,none⟩))
 | sl (sz k off len b cap:Nat) (h:φ k=.obj b) (hcap:len≤cap) (hmax:cap≤maxLen):C S w φ (.sl sz k off len) (.slice (some ⟨b,off,none⟩) len cap)
 | fn (f:Fn) (xs ys:List AV) (vs us:Array Value) (hl:vs.size=xs.length) (hl':us.size=ys.length) (h:∀(i:Nat) a v,xs[i]?=some a→vs[i]?=some v→C S w φ a v)
   (h':∀(i:Nat) a v,ys[i]?=some a→us[i]?=some v→C S w φ a v):C S w φ (.fn f xs ys) (.func f vs us)
 | map (k b:Nat) (h:φ k=.obj b):C S w φ (.map k) (.map (some b))
 | own (sz k n:Nat) (a:Option Addr) (cap:Nat) (hcap:n≤cap) (hmax:cap≤maxLen) (ht:TokOK φ (some k) n (.slice a n cap)):C S w φ (.own sz k n) (.slice a n cap)
def CAll (S:Addr→Prop) (w:World) (φ:Nat→Loc) (azs:List AV) (vs:Array Value):Prop :=
 vs.size=azs.length∧∀(i:Nat) a v,azs[i]?=some a→vs[i]?=some v→C S w φ a v
section
variable {S S':Addr→Prop} {w w':World} {φ φ':Nat→Loc}
theorem C.mono (hS:∀ a,S a→S' a) (hw:∀ a,S a→w'.cell? a=w.cell? a) (hφ:∀ k,(φ k).le (φ' k)) {a:AV} {v:Value} (h:C S w φ a v):C S' w' φ' a v:=by
 induction h with
 | raw v=>exact .raw v
 | agg cs vs hl h h1 ih=>exact .agg cs vs hl ih h1
 | tup cs vs hl h ih=>exact .tup cs vs hl ih
 | lst sz es tok a len cap u hlen hcap hmax hsz hm hc h1 ht ih =>
  exact .lst sz es tok a len cap u hlen hcap hmax hsz (fun j c hj=>⟨(hw _ (hm j c hj).2).trans (hm j c hj).1,hS _ (hm j c hj).2⟩) ih h1 (ht.le hφ)
 | lstnil sz tok ht=>exact .lstnil sz tok (ht.le hφ)
 | eptr cs a u hm hc h1 ih=>exact .eptr cs a u (fun j c hj=>⟨(hw _ (hm j c hj).2).trans (hm j c hj).1,hS _ (hm j c hj).2⟩) ih h1
 | ptr k off b h=>exact .ptr k off b (by have:=hφ k;rw[h] at this;exact this)
 | sl sz k off len b cap h hcap hmax=>exact .sl sz k off len b cap (by have:=hφ k;rw[h] at this;exact this) hcap hmax
 | fn f xs ys vs us hl hl' h h' ih ih'=>exact .fn f xs ys vs us hl hl' ih ih'
 | map k b h=>exact .map k b (by have:=hφ k;rw[h] at this;exact this)
 | own sz k n a cap hcap hmax ht=>exact .own sz k n a cap hcap hmax (ht.le hφ)
theorem CAll.mono (hS:∀ a,S a→S' a) (hw:∀ a,S a→w'.cell? a=w.cell? a) (hφ:∀ k,(φ k).le (φ' k)) {a:List AV} {v:Array Value} (h:CAll S w φ a v):CAll S' w' φ' a v :=
 ⟨h.1,fun i a v ha hv=>(h.2 i a v ha hv).mono hS hw hφ⟩
theorem C.one {a:AV} {v:Value} (h:C S w φ a v) (h1:a.one=true):v.oneCell'=true:=by
 cases h<;>first|assumption|rfl|(simp[AV.one] at h1)
theorem CAll.at {azs:List AV} {vs:Array Value} (h:CAll S w φ azs vs) {i:Nat} {a:AV} (ha:azs[i]?=some a):∃ v,vs[i]?=some v∧C S w φ a v:=by
 have hi:i<vs.size:=by rw[h.1];exact(List.getElem?_eq_some_iff.1 ha).1
 exact⟨vs[i],Array.getElem?_eq_getElem hi,h.2 i a _ ha (Array.getElem?_eq_getElem hi)⟩
theorem CAll.set {azs:List AV} {vs:Array Value} (h:CAll S w φ azs vs) (d:Nat) {a:AV} {v:Value} (hc:C S w φ a v):CAll S w φ (azs.set d a) (vs.setIfInBounds d v):=by
 refine⟨by simp[h.1],fun i x y hx hy=>?_⟩
 rw[List.getElem?_set] at hx
 rw[Array.getElem?_setIfInBounds] at hy
 by_cases hd:d=i
 ·
  subst hd
  simp only[if_true] at hx hy
  split at hx<;>simp_all
 ·
  simp only[hd,if_false] at hx hy
  exact h.2 i x y hx hy
theorem CAll.nil:CAll S w φ [] #[]:=⟨rfl,fun i a v h=>by simp at h⟩
theorem CAll.cons {a:AV} {v:Value} {azs:List AV} {vs:List Value} (h:C S w φ a v) (hs:CAll S w φ azs vs.toArray):CAll S w φ (a::azs) (v::vs).toArray:=by
 refine⟨by simpa using hs.1,fun i x y hx hy=>?_⟩
 cases i with
 | zero=>simp at hx hy;subst hx;subst hy;exact h
 | succ i=>exact hs.2 i x y (by simpa using hx) (by simpa using hy)
theorem CAll.append {azs bs:List AV} {vs us:Array Value} (h:CAll S w φ azs vs) (k:CAll S w φ bs us):CAll S w φ (azs++bs) (vs++us):=by
 refine⟨by simp[h.1,k.1],fun i a v ha hv=>?_⟩
 rw[List.getElem?_append] at ha
 rw[Array.getElem?_append] at hv
 rw[h.1] at hv
 split at ha
 ·
  rename_i hi;rw[if_pos hi] at hv;exact h.2 i a v ha hv
 ·
  rename_i hi;rw[if_neg hi] at hv;exact k.2 _ a v ha hv
theorem CAll.map_raw (vs:List Value):CAll S w φ (vs.map .raw) vs.toArray:=by
 refine⟨by simp,fun i a v ha hv=>?_⟩
 simp only[List.getElem?_map,Option.map_eq_some_iff] at ha
 obtain⟨x,hx,rfl⟩:=ha
 simp only[List.getElem?_toArray] at hv
 rw[hx] at hv
 cases hv
 exact .raw _
theorem CAll.one {a:AV} {v:Value} (h:C S w φ a v):CAll S w φ [a] #[v]:=CAll.cons h CAll.nil
theorem C.cells {a:AV} {v:Value} (h:C S w φ a v) (ht:∀ cs,a≠.tup cs):CAll S w φ a.cells v.cells:=by
 cases h with
 | agg cs vs hl h h1=>exact⟨hl,h⟩
 | tup cs vs hl h=>exact absurd rfl (ht cs)
 | raw v =>
  cases v with
  | agg vs=>exact CAll.map_raw vs.toList
  | _=>exact CAll.one (.raw _)
 | _=>exact CAll.one (by constructor<;>assumption)
theorem C.comps {a:AV} {v:Value} (h:C S w φ a v) {i:Nat} {c:AV} (hc:a.comps[i]?=some c):∃ vs u,v=.tuple vs∧vs[i]?=some u∧C S w φ c u:=by
 cases h with
 | tup cs vs hl h =>
  obtain⟨u,hu,hcu⟩:=CAll.at (vs:=vs) ⟨hl,h⟩ hc
  exact⟨vs,u,rfl,hu,hcu⟩
 | raw v =>
  cases v with
  | tuple vs =>
   obtain⟨u,hu,hcu⟩:=CAll.at (S:=S) (w:=w) (φ:=φ) (CAll.map_raw vs.toList) hc
   exact⟨vs,u,rfl,by simpa using hu,hcu⟩
  | _=>simp[AV.comps] at hc
 | _=>simp[AV.comps] at hc
end
inductive KK where
 | str
 | int
def isKey:KK→Value→Bool
 | .str,.string _=>true
 | .int,.int .i64 _=>true
 | _,_=>false
def keyEq:Value→Value→Bool
 | .string a,.string b=>a.toList==b.toList
 | .int _ a,.int _ b=>a==b
 | _,_=>false
def mfind (key:Value):List MapEntry→Option Value
 | []=>none
 | e::es=>match keyEq key e.key with
  | true=>some e.val
  | false=>mfind key es
def once:List MapEntry→Prop
 | []=>True
 | e::es=>(∀ x∈es,keyEq x.key e.key=false)∧once es
def MapOK (S:Addr→Prop) (w:World) (φ:Nat→Loc) (kk:KK) (l:List MapEntry) (f:Value→Option AV):Prop :=
 (∀ e∈l,isKey kk e.key=true)∧once l∧∀ key,isKey kk key=true→match mfind key l,f key with
  | none,none=>True
  | some v,some a=>C S w φ a v
  | _,_=>False
inductive Blk where
 | cells (t:TypeId) (cs:List AV)
 | tok (e:TypeId) (sz n:Nat)
 | cut (e:TypeId) (sz n:Nat)
 | own (e:TypeId) (sz:Nat) (es:List AV)
 | mp (kk:KK) (n:Nat) (f:Value→Option AV)
 | lp (l:Nat) (st:LoopState) (pe:Option Code) (ps:Array Tmp) (x y:Code) (s:List AV)
 | it (s:ByteArray) (pos:Nat)
 | dead
def blockOf:Loc→Blk→Option Nat
 | .obj b,.cells _ _=>some b
 | .tok n (.slice (some a) _ cap),.tok _ _ _=>if cap=n then none else some a.block
 | .tok _ (.slice (some a) _ _),.own _ _ _=>some a.block
 | .obj b,.mp _ _ _=>some b
 | .obj b,.lp _ _ _ _ _ _ _=>some b
 | .obj b,.it _ _=>some b
 | _,_=>none
def Owns (φ:Nat→Loc) (h:List Blk) (b:Nat):Prop:=∃ k x,h[k]?=some x∧blockOf (φ k) x=some b
def RB (S:Addr→Prop) (w:World) (φ:Nat→Loc) (k:Nat):Blk→Prop
 | .cells t cs=>∃ b vs,φ k=.obj b∧w.heap[b]?=some (.cells vs t (0,0))∧CAll S w φ cs vs∧(∀ v∈vs.toList,v.oneCell'=true)∧∀ a,S a→a.block≠b
 | .tok e sz n=>∃ u,φ k=.tok n u∧((u=.slice none 0 0∧n=0)∨(∃ a,u=.slice (some a) n n) ∨
   ∃ b cap vs,n<cap∧cap≤maxLen∧u=.slice (some ⟨b,0,none⟩) n cap∧w.heap[b]?=some (.cells vs e (0,0))∧vs.size=cap * sz∧∀ a,S a→a.block=b→a.off<n * sz)
 | .cut _ _ n=>∃ u,φ k=.tok n u∧((u=.slice none 0 0∧n=0)∨(∃ a,u=.slice (some a) n n))
 | .own e sz es=>∃ u,φ k=.tok es.length u∧(∀ x∈es,x.cells.length=sz)∧((u=.slice none 0 0∧es=[]) ∨
   ∃ b cap vs,es.length≤cap∧cap≤maxLen∧u=.slice (some ⟨b,0,none⟩) es.length cap∧w.heap[b]?=some (.cells vs e (0,0))∧vs.size=cap * sz ∧
    (∀(j:Nat) c,(flat es)[j]?=some c→∃ x,vs[j]?=some x∧C S w φ c x∧x.oneCell'=true)∧(∀ a,S a→a.block≠b) ∧
    (sz=1∨∀(j:Nat) v,es.length * sz≤j→vs[j]?=some v→v.oneCell'=true))
 | .mp kk n f=>∃ b es clock,φ k=.obj b∧w.heap[b]?=some (.map es clock)∧es.size=n∧MapOK S w φ kk es.toList f∧∀ a,S a→a.block≠b
 | .lp l st pe ps x y s=>φ k=.obj l∧∃ fn tmps D,w.heap[l]?=some (.loop { state:=st,pending:=pe,fn:=fn,tmps:=tmps,params:=ps,assign:=x,body:=y,defers:=D })∧CAll S w φ s tmps∧∀ a,S a→a.block≠l
 | .it b p=>∃ l,φ k=.obj l∧w.heap[l]?=some (.stringIter b p)∧∀ a,S a→a.block≠l
 | .dead=>True
theorem MapOK.mono {S S':Addr→Prop} {w w':World} {φ φ':Nat→Loc} {kk:KK} {l:List MapEntry} {f:Value→Option AV} (hS:∀ a,S a→S' a) (hw:∀ a,S a→w'.cell? a=w.cell? a) (hφ:∀ k,(φ k).le (φ' k)) (h:MapOK S w φ kk l f):MapOK S' w' φ' kk l f:=by
 refine⟨h.1,h.2.1,fun key hk=>?_⟩
 have:=h.2.2 key hk
 revert this
 cases mfind key l<;>cases f key<;>intro hh
 ·
  trivial
 ·
  exact hh
 ·
  exact hh
 ·
  exact C.mono hS hw hφ hh
def TabF (φ:Nat→Loc) (h:List Blk) (w:World):Prop:=∀ x∈tabL,(∃ cs t l,w.heap[x.1]?=some (.cells cs t l)∧x.2 cs)∧¬ Owns φ h x.1
structure R (S:Addr→Prop) (φ:Nat→Loc) (h:List Blk) (w:World):Prop where
 blk:∀(k:Nat) x,h[k]?=some x→RB S w φ k x
 inj:∀(k k':Nat) x x' b,h[k]?=some x→h[k']?=some x'→blockOf (φ k) x=some b→blockOf (φ k') x'=some b→k=k'
 bnd:∀ a,S a→a.block<w.heap.size
 fresh:∀ k,h.length≤k→φ k=.no
 tab:TabF φ h w
structure Ext (S:Addr→Prop) (φ:Nat→Loc) (h:List Blk) (w:World) (S':Addr→Prop) (φ':Nat→Loc) (h':List Blk) (w':World):Prop where
 os:w'.os=w.os
 tape:w'.tape=w.tape
 output:w'.output=w.output
 size:w.heap.size≤w'.heap.size
 keep:∀ b,b<w.heap.size→¬ Owns φ h b→w'.heap[b]?=w.heap[b]?
 sub:∀ a,S a→S' a
 cell:∀ a,S a→w'.cell? a=w.cell? a
 loc:∀ k,(φ k).le (φ' k)
 new:∀ a,S' a→S a∨w.heap.size≤a.block∨Owns φ h a.block
 own:∀ b,Owns φ' h' b→Owns φ h b∨w.heap.size≤b
section
variable {S S₁ S₂:Addr→Prop} {φ φ₁ φ₂:Nat→Loc} {h h₁ h₂:List Blk} {w w₁ w₂:World}
theorem TabF.ext (t:TabF φ h w) (e:Ext S φ h w S₁ φ₁ h₁ w₁):TabF φ₁ h₁ w₁:=fun x hx=>by
 obtain⟨⟨cs,ty,l,h1,h3⟩,h2⟩:=t x hx
 have hb:x.1<w.heap.size:=(Array.getElem?_eq_some_iff.1 h1).1
 refine⟨⟨cs,ty,l,by rw[e.keep _ hb h2];exact h1,h3⟩,fun o=>?_⟩
 rcases e.own _ o with o|o
 ·
  exact h2 o
 ·
  omega
theorem Ext.refl (S:Addr→Prop) (φ:Nat→Loc) (h:List Blk) (w:World):Ext S φ h w S φ h w :=
 ⟨rfl,rfl,rfl,Nat.le_refl _,fun _ _ _=>rfl,fun _ h=>h,fun _ _=>rfl,fun _=>Loc.le_refl _,fun _ h=>.inl h,fun _ h=>.inl h⟩
theorem Ext.trans (x:Ext S φ h w S₁ φ₁ h₁ w₁) (y:Ext S₁ φ₁ h₁ w₁ S₂ φ₂ h₂ w₂):Ext S φ h w S₂ φ₂ h₂ w₂ where
 os:=y.os.trans x.os
 tape:=y.tape.trans x.tape
 output:=y.output.trans x.output
 size:=Nat.le_trans x.size y.size
 keep b hb ho:=(y.keep b (Nat.lt_of_lt_of_le hb x.size) (fun o=>by
  rcases x.own b o with o|o
  ·
   exact ho o
  ·
   omega)).trans (x.keep b hb ho)
 sub a ha:=y.sub a (x.sub a ha)
 cell a ha:=(y.cell a (x.sub a ha)).trans (x.cell a ha)
 loc k:=Loc.le_trans (x.loc k) (y.loc k)
 new a ha:=by
  rcases y.new a ha with h|h|h
  ·
   exact x.new a h
  ·
   exact .inr (.inl (Nat.le_trans x.size h))
  ·
   rcases x.own _ h with h|h
   ·
    exact .inr (.inr h)
   ·
    exact .inr (.inl h)
 own b hb:=by
  rcases y.own b hb with h|h
  ·
   exact x.own b h
  ·
   exact .inr (Nat.le_trans x.size h)
theorem Ext.C (x:Ext S φ h w S₁ φ₁ h₁ w₁) {a:AV} {v:Value} (k:C S w φ a v):C S₁ w₁ φ₁ a v:=k.mono x.sub x.cell x.loc
theorem Ext.CAll (x:Ext S φ h w S₁ φ₁ h₁ w₁) {a:List AV} {v:Array Value} (k:CAll S w φ a v):CAll S₁ w₁ φ₁ a v:=k.mono x.sub x.cell x.loc
theorem R.drew (r:R S φ h w):R S φ h w.drew :=
 ⟨fun k x hx=>by
  have:=r.blk k x hx
  cases x with
  | cells t cs =>
   obtain⟨b,vs,h1,h2,h3,h4⟩:=this
   exact⟨b,vs,h1,h2,h3.mono (w:=w) (w':=w.drew) (fun _ h=>h) (fun _ _=>rfl) (fun _=>Loc.le_refl _),h4⟩
  | tok e sz n=>exact this
  | cut e sz n=>exact this
  | own e sz es =>
   obtain⟨u,h1,h2,h3⟩:=this
   refine⟨u,h1,h2,?_⟩
   rcases h3 with h3|⟨b,cap,vs,g1,g2,g3,g4,g5,g6,g7⟩
   ·
    exact .inl h3
   ·
    exact .inr ⟨b,cap,vs,g1,g2,g3,g4,g5,fun j c hj=>by
     obtain⟨x,q1,q2,q3⟩:=g6 j c hj
     exact⟨x,q1,q2.mono (w:=w) (w':=w.drew) (fun _ h=>h) (fun _ _=>rfl) (fun _=>Loc.le_refl _),q3⟩,g7⟩
  | mp kk n f =>
   obtain⟨b,es,clock,h1,h2,h3,h4,h5⟩:=this
   exact⟨b,es,clock,h1,h2,h3,h4.mono (w:=w) (w':=w.drew) (fun _ h=>h) (fun _ _=>rfl) (fun _=>Loc.le_refl _),h5⟩
  | lp l st pe ps x y s =>
   obtain⟨h1,fn,tmps,D,h2,h3,h4⟩:=this
   exact⟨h1,fn,tmps,D,h2,h3.mono (w:=w) (w':=w.drew) (fun _ h=>h) (fun _ _=>rfl) (fun _=>Loc.le_refl _),h4⟩
  | it b p=>exact this
  | dead=>trivial,r.inj,r.bnd,r.fresh,fun x hx=>r.tab x hx⟩
theorem Ext.drew (S:Addr→Prop) (φ:Nat→Loc) (h:List Blk) (w:World):Ext S φ h w S φ h w.drew :=
 ⟨rfl,rfl,rfl,Nat.le_refl _,fun _ _ _=>rfl,fun _ h=>h,fun _ _=>rfl,fun _=>Loc.le_refl _,fun _ h=>.inl h,fun _ h=>.inl h⟩
end
end Go.Abs
namespace Go.Abs
open Go.RowKit
inductive TK where
 | bool|int (k:IntKind)|string|slice (e:TypeId)|struct (fs:List (Nat × TypeId))|array (n:Nat) (e:TypeId)|map (k e:TypeId)|flat|func|iface|other
structure TI where
 kind:TK
 size:Nat
 bytes:Nat
 zero:List Value
def TI.agg (x:TI):Bool :=
 match x.kind with
 | .struct _|.array _ _=>true
 | _=>false
def KindOK (P:Program) (t:TypeId):TK→Prop
 | .bool=>P.underlying t=some .bool
 | .int k=>P.underlying t=some (.int k)
 | .string=>P.underlying t=some .string
 | .slice e=>P.underlying t=some (.slice e)
 | .struct fs => ∃ F, P.underlying t = some (.struct F) ∧ F.toList.map (fun f => (f.offset, f.type)) = fs ∧ (∀ f ∈ F.toList, f.name ≠ "_") ∧
   (∀ f∈F.toList,∃ i,P.info? f.type=some i∧i.size≠0)∧P.stoodInHeld t=false∧P.eqGuardType P.depth t=false
 | .array n e=>P.underlying t=some (.array n e)∧P.eqGuardType P.depth t=false
 | .map k e=>P.underlying t=some (.map k e)
 | .flat=>∃ d,P.underlying t=some d∧(∀ fs,d≠.struct fs)∧(∀ n e,d≠.array n e)
 | .func=>∃ a b c,P.underlying t=some (.func a b c)
 | .iface=>∃ ms,P.underlying t=some (.interface ms)
 | .other=>True
def TIok (P:Program) (t:TypeId) (x:TI):Prop :=
 x.kind=.other∨∃ i z,P.info? t=some i∧i.size=x.size∧i.bytes=x.bytes∧i.zero=some z∧z.cells.toList=x.zero ∧
  (x.agg=false→x.zero=[z])∧(x.agg=true→z=.agg x.zero.toArray)∧(∀ v∈x.zero,v.oneCell'=true)∧x.zero.length=x.size∧KindOK P t x.kind
def flatEq:Value→Value→Bool
 | .bool a,.bool b=>a==b
 | .int k a,.int k' b=>decide (k=k')&&decide (a=b)
 | .string a,.string b=>decide (a.data.toList=b.data.toList)
 | .pointer none,.pointer none=>true
 | .slice none 0 0,.slice none 0 0=>true
 | .map none,.map none=>true
 | .nilFunc,.nilFunc=>true
 | .nilIface,.nilIface=>true
 | _,_=>false
theorem flatEq_eq {a b:Value} (h:flatEq a b=true):a=b∧a.oneCell'=true:=by
 unfold flatEq at h
 split at h<;>simp_all [Value.oneCell']
 rename_i x y
 obtain⟨⟨x⟩⟩:=x
 obtain⟨⟨y⟩⟩:=y
 simp_all
def flatEqs:List Value→List Value→Bool
 | [],[]=>true
 | a::azs,b::bs=>flatEq a b&&flatEqs azs bs
 | _,_=>false
theorem flatEqs_eq:∀ {a b:List Value},flatEqs a b=true→a=b∧∀ v∈a,v.oneCell'=true
 | [],[],_=>⟨rfl,by simp⟩
 | a::azs,b::bs,h=>by
  simp only[flatEqs,Bool.and_eq_true] at h
  obtain⟨rfl,h1⟩:=flatEq_eq h.1
  obtain⟨rfl,h2⟩:=flatEqs_eq h.2
  exact⟨rfl,by simpa using ⟨h1,h2⟩⟩
 | [],_::_,h=>by simp[flatEqs] at h
 | _::_,[],h=>by simp[flatEqs] at h
def fieldsEq:List Field→List (Nat × TypeId)→Bool
 | [],[]=>true
 | f::fs,x::xs=>decide (f.offset=x.1)&&decide (f.type=x.2)&&fieldsEq fs xs
 | _,_=>false
theorem fieldsEq_eq:∀ {F:List Field} {xs:List (Nat × TypeId)},fieldsEq F xs=true→F.map (fun f=>(f.offset,f.type))=xs
 | [],[],_=>rfl
 | f::fs,x::xs,h=>by
  simp only[fieldsEq,Bool.and_eq_true,decide_eq_true_eq] at h
  simp[fieldsEq_eq h.2,h.1.1,h.1.2]
 | [],_::_,h=>by simp[fieldsEq] at h
 | _::_,[],h=>by simp[fieldsEq] at h
def kindCheck (P:Program) (t:TypeId) (k:TK):Bool :=
 match k,P.underlying t with
 | .bool,some .bool=>true
 | .int k,some (.int k')=>decide (k=k')
 | .string,some .string=>true
 | .slice e,some (.slice e')=>decide (e=e')
 | .struct fs, some (.struct F) => fieldsEq F.toList fs && F.toList.all (fun f => decide (f.name ≠ "_")) && F.toList.all (fun f => match P.info? f.type with | some i => decide (i.size ≠ 0) | none => false) &&
   (!P.stoodInHeld t)&&(!P.eqGuardType P.depth t)
 | .array n e,some (.array n' e')=>decide (n=n')&&decide (e=e')&&(!P.eqGuardType P.depth t)
 | .map k e,some (.map k' e')=>decide (k=k')&&decide (e=e')
 | .flat,some d=>match d with|.struct _|.array _ _=>false|_=>true
 | .func,some (.func _ _ _)=>true
 | .iface,some (.interface _)=>true
 | .other,_=>true
 | _,_=>false
def aggZero:Value→Bool
 | .agg _=>true
 | _=>false
def tiCheck (P:Program) (t:TypeId) (x:TI):Bool :=
 match x.kind with
 | .other=>true
 | _=>match P.info? t with
  | none=>false
  | some i=>decide (i.size=x.size)&&decide (i.bytes=x.bytes)&&decide (x.zero.length=x.size)&&kindCheck P t x.kind &&
   (match i.zero with
    | none=>false
    | some z=>flatEqs z.cells.toList x.zero&&(aggZero z==x.agg))
theorem kindOK_of_check {P:Program} {t:TypeId} {k:TK} (h:kindCheck P t k=true):KindOK P t k:=by
 unfold kindCheck at h
 split at h
 case h_5 fs F hu =>
  simp only[Bool.and_eq_true,List.all_eq_true,decide_eq_true_eq,Bool.not_eq_true'] at h
  obtain⟨⟨⟨⟨h1,h2⟩,h3⟩,h4⟩,h5⟩:=h
  refine⟨F,hu,fieldsEq_eq h1,h2,fun f hf=>?_,h4,h5⟩
  have:=h3 f hf
  cases hi:P.info? f.type with
  | none=>simp[hi] at this
  | some i=>exact⟨i,rfl,by simpa[hi] using this⟩
 case h_8 d hu =>
  refine⟨d,hu,fun fs e=>?_,fun n e e'=>?_⟩
  ·
   subst e;simp at h
  ·
   subst e';simp at h
 all_goals simp_all [KindOK]
theorem tiOK_of_check {P:Program} {t:TypeId} {x:TI} (h:tiCheck P t x=true):TIok P t x:=by
 unfold tiCheck at h
 split at h
 ·
  rename_i hk;exact .inl hk
 ·
  split at h
  ·
   cases h
  ·
   rename_i i hi
   simp only[Bool.and_eq_true,decide_eq_true_eq] at h
   obtain⟨⟨⟨⟨h1,h2⟩,h3⟩,h4⟩,h5⟩:=h
   split at h5
   ·
    cases h5
   ·
    rename_i z hz
    simp only[Bool.and_eq_true,beq_iff_eq] at h5
    obtain⟨e,h6⟩:=flatEqs_eq h5.1
    refine .inr ⟨i,z,hi,h1,h2,hz,e,fun ha=>?_,fun ha=>?_,by rw[← e];exact h6,h3,kindOK_of_check h4⟩
    ·
     rw[ha] at h5
     cases z with
     | agg cs=>simp[aggZero] at h5
     | _=>rw[← e];simp[Value.cells]
    ·
     rw[ha] at h5
     cases z with
     | agg cs=>rw[← e];simp[Value.cells]
     | _=>simp[aggZero] at h5
def TabOK (P:Program) (T:TypeId→TI):Prop:=∀ t,TIok P t (T t)
theorem TIok.known {P:Program} {t:TypeId} {x:TI} (h:TIok P t x) (hk:x.kind≠.other):∃ i z,P.info? t=some i∧i.size=x.size∧i.bytes=x.bytes∧i.zero=some z∧z.cells.toList=x.zero ∧
  (x.agg=false→x.zero=[z])∧(x.agg=true→z=.agg x.zero.toArray)∧(∀ v∈x.zero,v.oneCell'=true)∧x.zero.length=x.size∧KindOK P t x.kind:=h.resolve_left hk
theorem run_isAgg {P:Program} {t:TypeId} {x:TI} (h:TIok P t x) (hk:x.kind≠.other) (w:World):(isAgg t).run P w=.ok x.agg w:=by
 obtain⟨i,z,hi,_,_,_,_,_,_,_,_,hK⟩:=h.known hk
 unfold isAgg
 cases hx:x.kind with
 | struct fs=>rw[hx] at hK;obtain⟨F,hu,_⟩:=hK;simp[run_underlying hu,TI.agg,hx]
 | array n e=>rw[hx] at hK;obtain⟨hu,_⟩:=hK;simp[run_underlying hu,TI.agg,hx]
 | func=>rw[hx] at hK;obtain⟨_,_,_,hu⟩:=hK;simp[run_underlying hu,TI.agg,hx]
 | iface=>rw[hx] at hK;obtain⟨_,hu⟩:=hK;simp[run_underlying hu,TI.agg,hx]
 | other=>exact absurd hx hk
 | flat =>
  rw[hx] at hK;obtain⟨d,hu,h1,h2⟩:=hK
  simp only[run_underlying hu,TI.agg,hx,Sem.run_bind,Result.andThen_ok]
  cases d<;>first|rfl|exact absurd rfl (h1 _)|exact absurd rfl (h2 _ _)
 | _=>rw[hx] at hK;simp only[KindOK] at hK;simp[run_underlying hK,TI.agg,hx]
theorem run_size {P:Program} {t:TypeId} {x:TI} (h:TIok P t x) (hk:x.kind≠.other) (w:World):(sizeOf t).run P w=.ok x.size w:=by
 obtain⟨i,z,hi,hs,_⟩:=h.known hk
 simp[sizeOf,typeInfo,hi,hs]
def opd (s:List AV):Operand→AV
 | .tmp t=>s.getD t (.tup [])
 | .const v=>.raw v
 | .global g=>.raw (.pointer (some ⟨g,0,none⟩))
 | .func f=>.fn (.func f) [] []
section
variable {S:Addr→Prop} {w:World} {φ:Nat→Loc} {s:List AV} {a:Act}
theorem C.undef_:C S w φ (.tup []) undef:=.tup [] #[] rfl (fun i a v h=>by simp at h)
theorem C.opd (h:CAll S w φ s a.tmps) (x:Operand):C S w φ (opd s x) (a.eval x):=by
 cases x with
 | tmp t =>
  show C S w φ (s.getD t (.tup [])) (a.tmps.getD t Go.undef)
  rw[List.getD_eq_getElem?_getD]
  cases hs:s[t]? with
  | none =>
   have ht:a.tmps[t]?=none:=by
    rw[Array.getElem?_eq_none_iff,h.1]
    exact List.getElem?_eq_none_iff.1 hs
   simp only[Option.getD_none]
   rw[Array.getD_eq_getD_getElem?,ht]
   exact C.undef_
  | some x =>
   obtain⟨v,hv,hc⟩:=h.at hs
   simp only[Option.getD_some]
   rw[Array.getD_eq_getD_getElem?,hv]
   exact hc
 | const v=>exact .raw v
 | global g=>exact .raw _
 | func f=>exact .fn (.func f) [] [] #[] #[] rfl rfl (fun i a v h=>by simp at h) (fun i a v h=>by simp at h)
end
end Go.Abs
namespace Go.Abs
open Go.RowKit
inductive PR where
 | ok (v:AV)
 | side (p:Prop) (v:AV)
 | fact (p:Prop) (v:AV)
 | elem (i:Int) (es:List AV) (f:AV→AV)
 | bad
def takeN:Nat→List AV→Option (List AV)
 | 0,_=>some []
 | n+1,c::cs=>match takeN n cs with|some l=>some (c::l)|none=>none
 | _+1,[]=>none
theorem takeN_eq:∀ {n:Nat} {cs l:List AV},takeN n cs=some l→l.length=n∧∀ i,i<n→l[i]?=cs[i]?
 | 0,_,_,h=>by cases h;exact⟨rfl,fun i hi=>by omega⟩
 | n+1,c::cs,l,h=>by
  simp only[takeN] at h
  split at h
  ·
   rename_i l' hl
   cases h
   obtain⟨h1,h2⟩:=takeN_eq hl
   refine⟨by simp[h1],fun i hi=>?_⟩
   cases i with
   | zero=>rfl
   | succ i=>simpa using h2 i (by omega)
  ·
   cases h
 | _+1,[],_,h=>by simp[takeN] at h
def loadAV (x:TI) (cs:List AV):PR :=
 match x.agg with
 | true=>match takeN x.size cs with|some l=>.ok (.agg l)|none=>.bad
 | false=>match cs with|c::_=>.ok c|[]=>.bad
def blkCells (h:List Blk) (k:Nat):Option (List AV) :=
 match h[k]? with
 | some (.cells _ cs)=>some cs
 | _=>none
def kEq:IntKind→IntKind→Bool
 | .i8,.i8|.i16,.i16|.i32,.i32|.i64,.i64|.u8,.u8|.u16,.u16|.u32,.u32|.u64,.u64=>true
 | _,_=>false
theorem kEq_eq {a b:IntKind} (h:kEq a b=true):a=b:=by cases a<;>cases b<;>simp_all [kEq]
def intAV (op:BinOp) (k:IntKind) (a b:Int):PR :=
 match op with
 | .add=>.ok (.raw (.int k (k.wrap (a+b))))
 | .sub=>.ok (.raw (.int k (k.wrap (a-b))))
 | .mul=>.ok (.raw (.int k (k.wrap (a * b))))
 | .quo=>.side (b≠0) (.raw (.int k (k.wrap (a.tdiv b))))
 | .rem=>.side (b≠0) (.raw (.int k (a.tmod b)))
 | .eql=>.ok (.raw (.bool (a==b)))
 | .neq=>.ok (.raw (.bool (a != b)))
 | .lss=>.ok (.raw (.bool (decide (a<b))))
 | .leq=>.ok (.raw (.bool (decide (a≤b))))
 | .gtr=>.ok (.raw (.bool (decide (a>b))))
 | .geq=>.ok (.raw (.bool (decide (a≥b))))
 | .and=>.ok (.raw (.int k (bits .and k a b)))
 | .or=>.ok (.raw (.int k (bits .or k a b)))
 | _=>.bad
def shAV (op:BinOp) (k:IntKind) (a b:Int):PR :=
 match op with
 | .shl=>.side (0≤b) (.raw (.int k (k.wrap (a * 2 ^ min b.toNat k.bits))))
 | .shr=>.side (0≤b) (.raw (.int k (a / 2 ^ min b.toNat k.bits)))
 | _=>.bad
def strAV (op:BinOp) (a b:ByteArray):PR :=
 match op with
 | .add=>.side (a.size+b.size≤9223372036854775807) (.raw (.string (a++b)))
 | .eql=>.ok (.raw (.bool (a.toList==b.toList)))
 | .neq=>.ok (.raw (.bool !(a.toList==b.toList)))
 | _=>.bad
def boolAV (op:BinOp) (a b:Bool):PR :=
 match op with
 | .eql=>.ok (.raw (.bool (a==b)))
 | .neq=>.ok (.raw (.bool !(a==b)))
 | _=>.bad
def binAV (x:TI) (op:BinOp):AV→AV→PR
 | .raw (.int k a),.raw (.int k' b)=>match kEq k k' with|true=>intAV op k a b|false=>shAV op k a b
 | .raw (.string a),.raw (.string b)=>strAV op a b
 | .raw (.bool a),.raw (.bool b)=>match x.kind with|.bool=>boolAV op a b|_=>.bad
 | .fn _ _ _,.raw .nilFunc=>match x.kind with|.func=>(match op with|.eql=>.ok (.raw (.bool false))|.neq=>.ok (.raw (.bool true))|_=>.bad)|_=>.bad
 | _,_=>.bad
def sliceAV (low high:Option AV) (sz:Nat) (es:List AV):PR :=
 match low,high with
 | none,none=>.ok (.lst sz es none)
 | some (.raw (.int _ l)),none=>.side (0≤l∧l≤es.length) (.lst sz (es.drop l.toNat) none)
 | none,some (.raw (.int _ h))=>.side (0≤h∧h≤es.length) (.lst sz (es.take h.toNat) none)
 | some (.raw (.int _ l)),some (.raw (.int _ h))=>.side (0≤l∧l≤h∧h≤es.length) (.lst sz ((es.take h.toNat).drop l.toNat) none)
 | _,_=>.bad
def sliceStr (low high:Option AV) (b:ByteArray):PR :=
 match low,high with
 | none,none=>.ok (.raw (.string b))
 | some (.raw (.int _ l)),none=>.side (0≤l∧l≤b.size) (.raw (.string (b.extract l.toNat b.size)))
 | none,some (.raw (.int _ h))=>.side (0≤h∧h≤b.size) (.raw (.string (b.extract 0 h.toNat)))
 | some (.raw (.int _ l)),some (.raw (.int _ h))=>.side (0≤l∧l≤h∧h≤b.size) (.raw (.string (b.extract l.toNat h.toNat)))
 | _,_=>.bad
def putAt (cells:List AV) (off:Nat):List AV→List AV
 | []=>cells
 | c::cs=>putAt (cells.set off c) (off+1) cs
def fillAV (place:Nat→Option (Nat × Nat)) (cells:List AV):List (Nat × AV)→Option (List AV)
 | []=>some cells
 | (i,v)::rest =>
  match place i with
  | none=>none
  | some (off,size) =>
   match decide (v.cells.length=size),decide (off+size≤cells.length),v.cells.all AV.one with
   | true,true,true=>fillAV place (putAt cells off v.cells) rest
   | _,_,_=>none
def AV.tupFree:AV→Bool
 | .tup _=>false
 | .raw (.tuple _)=>false
 | _=>true
def eqFs (E:TypeId→AV→AV→Option Bool) (T:TypeId→TI) (cs ds:List AV):List (Nat × TypeId)→Option Bool
 | []=>some true
 | f::fs=>match (T f.2).kind with
  | .other=>none
  | _=>match loadAV (T f.2) (cs.drop f.1),loadAV (T f.2) (ds.drop f.1) with
   | .ok x,.ok y=>match E f.2 x y,eqFs E T cs ds fs with
    | some p,some q=>some (p&&q)
    | _,_=>none
   | _,_=>none
def eqV (T:TypeId→TI):Nat→TypeId→AV→AV→Option Bool
 | 0,_,_,_=>none
 | d+1,t,a,b=>match (T t).kind,a,b with
  | .int _,.raw (.int k x),.raw (.int k' y)=>match kEq k k' with|true=>some (x==y)|false=>none
  | .string,.raw (.string x),.raw (.string y)=>some (x.toList==y.toList)
  | .bool,.raw (.bool x),.raw (.bool y)=>some (x==y)
  | .struct fs,.agg cs,.agg ds=>eqFs (eqV T d) T cs ds fs
  | _,_,_=>none
def isAggAV:AV→Bool
 | .agg _=>true
 | .raw (.agg vs)=>vs.toList.all fun v=>v.oneCell'
 | _=>false
def structAV (T:TypeId→TI) (t:TypeId) (op:BinOp) (a b:AV):PR :=
 match isAggAV a,isAggAV b,eqV T 6 t (.agg a.cells) (.agg b.cells) with
 | true,true,some p=>match op with
  | .eql=>.ok (.raw (.bool p))
  | .neq=>.ok (.raw (.bool !p))
  | _=>.bad
 | _,_,_=>.bad
def nilAV (op:BinOp):AV→PR
 | .raw .nilIface=>match op with
  | .eql=>.ok (.raw (.bool true))
  | .neq=>.ok (.raw (.bool false))
  | _=>.bad
 | .raw (.iface _ _)=>match op with
  | .eql=>.ok (.raw (.bool false))
  | .neq=>.ok (.raw (.bool true))
  | _=>.bad
 | _=>.bad
def nilSl (op:BinOp):AV→PR
 | .raw (.slice none _ _)=>match op with
  | .eql=>.ok (.raw (.bool true))
  | .neq=>.ok (.raw (.bool false))
  | _=>.bad
 | .raw (.slice (some _) _ _)=>match op with
  | .eql=>.ok (.raw (.bool false))
  | .neq=>.ok (.raw (.bool true))
  | _=>.bad
 | .lst _ (_::_) _=>match op with
  | .eql=>.ok (.raw (.bool false))
  | .neq=>.ok (.raw (.bool true))
  | _=>.bad
 | _=>.bad
def u8sAV:List AV→Option (List UInt8)
 | []=>some []
 | .raw (.int .u8 n)::r=>match u8sAV r with
  | some b=>some (UInt8.ofNat n.toNat::b)
  | none=>none
 | _=>none
theorem u8sAV_ints:∀ {es:List AV} {b:List UInt8},u8sAV es=some b→∃ ns:List Int,es=ns.map (fun n=>.raw (.int .u8 n))∧b=ns.map fun n=>UInt8.ofNat n.toNat
 | [],b,h=>⟨[],rfl,by simpa[u8sAV,eq_comm] using h⟩
 | x::r,b,h=>by
  unfold u8sAV at h
  split at h
  ·
   cases ‹_::_=[]›
  ·
   rename_i n r' e
   cases e
   split at h
   ·
    rename_i b' hb
    obtain⟨ns,e1,e2⟩:=u8sAV_ints hb
    refine⟨n::ns,by rw[e1];rfl,?_⟩
    rw[← Option.some.inj h,e2]
    rfl
   ·
    cases h
  ·
   cases h
theorem u8sAV_map (ns:List Int):u8sAV (ns.map fun n=>.raw (.int .u8 n))=some (ns.map fun n=>UInt8.ofNat n.toNat):=by
 induction ns with
 | nil=>rfl
 | cons n ns ih=>rw[List.map_cons,u8sAV,ih];rfl
theorem u8sAV_nil:u8sAV []=some []:=rfl
theorem u8sAV_one (n:Int):u8sAV [.raw (.int .u8 n)]=some [UInt8.ofNat n.toNat]:=rfl
theorem flat_u8s (ns:List Int):flat (ns.map fun n=>AV.raw (.int .u8 n))=ns.map fun n=>AV.raw (.int .u8 n):=by
 induction ns with
 | nil=>rfl
 | cons n ns ih =>
  rw[List.map_cons]
  unfold flat at ih ⊢
  rw[List.flatMap_cons,ih]
  rfl
theorem foldl_bytes (ns:List Int) (s:ByteArray):ns.foldl (fun r n=>r.push (UInt8.ofNat n.toNat)) s=⟨s.data++(ns.map fun n=>UInt8.ofNat n.toNat).toArray⟩:=by
 induction ns generalizing s with
 | nil=>simp
 | cons n ns ih =>
  rw[List.foldl_cons,ih]
  simp[ByteArray.push]
def stepPure (T:TypeId→TI) (s:List AV) (h:List Blk):Op→PR
 | .move x|.assign x=>.ok (opd s x)
 | .pick c a b=>match opd s c with
  | .raw (.bool t)=>match opd s a,opd s b with
   | .raw (.bool x),.raw (.bool y)=>.ok (.raw (.bool (bif t then x else y)))
   | x,y=>match t with
    | true=>.ok x
    | false=>.ok y
  | _=>.bad
 | .load t a=>match (T t).kind with
  | .other=>.bad
  | _=>match opd s a with
   | .eptr cs=>loadAV (T t) cs
   | .ptr k off=>match blkCells h k with|some cs=>loadAV (T t) (cs.drop off)|none=>.bad
   | _=>.bad
 | .fieldAddr t x f=>match (T t).kind with
  | .struct fs=>match fs[f]? with
   | some (off,_)=>match opd s x with
    | .eptr cs=>.ok (.eptr (cs.drop off))
    | .ptr k o=>.ok (.ptr k (o+off))
    | _=>.bad
   | none=>.bad
  | _=>.bad
 | .field t x f=>match (T t).kind with
  | .struct fs=>match fs[f]? with
   | some (off,ft)=>match (T ft).kind with
    | .other=>.bad
    | _=>match opd s x with
     | .agg cs=>loadAV (T ft) (cs.drop off)
     | _=>.bad
   | none=>.bad
  | _=>.bad
 | .indexAddr t x i=>match (T t).kind with
  | .slice e=>match (T e).kind with
   | .other=>.bad
   | _=>match opd s x,opd s i with
    | .lst sz es _,.raw (.int _ n)=>match decide ((T e).size=sz) with|true=>.elem n es (fun v=>.eptr v.cells)|false=>.bad
    | .sl sz k off len,.raw (.int _ n)=>match decide ((T e).size=sz) with|true=>.side (0≤n∧n<len) (.ptr k (off+n.toNat * sz))|false=>.bad
    | _,_=>.bad
  | .array n e=>match (T e).kind with
   | .other=>.bad
   | _=>match opd s x,opd s i with
    | .eptr cs,.raw (.int _ j)=>.side (0≤j∧j<n) (.eptr (cs.drop (j.toNat * (T e).size)))
    | .ptr k off,.raw (.int _ j)=>.side (0≤j∧j<n) (.ptr k (off+j.toNat * (T e).size))
    | _,_=>.bad
  | _=>.bad
 | .index t x i=>match (T t).kind,opd s x,opd s i with
  | .string,.raw (.string b),.raw (.int _ n)=>.side (0≤n∧n<b.size) (.raw (.int .u8 (b.data.toList.getD n.toNat 0).toNat))
  | _,_,_=>.bad
 | .binOp op t x y _=>match (T t).kind with
  | .struct _=>structAV T t op (opd s x) (opd s y)
  | .iface=>match y with
   | .const .nilIface=>nilAV op (opd s x)
   | _=>.bad
  | .slice _=>match y with
   | .const (.slice none 0 0)=>nilSl op (opd s x)
   | _=>.bad
  | _=>binAV (T t) op (opd s x) (opd s y)
 | .unOp op _ x=>match op,opd s x with
  | .not,.raw (.bool b)=>.ok (.raw (.bool (!b)))
  | .neg,.raw (.int k n)=>.ok (.raw (.int k (k.wrap (0-n))))
  | _,_=>.bad
 | .extract x i=>match (opd s x).comps[i]? with
  | some c=>.ok c
  | none=>.bad
 | .build t parts=>match (T t).kind with
  | .struct fs=>match fillAV (fun i=>match fs[i]? with|some (off,ft)=>(match (T ft).kind with|.other=>none|_=>some (off,(T ft).size))|none=>none) ((T t).zero.map .raw) (parts.toList.map fun p=>(p.1,opd s p.2)) with
   | some cs=>.ok (.agg cs)
   | none=>.bad
  | .array _ e=>match (T e).kind with
   | .other=>.bad
   | _=>match fillAV (fun i=>some (i * (T e).size,(T e).size)) ((T t).zero.map .raw) (parts.toList.map fun p=>(p.1,opd s p.2)) with
    | some cs=>.ok (.agg cs)
    | none=>.bad
  | _=>.bad
 | .makeFunc fn first captured=>.ok (.fn fn (first.toList.map (opd s)) (captured.toList.map (opd s)))
 | .slice t x lo hi none=>match (T t).kind with
  | .slice e=>match (T e).kind with
   | .other=>.bad
   | _=>match opd s x with
    | .lst sz es _=>match decide ((T e).size=sz) with|true=>sliceAV (lo.map (opd s)) (hi.map (opd s)) sz es|false=>.bad
    | .sl sz k off len=>match decide ((T e).size=sz),lo,hi.map (opd s) with|true,none,some (.raw (.int _ n))=>.side (0≤n∧n≤len) (.sl sz k off n.toNat)|_,_,_=>.bad
    | _=>.bad
  | .string=>match opd s x with
   | .raw (.string b)=>sliceStr (lo.map (opd s)) (hi.map (opd s)) b
   | _=>.bad
  | _=>.bad
 | .convert t u x=>match (T t).kind,(T u).kind,opd s x with
  | .int _,.int k,.raw (.int _ n)=>.ok (.raw (.int k (k.wrap n)))
  | .string,.string,.raw (.string b)=>.ok (.raw (.string b))
  | .slice e,.string,.lst _ es _=>match (T e).kind,u8sAV es with
   | .int .u8,some b=>.ok (.raw (.string ⟨b.toArray⟩))
   | _,_=>.bad
  | .slice e,.string,.raw (.slice none 0 0)=>match (T e).kind with
   | .int .u8=>.ok (.raw (.string ⟨#[]⟩))
   | _=>.bad
  | _,_,_=>.bad
 | .nilCheck x=>match opd s x with
  | .ptr k o=>.ok (.ptr k o)
  | .eptr cs=>.ok (.eptr cs)
  | _=>.bad
 | .call { callee:=.builtin .len,args,argTypes }=>match args.toList,argTypes.toList with
  | [x],[t]=>match (T t).kind,opd s x with
   | .slice _,.lst _ es _=>.fact (es.length≤maxLen) (.raw (.int .i64 es.length))
   | .slice _,.sl _ _ _ n=>.fact (n≤maxLen) (.raw (.int .i64 n))
   | .slice _,.own _ _ n=>.fact (n≤maxLen) (.raw (.int .i64 n))
   | .slice _,.raw (.slice none 0 0)=>.ok (.raw (.int .i64 0))
   | .string,.raw (.string b)=>.ok (.raw (.int .i64 b.size))
   | _,_=>.bad
  | _,_=>.bad
 | .call { callee:=.builtin .min,args,.. }=>match args.toList.map (opd s) with
  | [.raw (.int k a),.raw (.int _ b)]=>.ok (.raw (.int k (if b<a then b else a)))
  | _=>.bad
 | .call { callee:=.builtin .max,args,.. }=>match args.toList.map (opd s) with
  | [.raw (.int k a),.raw (.int _ b)]=>.ok (.raw (.int k (if b>a then b else a)))
  | _=>.bad
 | _=>.bad
def PR.sound (S:Addr→Prop) (w:World) (φ:Nat→Loc) (run:Result Next):PR→Prop
 | .ok v=>∃ u,run=.ok (.value u) w∧C S w φ v u
 | .side p v=>p→∃ u,run=.ok (.value u) w∧C S w φ v u
 | .fact p v=>p∧∃ u,run=.ok (.value u) w∧C S w φ v u
 | .elem i es f=>∀ x,0≤i→es[i.toNat]?=some x→∃ u,run=.ok (.value u) w∧C S w φ (f x) u
 | .bad=>True
end Go.Abs
namespace Go.Abs
open Go.RowKit
theorem add_add (a:Addr) (i j:Nat):(a.add i).add j=a.add (i+j):=by
 unfold Addr.add
 by_cases hi:i=0<;>by_cases hj:j=0<;>simp[hi,hj,Nat.add_assoc]
theorem exists_vals {α β:Type} {Q:Nat→α→β→Prop}:∀(l:List α),(∀(j:Nat) c,l[j]?=some c→∃ u,Q j c u)→∃ us:List β,us.length=l.length∧∀(j:Nat) c u,l[j]?=some c→us[j]?=some u→Q j c u:=by
 intro l
 induction l generalizing Q with
 | nil=>intro _;exact⟨[],rfl,fun j c u h=>by simp at h⟩
 | cons x l ih =>
  intro h
  obtain⟨u0,h0⟩:=h 0 x rfl
  obtain⟨us,hl,hu⟩:=ih (Q:=fun j=>Q (j+1)) (fun j c hj=>h (j+1) c (by simpa using hj))
  refine⟨u0::us,by simp[hl],fun j c u hc hu'=>?_⟩
  cases j with
  | zero=>simp at hc hu';subst hc;subst hu';exact h0
  | succ j=>exact hu j c u (by simpa using hc) (by simpa using hu')
section
variable {P:Program} {T:TypeId→TI} {S:Addr→Prop} {w:World} {φ:Nat→Loc} {s:List AV} {h:List Blk} {a:Act}
def asNext (r:Result Value):Result Next:=r.andThen fun v w=>.ok (.value v) w
theorem PR.sound_ok {run:Result Next} {v:AV} {u:Value} (hr:run=.ok (.value u) w) (hc:C S w φ v u):(PR.ok v).sound S w φ run:=⟨u,hr,hc⟩
def LiesAt (S:Addr→Prop) (w:World) (φ:Nat→Loc) (cs:List AV) (ad:Addr):Prop:=∀(j:Nat) c,cs[j]?=some c→∃ u,w.cell? (ad.add j)=some u∧C S w φ c u∧u.oneCell'=true
theorem LiesAt.drop {cs:List AV} {ad:Addr} (hl:LiesAt S w φ cs ad) (n:Nat):LiesAt S w φ (cs.drop n) (ad.add n):=by
 intro j c hj
 rw[List.getElem?_drop] at hj
 rw[add_add]
 exact hl _ _ hj
theorem loadAV_sound {t:TypeId} (hT:TIok P t (T t)) (hk:(T t).kind≠.other) {cs:List AV} {ad:Addr} (hl:LiesAt S w φ cs ad) :
  (loadAV (T t) cs).sound S w φ (asNext ((Instr.loadAt t (.pointer (some ad))).run P w)):=by
 unfold loadAV
 simp only[Instr.loadAt,Instr.sureAddr,loadVar,Sem.run_bind,Sem.run_pure,Result.andThen_ok,run_isAgg hT hk]
 cases hag:(T t).agg with
 | true =>
  simp only[if_true,Sem.run_bind,run_size hT hk,Result.andThen_ok]
  split
  ·
   rename_i l hl'
   obtain⟨h1,h2⟩:=takeN_eq hl'
   obtain⟨us,hul,hu⟩:=exists_vals (Q:=fun j c u=>w.cell? (ad.add j)=some u∧C S w φ c u∧u.oneCell'=true) l (fun j c hj=>hl j c (by
    rw[← h2 j (by rw[← h1];exact(List.getElem?_eq_some_iff.1 hj).1)];exact hj))
   have hall:∀(j:Nat) u,us[j]?=some u→∃ c,l[j]?=some c:=fun j u hj=>by
    have:j<l.length:=by rw[← hul];exact(List.getElem?_eq_some_iff.1 hj).1
    exact⟨_,List.getElem?_eq_getElem this⟩
   have hrun:=run_loadCells_list (P:=P) w ad us (fun j v hj=>by
    obtain⟨c,hc⟩:=hall j v hj
    exact(hu j c v hc hj).1)
   rw[hul,h1] at hrun
   refine PR.sound_ok (u:=.agg us.toArray) (by simp[hrun,asNext,Result.andThen]) (.agg l us.toArray (by simp[hul]) (fun i c v hc hv=>(hu i c v hc (by simpa using hv)).2.1) (fun v hv=>?_))
   obtain⟨i,hi,hiv⟩:=List.getElem_of_mem hv
   have hiv':us[i]?=some v:=by rw[← hiv];simp
   obtain⟨c,hc⟩:=hall i v hiv'
   exact(hu i c v hc hiv').2.2
  ·
   trivial
 | false =>
  simp only[Bool.false_eq_true,if_false]
  cases cs with
  | nil=>trivial
  | cons c cs =>
   obtain⟨u,hu,hc,_⟩:=hl 0 c rfl
   have h0:ad.add 0=ad:=by simp[Addr.add]
   rw[h0] at hu
   exact PR.sound_ok (u:=u) (by simp[load,Sem.run,hu,asNext,Result.andThen]) hc
theorem LiesAt.of_eptr {cs:List AV} {v:Value} (hc:C S w φ (.eptr cs) v):∃ ad,v=.pointer (some ad)∧LiesAt S w φ cs ad:=by
 cases hc with
 | eptr _ ad u hm hc h1=>exact⟨ad,rfl,fun j c hj=>⟨u j,(hm j c hj).1,hc j c hj,h1 j c hj⟩⟩
theorem LiesAt.of_ptr (hr:R S φ h w) {k off:Nat} {v:Value} (hc:C S w φ (.ptr k off) v) {cs:List AV} (hb:blkCells h k=some cs) :
  ∃ b,v=.pointer (some ⟨b,off,none⟩)∧LiesAt S w φ (cs.drop off) ⟨b,off,none⟩:=by
 cases hc with
 | ptr _ _ b hφ =>
  refine⟨b,rfl,?_⟩
  unfold blkCells at hb
  split at hb
  ·
   rename_i t cs' hk
   cases hb
   obtain⟨b',vs,h1,h2,h3,h4,_⟩:=hr.blk k _ hk
   rw[hφ] at h1
   cases h1
   intro j c hj
   rw[List.getElem?_drop] at hj
   obtain⟨u,hu,hcu⟩:=h3.at hj
   refine⟨u,?_,hcu,h4 u (by rw[← Array.mem_def];exact Array.mem_of_getElem? hu)⟩
   have:(⟨b,off,none⟩:Addr).add j=⟨b,off+j,none⟩:=by
    unfold Addr.add;split<;>simp_all
   rw[this]
   simp[World.cell?,h2,hu]
  ·
   cases hb
theorem LiesAt.eptr {cs:List AV} {ad:Addr} (hm:∀(j:Nat) c,cs[j]?=some c→S (ad.add j)) (hl:LiesAt S w φ cs ad):C S w φ (.eptr cs) (.pointer (some ad)):=by
 obtain⟨us,hul,hu⟩:=exists_vals cs hl
 have key:∀(j:Nat) c,cs[j]?=some c→w.cell? (ad.add j)=some (us.getD j undef)∧C S w φ c (us.getD j undef)∧(us.getD j undef).oneCell'=true:=by
  intro j c hj
  have hj':j<us.length:=by rw[hul];exact(List.getElem?_eq_some_iff.1 hj).1
  have e:us[j]?=some (us.getD j undef):=by rw[List.getD_eq_getElem?_getD,List.getElem?_eq_getElem hj'];rfl
  exact hu j c _ hj e
 exact .eptr cs ad (fun j=>us.getD j undef) (fun j c hj=>⟨(key j c hj).1,hm j c hj⟩) (fun j c hj=>(key j c hj).2.1) (fun j c hj=>(key j c hj).2.2)
theorem C.eptr_drop {cs:List AV} {ad:Addr} (hc:C S w φ (.eptr cs) (.pointer (some ad))) (n:Nat):C S w φ (.eptr (cs.drop n)) (.pointer (some (ad.add n))):=by
 cases hc with
 | eptr _ _ u hm hc h1 =>
  refine .eptr _ _ (fun j=>u (n+j)) (fun j c hj=>?_) (fun j c hj=>?_) (fun j c hj=>?_)<;>rw[List.getElem?_drop] at hj
  ·
   rw[add_add];exact hm _ _ hj
  ·
   exact hc _ _ hj
  ·
   exact h1 _ _ hj
theorem flat_at {es:List AV} {sz:Nat} (hsz:∀ e∈es,e.cells.length=sz) {i:Nat} {x:AV} (hx:es[i]?=some x) {j:Nat} {c:AV} (hc:x.cells[j]?=some c):(flat es)[i * sz+j]?=some c:=by
 induction es generalizing i with
 | nil=>simp at hx
 | cons e es ih =>
  have he:=hsz e (by simp)
  have hes:∀ e∈es,e.cells.length=sz:=fun e h=>hsz e (by simp[h])
  simp only[flat,List.flatMap_cons]
  cases i with
  | zero =>
   simp at hx;subst hx
   rw[Nat.zero_mul,Nat.zero_add,List.getElem?_append_left (by exact(List.getElem?_eq_some_iff.1 hc).1)]
   exact hc
  | succ i =>
   rw[List.getElem?_append_right (by rw[he,Nat.succ_mul];omega),he]
   have:(i+1) * sz+j-sz=i * sz+j:=by rw[Nat.succ_mul];omega
   rw[this]
   exact ih hes (by simpa using hx)
theorem flat_length {es:List AV} {sz:Nat} (hsz:∀ e∈es,e.cells.length=sz):(flat es).length=es.length * sz:=by
 induction es with
 | nil=>simp[flat]
 | cons e es ih =>
  have:=ih (fun e h=>hsz e (by simp[h]))
  simp only[flat,List.flatMap_cons,List.length_append,List.length_cons] at this ⊢
  rw[this,hsz e (by simp),Nat.succ_mul]
  omega
theorem flat_drop {es:List AV} {sz:Nat} (hsz:∀ e∈es,e.cells.length=sz) (n:Nat):flat (es.drop n)=(flat es).drop (n * sz):=by
 induction n generalizing es with
 | zero=>simp
 | succ n ih =>
  cases es with
  | nil=>simp[flat]
  | cons e es =>
   have h1:=ih (es:=es) (fun e h=>hsz e (by simp[h]))
   simp only[List.drop_succ_cons,h1]
   simp only[flat,List.flatMap_cons]
   have he:=hsz e (by simp)
   rw[Nat.succ_mul,Nat.add_comm (n * sz) sz,← List.drop_drop]
   congr 1
   rw[← he,List.drop_left]
theorem flat_take {es:List AV} (n:Nat) (j:Nat) (c:AV) (hj:(flat (es.take n))[j]?=some c):(flat es)[j]?=some c:=by
 have e:flat es=flat (es.take n)++flat (es.drop n):=by
  simp only[flat,← List.flatMap_append,List.take_append_drop]
 have hlt:j<(flat (es.take n)).length:=(List.getElem?_eq_some_iff.1 hj).1
 rw[e,List.getElem?_append_left hlt]
 exact hj
theorem C.elem {sz:Nat} {es:List AV} {tok:Option Nat} {ad:Addr} {len cap:Nat} (hc:C S w φ (.lst sz es tok) (.slice (some ad) len cap)) {i:Nat} {x:AV} (hx:es[i]?=some x):C S w φ (.eptr x.cells) (.pointer (some (ad.add (i * sz)))):=by
 cases hc with
 | lst _ _ _ _ _ _ u hlen hcap hmax hsz hm hc h1 ht =>
  refine .eptr _ _ (fun j=>u (i * sz+j)) (fun j c hj=>?_) (fun j c hj=>?_) (fun j c hj=>?_)
  ·
   rw[add_add];exact hm _ _ (flat_at hsz hx hj)
  ·
   exact hc _ _ (flat_at hsz hx hj)
  ·
   exact h1 _ _ (flat_at hsz hx hj)
theorem C.slice_form {sz:Nat} {es:List AV} {tok:Option Nat} {v:Value} (hc:C S w φ (.lst sz es tok) v):∃ ad len cap,v=.slice ad len cap∧es.length=len∧len≤cap∧cap≤maxLen∧(ad=none→es=[]):=by
 cases hc with
 | lst _ _ _ ad len cap u hlen hcap hmax=>exact⟨some ad,len,cap,rfl,hlen,hcap,hmax,fun e=>by cases e⟩
 | lstnil sz tok ht=>exact⟨none,0,0,rfl,rfl,Nat.le_refl _,by simp[maxLen],fun _=>rfl⟩
theorem C.sub {sz:Nat} {es:List AV} {tok:Option Nat} {ad:Addr} {len cap:Nat} (hc:C S w φ (.lst sz es tok) (.slice (some ad) len cap)) (l h c':Nat) (hl:l≤h) (hh:h≤len) (hcc:h-l≤c') (hm':c'≤maxLen)
  (ad':Addr) (had:h-l=0∨ad'=ad.add (l * sz)):C S w φ (.lst sz ((es.take h).drop l) none) (.slice (some ad') (h-l) c'):=by
 cases hc with
 | lst _ _ _ _ _ _ u hlen hcap hmax hsz hm hc h1 ht =>
  have hsz':∀ e∈(es.take h).drop l,e.cells.length=sz:=fun e he=>hsz e (List.mem_of_mem_take (List.mem_of_mem_drop he))
  have key:∀(j:Nat) c,(flat ((es.take h).drop l))[j]?=some c→(flat es)[l * sz+j]?=some c:=by
   intro j c hj
   rw[flat_drop (fun e he=>hsz e (List.mem_of_mem_take he)),List.getElem?_drop] at hj
   exact flat_take h _ _ hj
  rcases had with h0|rfl
  ·
   have hn:(es.take h).drop l=[]:=by
    apply List.eq_nil_of_length_eq_zero
    rw[List.length_drop,List.length_take];omega
   rw[hn]
   refine .lst _ _ _ _ _ _ (fun _=>undef) (by simp;omega) hcc hm' (by simp) ?_ ?_ ?_ trivial<;>intro j c hj<;>simp[flat] at hj
  ·
   refine .lst _ _ _ _ _ _ (fun j=>u (l * sz+j)) (by rw[List.length_drop,List.length_take];omega) hcc hm' hsz' (fun j c hj=>?_) (fun j c hj=>?_) (fun j c hj=>?_) trivial
   ·
    rw[add_add];exact hm _ _ (key j c hj)
   ·
    exact hc _ _ (key j c hj)
   ·
    exact h1 _ _ (key j c hj)
theorem elem_of {t e:TypeId} (ht:P.underlying t=some (.slice e)):P.elem t=e:=by simp[Program.elem,ht]
theorem sliceAV_sound {t e:TypeId} (ht:P.underlying t=some (.slice e)) {sz:Nat} (hs:∀ w',(sizeOf e).run P w'=.ok sz w') {es:List AV} {tok:Option Nat} {v:Value} (hc:C S w φ (.lst sz es tok) v)
  {lo hi:Option AV} {lo' hi':Option Value} (hlo:lo=none∧lo'=none∨∃ x y,lo=some x∧lo'=some y∧C S w φ x y) (hhi:hi=none∧hi'=none∨∃ x y,hi=some x∧hi'=some y∧C S w φ x y) :
  (sliceAV lo hi sz es).sound S w φ (asNext ((Instr.sliceAt t v lo' hi' none).run P w)):=by
 obtain⟨ad,len,cap,rfl,hlen,hcap,hmax,hnil⟩:=hc.slice_form
 have ht':P.underlying t=some (.slice (P.elem t)):=by rw[elem_of ht];exact ht
 have hs':∀ w',(sizeOf (P.elem t)).run P w'=.ok sz w':=by rw[elem_of ht];exact hs
 have fin:∀ l h:Nat,l≤h→h≤len→C S w φ (.lst sz ((es.take h).drop l) none) (sliced ad l h cap sz):=by
  intro l h h1 h2
  unfold sliced
  cases ad with
  | none =>
   have:es=[]:=hnil rfl
   subst this
   simp only[List.length_nil] at hlen
   have hl0:l=0:=by omega
   have hh0:h=0:=by omega
   subst hl0;subst hh0
   cases hc
   simpa using C.lstnil (S:=S) (w:=w) (φ:=φ) sz none trivial
  | some ad =>
   split
   ·
    rename_i e
    exact hc.sub l h (cap-l) h1 h2 (by omega) (by omega) ad (.inl (by omega))
   ·
    exact hc.sub l h (cap-l) h1 h2 (by omega) (by omega) _ (.inr rfl)
 rw[run_sliceAt_slice _ _ _ _ _ _ ht']
 rcases hlo with ⟨rfl,rfl⟩|⟨x,x',rfl,rfl,hx⟩<;>rcases hhi with ⟨rfl,rfl⟩|⟨y,y',rfl,rfl,hy⟩
 ·
  have:=fin 0 len (Nat.zero_le _) (Nat.le_refl _)
  simp only[← hlen,List.take_length,List.drop_zero] at this
  exact PR.sound_ok (by rw[run_slice_all _ _ _ _ _ ht',hs',← hlen];rfl) this
 ·
  cases y with
  | raw y =>
   cases hy
   cases y'<;>first|trivial|skip
   rename_i k n
   intro hp
   have:=fin 0 n.toNat (Nat.zero_le _) (by omega)
   rw[run_slice_h _ _ _ _ _ ht' k n hp.1 (by omega),hs']
   exact⟨_,rfl,by simpa using this⟩
  | _=>trivial
 ·
  cases x with
  | raw x =>
   cases hx
   cases x'<;>first|trivial|skip
   rename_i k n
   intro hp
   have:=fin n.toNat len (by omega) (Nat.le_refl _)
   rw[run_slice_l _ _ _ _ _ ht' k n hp.1 (by omega),hs']
   rw[← hlen,List.take_length] at this
   rw[← hlen]
   exact⟨_,rfl,this⟩
  | _=>trivial
 ·
  cases x with
  | raw x =>
   cases hx
   cases y with
   | raw y =>
    cases hy
    cases x'<;>first|trivial|skip
    rename_i k n
    cases y'<;>first|trivial|skip
    rename_i k' n'
    intro hp
    have:=fin n.toNat n'.toNat (by omega) (by omega)
    rw[run_slice_lh _ _ _ _ _ ht' k k' n n' hp.1 hp.2.1 (by omega),hs']
    exact⟨_,rfl,this⟩
   | _=>cases x'<;>trivial
  | _=>trivial
theorem sliceStr_sound {t:TypeId} (ht:P.underlying t=some .string) {b:ByteArray}
  {lo hi:Option AV} {lo' hi':Option Value} (hlo:lo=none∧lo'=none∨∃ x y,lo=some x∧lo'=some y∧C S w φ x y) (hhi:hi=none∧hi'=none∨∃ x y,hi=some x∧hi'=some y∧C S w φ x y) :
  (sliceStr lo hi b).sound S w φ (asNext ((Instr.sliceAt t (.string b) lo' hi' none).run P w)):=by
 rw[run_sliceAt_string _ _ _ _ _ _ ht]
 rcases hlo with ⟨rfl,rfl⟩|⟨x,x',rfl,rfl,hx⟩<;>rcases hhi with ⟨rfl,rfl⟩|⟨y,y',rfl,rfl,hy⟩
 ·
  have e:b.extract 0 b.size=b:=by simp
  exact PR.sound_ok (by rw[run_slice_string_all _ _ _ ht,e];rfl) (.raw _)
 ·
  cases y with
  | raw y =>
   cases hy
   cases y'<;>first|trivial|skip
   rename_i k n
   intro hp
   exact⟨_,by rw[run_slice_string_h w t b ht k n hp.1 hp.2];rfl,.raw _⟩
  | _=>trivial
 ·
  cases x with
  | raw x =>
   cases hx
   cases x'<;>first|trivial|skip
   rename_i k n
   intro hp
   exact⟨_,by rw[run_slice_string_l w t b ht k n hp.1 hp.2];rfl,.raw _⟩
  | _=>trivial
 ·
  cases x with
  | raw x =>
   cases hx
   cases y with
   | raw y =>
    cases hy
    cases x'<;>first|trivial|skip
    rename_i k n
    cases y'<;>first|trivial|skip
    rename_i k' n'
    intro hp
    exact⟨_,by rw[run_slice_string w t b k k' n n' ht hp.1 hp.2.1 hp.2.2];rfl,.raw _⟩
   | _=>cases x'<;>trivial
  | _=>trivial
theorem run_equalIn_fn {P:Program} (w:World) (d:Nat) (t:TypeId) (f:Fn) (vs us:Array Value) {a:Array TypeId} {b:Array TypeId} {c:Bool} (h:P.underlying t=some (.func a b c)):(Op.equalIn (d+1) t (.func f vs us) .nilFunc).run P w=.ok false w:=by
 simp[Op.equalIn,run_underlying h]
theorem run_equal_fn {P:Program} (w:World) (t:TypeId) (f:Fn) (vs us:Array Value) {a:Array TypeId} {b:Array TypeId} {c:Bool} (h:P.underlying t=some (.func a b c)):(Op.equal t (.func f vs us) .nilFunc).run P w=.ok false w:=run_equalIn_fn w 9999 t f vs us h
theorem run_eql_func {P:Program} (w:World) (t:TypeId) (f:Fn) (vs us:Array Value) {a:Array TypeId} {b:Array TypeId} {c:Bool} (h:P.underlying t=some (.func a b c)):(binOp .eql t (.func f vs us) .nilFunc).run P w=.ok (.bool false) w:=by
 simp only[binOp]
 simp[run_equal_fn w t f vs us h]
theorem run_neq_func {P:Program} (w:World) (t:TypeId) (f:Fn) (vs us:Array Value) {a:Array TypeId} {b:Array TypeId} {c:Bool} (h:P.underlying t=some (.func a b c)):(binOp .neq t (.func f vs us) .nilFunc).run P w=.ok (.bool true) w:=by
 simp only[binOp]
 simp[run_equal_fn w t f vs us h]
theorem run_equal_nil {P:Program} (w:World) (t:TypeId) {ms:Array (String × TypeId)} (h:P.underlying t=some (.interface ms)):(Op.equal t .nilIface .nilIface).run P w=.ok true w:=by
 have:∀ d,(Op.equalIn (d+1) t .nilIface .nilIface).run P w=.ok true w:=fun d=>by simp[Op.equalIn,run_underlying h]
 exact this 9999
theorem run_equal_iface {P:Program} (w:World) (t:TypeId) {ms:Array (String × TypeId)} (h:P.underlying t=some (.interface ms)) (d:TypeId) (v:Value):(Op.equal t (.iface d v) .nilIface).run P w=.ok false w:=by
 have:∀ k,(Op.equalIn (k+1) t (.iface d v) .nilIface).run P w=.ok false w:=fun k=>by simp[Op.equalIn,run_underlying h]
 exact this 9999
theorem nilAV_sound {P:Program} {S:Addr→Prop} {w:World} {φ:Nat→Loc} {t:TypeId} {ms:Array (String × TypeId)} (hK:P.underlying t=some (.interface ms)) (op:BinOp) (x:Operand) {q:AV} {u:Value} (hu:C S w φ q u) :
  (nilAV op q).sound S w φ (asNext (Sem.run P (do eqGuard op t x (.const .nilIface) u .nilIface;binOp op t u .nilIface) w)):=by
 unfold nilAV
 split
 ·
  cases hu
  cases op<;>first|trivial|skip
  ·
   exact PR.sound_ok (by simp[eqGuard_nil_constR,binOp,run_equal_nil w t hK,asNext,Result.andThen]) (.raw _)
  ·
   exact PR.sound_ok (by simp[eqGuard_nil_constR,binOp,run_equal_nil w t hK,asNext,Result.andThen]) (.raw _)
 ·
  cases hu
  cases op<;>first|trivial|skip
  ·
   exact PR.sound_ok (by simp[eqGuard,binOp,run_equal_iface w t hK,asNext,Result.andThen]) (.raw _)
  ·
   exact PR.sound_ok (by simp[eqGuard,binOp,run_equal_iface w t hK,asNext,Result.andThen]) (.raw _)
 ·
  trivial
theorem run_equal_nilS {P:Program} (w:World) (t e:TypeId) (a:Option Addr) (n c:Nat) (h:P.underlying t=some (.slice e)):(Op.equal t (.slice a n c) (.slice none 0 0)).run P w=.ok a.isNone w:=by
 have:∀ k,(Op.equalIn (k+1) t (.slice a n c) (.slice none 0 0)).run P w=.ok a.isNone w:=fun k=>by cases a<;>simp[Op.equalIn,run_underlying h]
 exact this 9999
theorem nilSl_sound {P:Program} {S:Addr→Prop} {w:World} {φ:Nat→Loc} {t e:TypeId} (hK:P.underlying t=some (.slice e)) (op:BinOp) (x:Operand) {q:AV} {u:Value} (hu:C S w φ q u) :
  (nilSl op q).sound S w φ (asNext (Sem.run P (do eqGuard op t x (.const (.slice none 0 0)) u (.slice none 0 0);binOp op t u (.slice none 0 0)) w)):=by
 have key:∀(a:Option Addr) (n c:Nat),(Sem.run P (do eqGuard .eql t x (.const (.slice none 0 0)) (.slice a n c) (.slice none 0 0);binOp .eql t (.slice a n c) (.slice none 0 0)) w)=.ok (.bool a.isNone) w∧(Sem.run P (do eqGuard .neq t x (.const (.slice none 0 0)) (.slice a n c) (.slice none 0 0);binOp .neq t (.slice a n c) (.slice none 0 0)) w)=.ok (.bool (!a.isNone)) w:=fun a n c=>by
  constructor<;>simp[eqGuard,binOp,run_equal_nilS w t e a n c hK]
 unfold nilSl
 split
 ·
  cases hu
  cases op<;>first|trivial|skip
  ·
   exact PR.sound_ok (by rw[(key _ _ _).1];rfl) (.raw _)
  ·
   exact PR.sound_ok (by rw[(key _ _ _).2];rfl) (.raw _)
 ·
  cases hu
  cases op<;>first|trivial|skip
  ·
   exact PR.sound_ok (by rw[(key _ _ _).1];rfl) (.raw _)
  ·
   exact PR.sound_ok (by rw[(key _ _ _).2];rfl) (.raw _)
 ·
  cases hu
  cases op<;>first|trivial|skip
  ·
   exact PR.sound_ok (by rw[(key _ _ _).1];rfl) (.raw _)
  ·
   exact PR.sound_ok (by rw[(key _ _ _).2];rfl) (.raw _)
 ·
  trivial
theorem binAV_sound {t:TypeId} (hT:TIok P t (T t)) (op:BinOp) (x y:Operand) {p q:AV} {u v:Value} (hu:C S w φ p u) (hv:C S w φ q v) :
  (binAV (T t) op p q).sound S w φ (asNext (Sem.run P (do eqGuard op t x y u v;binOp op t u v) w)):=by
 unfold binAV
 split
 ·
  rename_i k a k' b
  cases hu;cases hv
  split
  ·
   rename_i hk
   have hk:=kEq_eq hk
   subst hk
   cases op<;>first|trivial|(refine PR.sound_ok ?_ (.raw _);simp[eqGuard,binOp,Op.intArith,Op.intCmp,asNext,Result.andThen];done)|(refine PR.sound_ok ?_ (.raw _);simp[eqGuard,binOp,asNext,Result.andThen];rfl)|exact fun hp=>⟨_,by simp[eqGuard,binOp,Op.intDiv,hp,asNext,Result.andThen],.raw _⟩
  ·
   cases op<;>first|trivial|(intro hp;refine⟨_,?_,.raw _⟩;simp[eqGuard,binOp,shift_shl_any k k' a b hp,asNext,Result.andThen];done)|(intro hp;refine⟨_,?_,.raw _⟩;simp[eqGuard,binOp,shift_shr_any k k' a b hp,asNext,Result.andThen];done)
 ·
  rename_i a b
  cases hu;cases hv
  cases op<;>first|trivial|skip
  ·
   intro hp
   exact⟨_,by simp[eqGuard,binOp,run_string_add_sum w a b hp,asNext,Result.andThen],.raw _⟩
  ·
   exact PR.sound_ok (by simp[eqGuard,binOp,Op.stringOp,asNext,Result.andThen]) (.raw _)
  ·
   exact PR.sound_ok (by simp[eqGuard,binOp,Op.stringOp,asNext,Result.andThen]) (.raw _)
 ·
  rename_i a b
  cases hu;cases hv
  split
  ·
   rename_i hk
   obtain⟨i,z,_,_,_,_,_,_,_,_,_,hK⟩:=hT.known (by rw[hk];simp)
   rw[hk] at hK
   cases op<;>first|trivial|skip
   ·
    exact PR.sound_ok (by simp[eqGuard,run_eql_bool w t a b hK,asNext,Result.andThen]) (.raw _)
   ·
    exact PR.sound_ok (by simp[eqGuard,run_neq_bool w t a b hK,asNext,Result.andThen]) (.raw _)
  ·
   trivial
 ·
  rename_i f xs ys
  cases hv
  split
  ·
   rename_i hk
   obtain⟨i,z,_,_,_,_,_,_,_,_,_,hK⟩:=hT.known (by rw[hk];simp)
   rw[hk] at hK
   obtain⟨a,b,c,hK⟩:=hK
   cases hu with
   | fn _ _ _ vs us _ _ _ _ =>
   cases op<;>first|trivial|skip
   ·
    exact PR.sound_ok (by simp[eqGuard,run_eql_func w t f vs us hK,asNext,Result.andThen]) (.raw _)
   ·
    exact PR.sound_ok (by simp[eqGuard,run_neq_func w t f vs us hK,asNext,Result.andThen]) (.raw _)
  ·
   trivial
 ·
  trivial
end
end Go.Abs
namespace Go.Abs
open Go.RowKit
section
variable {P:Program} {T:TypeId→TI} {S:Addr→Prop} {w:World} {φ:Nat→Loc} {s:List AV} {h:List Blk} {a:Act}
theorem asNext_bind (m:Sem Value):(do pure (Next.value (← m)):Sem Next).run P w=asNext (m.run P w):=by
 simp only[Sem.run_bind,asNext]
 rfl
theorem lookupD {α:Type} {l:List α} {i:Nat} {x:α} (h:l[i]?=some x):i<l.length:=(List.getElem?_eq_some_iff.1 h).1
theorem field_at {F:Array Field} {fs:List (Nat × TypeId)} (hF:F.toList.map (fun f=>(f.offset,f.type))=fs) {i:Nat} {off:Nat} {ft:TypeId} (h:fs[i]?=some (off,ft)) :
  ∃ f,F[i]?=some f∧f∈F.toList∧f.offset=off∧f.type=ft:=by
 subst hF
 rw[List.getElem?_map,Option.map_eq_some_iff] at h
 obtain⟨f,hf,e⟩:=h
 simp only[Prod.mk.injEq] at e
 exact⟨f,by simpa using hf,List.mem_of_getElem? hf,e.1,e.2⟩
theorem run_fieldAt {t:TypeId} {F:Array Field} {i:Nat} {f:Field} (ht:P.underlying t=some (.struct F)) (hf:F[i]?=some f) (hz:∃ j,P.info? f.type=some j∧j.size≠0) (ad:Addr) :
  (Instr.fieldAt t (.pointer (some ad)) i).run P w=.ok (.pointer (some (ad.add f.offset))) w:=by
 obtain⟨j,hj,hne⟩:=hz
 simp[Instr.fieldAt,run_underlying ht,hf,Instr.sureAddr,fieldPlace,sizeOf,typeInfo,hj,hne]
theorem part_sound {t:TypeId} (hT:TIok P t (T t)) (hk:(T t).kind≠.other) {cs:List AV} {vs:Array Value} (hc:CAll S w φ cs vs) (h1:∀ v∈vs.toList,v.oneCell'=true) (off:Nat) :
  (loadAV (T t) (cs.drop off)).sound S w φ (asNext ((part t vs off).run P w)):=by
 unfold loadAV
 simp only[part,Sem.run_bind,run_isAgg hT hk,Result.andThen_ok]
 cases hag:(T t).agg with
 | true =>
  simp only[if_true,Sem.run_bind,run_size hT hk,Result.andThen_ok,Sem.run_pure]
  split
  ·
   rename_i l hl
   obtain⟨e1,e2⟩:=takeN_eq hl
   have hle:off+(T t).size≤cs.length∨(T t).size=0:=by
    rcases Nat.eq_zero_or_pos (T t).size with h0|h0
    ·
     exact .inr h0
    ·
     have:=e2 ((T t).size-1) (by omega)
     rw[List.getElem?_eq_getElem (by omega),List.getElem?_drop] at this
     have:=lookupD this.symm
     left;omega
   refine PR.sound_ok (u:=.agg (vs.extract off (off+(T t).size))) rfl (.agg l _ ?_ (fun i c v hc' hv=>?_) (fun v hv=>?_))
   ·
    rw[Array.size_extract,hc.1,e1];omega
   ·
    rw[Array.getElem?_extract] at hv
    split at hv
    ·
     rw[e2 i (by rw[← e1];exact lookupD hc'),List.getElem?_drop] at hc'
     exact hc.2 _ c v hc' hv
    ·
     cases hv
   ·
    rw[Array.toList_extract] at hv
    exact h1 v (List.mem_of_mem_drop (List.mem_of_mem_take hv))
  ·
   trivial
 | false =>
  simp only[Bool.false_eq_true,if_false]
  cases hd:cs.drop off with
  | nil=>trivial
  | cons c r =>
   have:cs[off]?=some c:=by
    have:=congrArg (fun l=>l[0]?) hd
    simpa[List.getElem?_drop] using this
   obtain⟨u,hu,hcu⟩:=hc.at this
   simp only[hu]
   exact PR.sound_ok (u:=u) rfl hcu
theorem putAt_sound:∀(new:List AV) (us:List Value) (cells:List AV) (vs:Array Value) (off:Nat),new.length=us.length→(∀(i:Nat) c u,new[i]?=some c→us[i]?=some u→C S w φ c u)→(∀ u∈us,u.oneCell'=true) →
  CAll S w φ cells vs→(∀ v∈vs.toList,v.oneCell'=true) →
  CAll S w φ (putAt cells off new) ((us.zipIdx).foldl (fun cs (c,j)=>cs.setIfInBounds (off+j) c) vs)∧(∀ v∈((us.zipIdx).foldl (fun cs (c,j)=>cs.setIfInBounds (off+j) c) vs).toList,v.oneCell'=true):=by
 have key:∀(new:List AV) (us:List Value) (cells:List AV) (vs:Array Value) (off k:Nat),new.length=us.length→(∀(i:Nat) c u,new[i]?=some c→us[i]?=some u→C S w φ c u)→(∀ u∈us,u.oneCell'=true) →
   CAll S w φ cells vs→(∀ v∈vs.toList,v.oneCell'=true) →
   CAll S w φ (putAt cells (off+k) new) ((us.zipIdx k).foldl (fun cs (c,j)=>cs.setIfInBounds (off+j) c) vs)∧(∀ v∈((us.zipIdx k).foldl (fun cs (c,j)=>cs.setIfInBounds (off+j) c) vs).toList,v.oneCell'=true):=by
  intro new
  induction new with
  | nil =>
   intro us cells vs off k hl _ _ h1 h2
   cases us with
   | nil=>exact⟨h1,h2⟩
   | cons u us=>simp at hl
  | cons c new ih =>
   intro us cells vs off k hl hc ho h1 h2
   cases us with
   | nil=>simp at hl
   | cons u us =>
    simp only[List.zipIdx_cons,List.foldl_cons,putAt]
    have e:off+k+1=off+(k+1):=by omega
    rw[e]
    refine ih us _ _ off (k+1) (by simpa using hl) (fun i c u hi hu=>hc (i+1) c u (by simpa using hi) (by simpa using hu)) (fun u hu=>ho u (by simp[hu])) (h1.set _ (hc 0 c u rfl rfl)) (fun v hv=>?_)
    rw[Array.toList_setIfInBounds] at hv
    rcases List.mem_or_eq_of_mem_set hv with hv|rfl
    ·
     exact h2 v hv
    ·
     exact ho _ (by simp)
 intro new us cells vs off
 exact key new us cells vs off 0
theorem fill_sound (place:Nat→Option (Nat × Nat)):∀(parts:List (Nat × AV)) (vparts:List (Nat × Value)) (cells out:List AV) (vs:Array Value),
  parts.length=vparts.length→(∀(i:Nat) p q,parts[i]?=some p→vparts[i]?=some q→p.1=q.1∧C S w φ p.2 q.2)→CAll S w φ cells vs→(∀ v∈vs.toList,v.oneCell'=true) →
  fillAV place cells parts=some out→∃ us,Instr.fill place vs vparts=some us∧CAll S w φ out us∧(∀ v∈us.toList,v.oneCell'=true):=by
 intro parts
 induction parts with
 | nil =>
  intro vparts cells out vs hl _ h1 h2 hf
  cases vparts with
  | nil=>simp only[fillAV] at hf;cases hf;exact⟨vs,rfl,h1,h2⟩
  | cons p ps=>simp at hl
 | cons p parts ih =>
  intro vparts cells out vs hl hc h1 h2 hf
  cases vparts with
  | nil=>simp at hl
  | cons q vparts =>
   obtain⟨i,v⟩:=p
   obtain⟨j,u⟩:=q
   obtain⟨e,hvu⟩:=hc 0 _ _ rfl rfl
   simp only at e hvu
   subst e
   simp only[fillAV] at hf
   split at hf
   ·
    cases hf
   ·
    rename_i off size hp
    split at hf
    ·
     rename_i g1 g2 g3
     have g1:=of_decide_eq_true g1
     have g2:=of_decide_eq_true g2
     have hnt:∀ cs,v≠.tup cs:=by
      intro cs e
      subst e
      simp[AV.cells,AV.one] at g3
     have hcs:=hvu.cells hnt
     have hus:∀ x∈u.cells.toList,x.oneCell'=true:=by
      intro x hx
      obtain⟨k,hk,hkx⟩:=List.getElem_of_mem hx
      have hk':u.cells[k]?=some x:=by rw[← hkx];simp
      have hkl:k<v.cells.length:=by rw[← hcs.1];simpa using hk
      have:=hcs.2 k _ x (List.getElem?_eq_getElem hkl) hk'
      exact this.one (List.all_eq_true.1 g3 _ (List.getElem_mem _))
     have hput:=putAt_sound (S:=S) (w:=w) (φ:=φ) v.cells u.cells.toList cells vs off (by simpa using hcs.1.symm) (fun i c x hi hx=>hcs.2 i c x hi (by simpa using hx)) hus h1 h2
     obtain⟨us,h3,h4⟩:=ih vparts _ out _ (by simpa using hl) (fun i p q hi hq=>hc (i+1) p q (by simpa using hi) (by simpa using hq)) hput.1 hput.2 hf
     refine⟨us,?_,h4⟩
     simp only[Instr.fill,hp]
     have e1:u.cells.size=size:=by rw[hcs.1,g1]
     have e2:vs.size=cells.length:=h1.1
     rw[if_neg (by simp[e1,e2];omega)]
     rw[← Array.foldl_toList,Array.toList_zipIdx]
     exact h3
    ·
     cases hf
theorem opds (hs:CAll S w φ s a.tmps):∀(l:List Operand),CAll S w φ (l.map (opd s)) (l.map a.eval).toArray
 | []=>CAll.nil
 | x::l=>CAll.cons (C.opd hs x) (opds hs l)
theorem opdo (hs:CAll S w φ s a.tmps) (o:Option Operand):o.map (opd s)=none∧o.map a.eval=none∨∃ x y,o.map (opd s)=some x∧o.map a.eval=some y∧C S w φ x y:=by
 cases o with
 | none=>exact .inl ⟨rfl,rfl⟩
 | some x=>exact .inr ⟨_,_,rfl,rfl,C.opd hs x⟩
theorem part_run (hT:TabOK P T) {ft:TypeId} (hk:(T ft).kind≠.other) {cs:List AV} {vs:Array Value} (hc:CAll S w φ cs vs) (h1:∀ v∈vs.toList,v.oneCell'=true) {off:Nat} {x:AV} (hl:loadAV (T ft) (cs.drop off)=.ok x) :
  ∃ u,(part ft vs off).run P w=.ok u w∧C S w φ x u:=by
 have:=part_sound (P:=P) (T:=T) (hT ft) hk hc h1 off
 rw[hl] at this
 obtain⟨u,hu,hcu⟩:=this
 refine⟨u,?_,hcu⟩
 generalize (part ft vs off).run P w=r at hu
 cases r with
 | ok v w'=>simp only[asNext,Result.andThen_ok,Result.ok.injEq,Next.value.injEq] at hu;obtain⟨rfl,rfl⟩:=hu;rfl
 | halt x w'=>simp[asNext,Result.andThen] at hu
theorem eqV_sound (hT:TabOK P T):∀(d k:Nat) {t:TypeId} {a b:AV} {u v:Value} {p:Bool},C S w φ a u→C S w φ b v→eqV T d t a b=some p→(Op.equalIn (d+k) t u v).run P w=.ok p w
 | 0,k,t,a,b,u,v,p,_,_,h=>by simp[eqV] at h
 | d+1,k,t,a,b,u,v,p,ha,hb,h=>by
  rw[show d+1+k=(d+k)+1 by omega]
  unfold eqV at h
  split at h
  ·
   rename_i k' q1 x q2 y hk
   cases ha;cases hb
   split at h
   case h_2=>cases h
   rename_i hkk
   have hkk:=kEq_eq hkk
   subst hkk
   cases h
   obtain⟨_,_,_,_,_,_,_,_,_,_,_,hK⟩:=(hT t).known (by rw[hk];simp)
   rw[hk] at hK
   simp[Op.equalIn,run_underlying hK]
  ·
   rename_i x y hk
   cases ha;cases hb;cases h
   obtain⟨_,_,_,_,_,_,_,_,_,_,_,hK⟩:=(hT t).known (by rw[hk];simp)
   rw[hk] at hK
   simp[Op.equalIn,run_underlying hK,beq_toListBytes]
  ·
   rename_i x y hk
   cases ha;cases hb;cases h
   obtain⟨_,_,_,_,_,_,_,_,_,_,_,hK⟩:=(hT t).known (by rw[hk];simp)
   rw[hk] at hK
   exact run_equalIn_bool w _ t x y hK
  ·
   rename_i fs cs ds hk
   obtain⟨_,_,_,_,_,_,_,_,_,_,_,hK⟩:=(hT t).known (by rw[hk];simp)
   rw[hk] at hK
   obtain⟨F,hu,hF,hn,_,hst,_⟩:=hK
   have hfo:P.fieldsOf t=F:=by simp[Program.fieldsOf,hu]
   cases ha with
   | agg _ us hl hc h1 =>
   cases hb with
   | agg _ vs hl' hc' h1' =>
   rw[run_equalIn_struct w (d+k) t us vs (by rw[hfo];exact hu) hst,hfo]
   subst hF
   have key : ∀ (G : List Field) (p : Bool), (∀ f ∈ G, f.name ≠ "_") → eqFs (eqV T d) T cs ds (G.map fun f => (f.offset, f.type)) = some p → (Op.eqFields (d + k) us vs G).run P w = .ok p w := by
    intro G
    induction G with
    | nil=>intro p _ hp;simp only[List.map_nil,eqFs] at hp;cases hp;rfl
    | cons f G ih =>
     intro p hnm hp
     simp only[List.map_cons,eqFs] at hp
     split at hp
     ·
      cases hp
     ·
      rename_i hko
      split at hp
      ·
       rename_i x y hx hy
       split at hp
       ·
        rename_i p1 p2 hp1 hp2
        cases hp
        obtain⟨ux,hux,hcx⟩:=part_run hT hko ⟨hl,hc⟩ h1 hx
        obtain⟨uy,huy,hcy⟩:=part_run hT hko ⟨hl',hc'⟩ h1' hy
        have he:=eqV_sound hT d k hcx hcy hp1
        simp only[Op.eqFields]
        rw[if_pos (hnm f (by simp))]
        simp only[Sem.run_bind,hux,huy,he,Result.andThen_ok]
        cases p1 with
        | false=>rfl
        | true=>exact ih p2 (fun g hg=>hnm g (by simp[hg])) hp2
       ·
        cases hp
      ·
       cases hp
   exact key F.toList p (fun f hf=>hn f (by simpa using hf)) h
  ·
   cases h
theorem structAV_sound (hT:TabOK P T) {t:TypeId} (hk:∃ fs,(T t).kind=.struct fs) (op:BinOp) (x y:Operand) {p q:AV} {u v:Value} (hu:C S w φ p u) (hv:C S w φ q v) :
  (structAV T t op p q).sound S w φ (asNext (Sem.run P (do eqGuard op t x y u v;binOp op t u v) w)):=by
 unfold structAV
 have agg:∀ {a:AV} {u:Value},C S w φ a u→isAggAV a=true→∃ us,u=.agg us∧C S w φ (.agg a.cells) u:=by
  intro a z hc ha
  cases a with
  | agg cs =>
   cases hc with
   | agg _ vs hl h h1=>exact⟨vs,rfl,.agg cs vs hl h h1⟩
  | raw x =>
   have e:x=z:=by cases hc;rfl
   subst e
   cases x with
   | agg vs =>
    simp only[isAggAV,List.all_eq_true] at ha
    have hm:=CAll.map_raw (S:=S) (w:=w) (φ:=φ) vs.toList
    exact⟨vs,rfl,.agg _ _ (by simp[AV.cells]) (by simpa[AV.cells] using hm.2) ha⟩
   | _=>simp[isAggAV] at ha
  | _=>simp[isAggAV] at ha
 split
 ·
  rename_i b h1 h2 h3
  obtain⟨us,rfl,hcu⟩:=agg hu h1
  obtain⟨vs,rfl,hcv⟩:=agg hv h2
  have he:=eqV_sound (P:=P) hT 6 9994 hcu hcv h3
  obtain⟨fs,hk⟩:=hk
  obtain⟨_,_,_,_,_,_,_,_,_,_,_,hK⟩:=(hT t).known (by rw[hk];simp)
  rw[hk] at hK
  obtain⟨F,hF,_,_,_,_,hg⟩:=hK
  split
  ·
   exact PR.sound_ok (by simp only[Sem.run_bind,run_eqGuard_agg w .eql t x y us vs hg,Result.andThen_ok,run_eql_struct,he,asNext]) (.raw _)
  ·
   exact PR.sound_ok (by simp only[Sem.run_bind,run_eqGuard_agg w .neq t x y us vs hg,Result.andThen_ok,run_neq_struct,he,asNext]) (.raw _)
  ·
   trivial
 ·
  trivial
end
end Go.Abs
namespace Go.Abs
open Go.RowKit
section
variable {P:Program} {T:TypeId→TI} {S:Addr→Prop} {w:World} {φ:Nat→Loc} {s:List AV} {h:List Blk} {a:Act}
theorem C.lst_addr {sz:Nat} {es:List AV} {tok:Option Nat} {v:Value} (hc:C S w φ (.lst sz es tok) v) {i:Nat} {x:AV} (hx:es[i]?=some x) :
  ∃ ad len cap,v=.slice (some ad) len cap∧es.length=len:=by
 cases hc with
 | lst _ _ _ ad len cap u hlen=>exact⟨ad,len,cap,rfl,hlen⟩
 | lstnil=>simp at hx
theorem stepPure_sound (hT:TabOK P T) (hs:CAll S w φ s a.tmps) (hr:R S φ h w) (dst:Option Tmp) (op:Op) (ty:TypeId) (pos:String) (af:Array Edge) (gd:Option (Nat × Bool)) :
  (stepPure T s h op).sound S w φ ((execOp a.eval ⟨dst,op,ty,pos,af,gd⟩).run P w):=by
 cases op with
 | move x=>exact PR.sound_ok (by simp[execOp]) (C.opd hs x)
 | assign x=>exact PR.sound_ok (by simp[execOp]) (C.opd hs x)
 | pick c x y =>
  simp only[stepPure,execOp]
  have hc:=C.opd hs c
  have hx:=C.opd hs x
  have hy:=C.opd hs y
  split
  ·
   rename_i t ht
   rw[ht] at hc
   generalize a.eval c=vc at hc
   cases hc
   split
   ·
    rename_i p q hp hq
    rw[hp] at hx;rw[hq] at hy
    generalize a.eval x=vx at hx
    generalize a.eval y=vy at hy
    cases hx;cases hy
    refine PR.sound_ok (u:=.bool (bif t then p else q)) ?_ (.raw _)
    cases t<;>simp[asBool]
   ·
    cases t
    ·
     exact PR.sound_ok (by simp[asBool]) hy
    ·
     exact PR.sound_ok (by simp[asBool]) hx
  ·
   trivial
 | load t x =>
  simp only[stepPure,execOp,asNext_bind]
  split
  ·
   trivial
  ·
   rename_i hk
   have hx:=C.opd hs x
   split
   ·
    rename_i cs hcs
    rw[hcs] at hx
    obtain⟨ad,e,hl⟩:=LiesAt.of_eptr hx
    rw[e]
    exact loadAV_sound (hT t) hk hl
   ·
    rename_i k off hcs
    rw[hcs] at hx
    split
    ·
     rename_i cs hb
     obtain⟨b,e,hl⟩:=LiesAt.of_ptr hr hx hb
     rw[e]
     exact loadAV_sound (hT t) hk hl
    ·
     trivial
   ·
    trivial
 | fieldAddr t x f =>
  simp only[stepPure,execOp,asNext_bind]
  split
  ·
   rename_i fs hk
   obtain⟨i,z,_,_,_,_,_,_,_,_,_,hK⟩:=(hT t).known (by rw[hk];simp)
   rw[hk] at hK
   obtain⟨F,hu,hF,hnm,hsz,_,_⟩:=hK
   have hx:=C.opd hs x
   split
   ·
    rename_i off ft hf
    obtain⟨fd,hfd,hmem,ho,hty⟩:=field_at hF hf
    split
    ·
     rename_i cs hcs
     rw[hcs] at hx
     obtain⟨ad,e,_⟩:=LiesAt.of_eptr hx
     rw[e] at hx ⊢
     exact PR.sound_ok (by rw[run_fieldAt hu hfd (hsz fd hmem),ho];rfl) (hx.eptr_drop off)
    ·
     rename_i k o hcs
     rw[hcs] at hx
     generalize a.eval x=vx at hx
     cases hx with
     | ptr _ _ b hb =>
      refine PR.sound_ok (by rw[run_fieldAt hu hfd (hsz fd hmem),ho];rfl) ?_
      have:(⟨b,o,none⟩:Addr).add off=⟨b,o+off,none⟩:=by unfold Addr.add;split<;>simp_all
      rw[this]
      exact .ptr _ _ b hb
    ·
     trivial
   ·
    trivial
  ·
   trivial
 | field t x f =>
  simp only[stepPure,execOp,asNext_bind]
  split
  ·
   rename_i fs hk
   obtain⟨i,z,_,_,_,_,_,_,_,_,_,hK⟩:=(hT t).known (by rw[hk];simp)
   rw[hk] at hK
   obtain⟨F,hu,hF,hnm,hsz,_,_⟩:=hK
   have hx:=C.opd hs x
   split
   ·
    rename_i off ft hf
    obtain⟨fd,hfd,hmem,ho,hty⟩:=field_at hF hf
    split
    ·
     trivial
    ·
     rename_i hkk
     split
     ·
      rename_i cs hcs
      rw[hcs] at hx
      generalize a.eval x=vx at hx
      cases hx with
      | agg _ vs hl hcv h1 =>
       have:=part_sound (P:=P) (hT ft) hkk (S:=S) (w:=w) (φ:=φ) (cs:=cs) (vs:=vs) ⟨hl,hcv⟩ h1 off
       simpa[Instr.field,run_underlying hu,hfd,asAgg,hty,ho] using this
     ·
      trivial
   ·
    trivial
  ·
   trivial
 | indexAddr t x i =>
  simp only[stepPure,execOp,asNext_bind]
  have hx:=C.opd hs x
  have hi:=C.opd hs i
  split
  ·
   rename_i e hk
   obtain⟨_,z,_,_,_,_,_,_,_,_,_,hK⟩:=(hT t).known (by rw[hk];simp)
   rw[hk] at hK
   split
   ·
    trivial
   ·
    rename_i hke
    split
    ·
     rename_i sz es tok k n hxe hie
     rw[hxe] at hx;rw[hie] at hi
     generalize a.eval x=vx at hx
     generalize a.eval i=vi at hi
     cases hi
     split
     ·
      rename_i hsz
      have hsz:=of_decide_eq_true hsz
      intro y h0 hy
      obtain⟨ad,len,cap,rfl,hlen⟩:=hx.lst_addr hy
      have hlt:=lookupD hy
      refine⟨.pointer (some (ad.add (n.toNat * sz))),?_,hx.elem hy⟩
      have hc:0≤n∧n<(len:Int):=⟨h0,by omega⟩
      simp[Instr.indexAt,asIntOf,run_underlying hK,hc,run_size (hT e) hke,asNext,Result.andThen,hsz]
     ·
      trivial
    ·
     rename_i sz k off len k' n hxe hie
     rw[hxe] at hx;rw[hie] at hi
     generalize a.eval x=vx at hx
     generalize a.eval i=vi at hi
     cases hi
     split
     ·
      rename_i hsz
      have hsz:=of_decide_eq_true hsz
      intro hp
      cases hx with
      | sl _ _ _ _ b cap hb hcap hmax =>
       refine⟨.pointer (some ⟨b,off+n.toNat * sz,none⟩),?_,.ptr _ _ b hb⟩
       have:(⟨b,off,none⟩:Addr).add (n.toNat * sz)=⟨b,off+n.toNat * sz,none⟩:=by unfold Addr.add;split<;>simp_all
       simp[Instr.indexAt,asIntOf,run_underlying hK,hp,run_size (hT e) hke,asNext,Result.andThen,hsz,this]
     ·
      trivial
    ·
     trivial
  ·
   rename_i len e hk
   obtain⟨_,z,_,_,_,_,_,_,_,_,_,hK⟩:=(hT t).known (by rw[hk];simp)
   rw[hk] at hK
   obtain⟨hK,_⟩:=hK
   split
   ·
    trivial
   ·
    rename_i hke
    split
    ·
     rename_i cs k n hxe hie
     rw[hxe] at hx;rw[hie] at hi
     obtain⟨ad,ex,_⟩:=LiesAt.of_eptr hx
     rw[ex] at hx ⊢
     generalize a.eval i=vi at hi
     cases hi
     intro hp
     refine⟨_,?_,hx.eptr_drop (n.toNat * (T e).size)⟩
     simp[Instr.indexAt,asIntOf,run_underlying hK,hp,Instr.sureAddr,run_size (hT e) hke,asNext,Result.andThen]
    ·
     rename_i k' o k n hxe hie
     rw[hxe] at hx;rw[hie] at hi
     generalize a.eval x=vx at hx
     generalize a.eval i=vi at hi
     cases hi
     cases hx with
     | ptr _ _ b hb =>
      intro hp
      refine⟨.pointer (some ⟨b,o+n.toNat * (T e).size,none⟩),?_,.ptr _ _ b hb⟩
      have:(⟨b,o,none⟩:Addr).add (n.toNat * (T e).size)=⟨b,o+n.toNat * (T e).size,none⟩:=by unfold Addr.add;split<;>simp_all
      simp[Instr.indexAt,asIntOf,run_underlying hK,hp,Instr.sureAddr,run_size (hT e) hke,asNext,Result.andThen,this]
    ·
     trivial
  ·
   trivial
 | index t x i =>
  simp only[stepPure,execOp,asNext_bind]
  have hx:=C.opd hs x
  have hi:=C.opd hs i
  split
  ·
   rename_i b k n hk hxe hie
   rw[hxe] at hx;rw[hie] at hi
   obtain⟨_,z,_,_,_,_,_,_,_,_,_,hK⟩:=(hT t).known (by rw[hk];simp)
   rw[hk] at hK
   generalize a.eval x=vx at hx
   generalize a.eval i=vi at hi
   cases hi;cases hx
   intro hp
   refine⟨.int .u8 (b.data.toList.getD n.toNat 0).toNat,?_,.raw _⟩
   have hlt:n.toNat<b.size:=by omega
   have e:b[n.toNat]?=some (b.data.toList.getD n.toNat 0):=by
    obtain⟨⟨l⟩⟩:=b
    simp only[ByteArray.size,List.size_toArray] at hlt
    rw[List.getD_eq_getElem?_getD,List.getElem?_eq_getElem hlt]
    show(if h:n.toNat<_ then some _ else none)=_
    rw[dif_pos (by simpa[ByteArray.size] using hlt)]
    rfl
   simp[Instr.index,asIntOf,run_underlying hK,hp.1,e,asNext,Result.andThen]
  ·
   trivial
 | binOp op t x y u =>
  simp only[stepPure,execOp]
  split
  ·
   rename_i fs hk
   have:=structAV_sound (P:=P) (T:=T) hT ⟨fs,hk⟩ op x y (C.opd hs x) (C.opd hs y)
   simp only[Sem.run_bind,asNext] at this ⊢
   exact this
  ·
   rename_i hk
   split
   ·
    obtain⟨i,z,_,_,_,_,_,_,_,_,_,hK⟩:=(hT t).known (by rw[hk];simp)
    rw[hk] at hK
    obtain⟨ms,hK⟩:=hK
    have hx:=C.opd hs x
    generalize opd s x=q at hx
    generalize hu:a.eval x=u at hx
    have he:a.eval (.const .nilIface)=.nilIface:=rfl
    rw[he]
    have:=nilAV_sound (P:=P) (S:=S) (φ:=φ) hK op x hx
    simp only[Sem.run_bind,asNext] at this ⊢
    exact this
   ·
    trivial
  ·
   rename_i e hk
   split
   ·
    obtain⟨i,z,_,_,_,_,_,_,_,_,_,hK⟩:=(hT t).known (by rw[hk];simp)
    rw[hk] at hK
    have hx:=C.opd hs x
    generalize opd s x=q at hx
    generalize hu:a.eval x=u at hx
    have he:a.eval (.const (.slice none 0 0))=.slice none 0 0:=rfl
    rw[he]
    have:=nilSl_sound (P:=P) (S:=S) (φ:=φ) hK op x hx
    simp only[Sem.run_bind,asNext] at this ⊢
    exact this
   ·
    trivial
  ·
   have:=binAV_sound (P:=P) (hT t) op x y (C.opd hs x) (C.opd hs y)
   simp only[Sem.run_bind,asNext] at this ⊢
   exact this
 | unOp op t x =>
  simp only[stepPure,execOp,asNext_bind]
  have hx:=C.opd hs x
  split
  ·
   rename_i b hxe
   rw[hxe] at hx
   generalize a.eval x=vx at hx
   cases hx
   exact PR.sound_ok (by simp[Op.unary,asNext,Result.andThen]) (.raw _)
  ·
   rename_i k n hxe
   rw[hxe] at hx
   generalize a.eval x=vx at hx
   cases hx
   exact PR.sound_ok (by simp[Op.unary,Op.intArith,asNext,Result.andThen]) (.raw _)
  ·
   trivial
 | extract x i =>
  simp only[stepPure,execOp,asNext_bind]
  have hx:=C.opd hs x
  split
  ·
   rename_i c hc
   obtain⟨vs,u,hv,hu,hcu⟩:=hx.comps hc
   rw[hv]
   exact PR.sound_ok (by simp[Instr.extract,hu,asNext,Result.andThen]) hcu
  ·
   trivial
 | build t parts =>
  simp only[stepPure,execOp,asNext_bind]
  split
  ·
   rename_i fs hk
   obtain⟨i,z,hi,hsz,_,hz,hzc,_,hzag,hz1,hzl,hK⟩:=(hT t).known (by rw[hk];simp)
   have hzz:=hzag (by simp[TI.agg,hk])
   rw[hk] at hK
   obtain⟨F,hu,hF,_,hfs,_,_⟩:=hK
   split
   ·
    rename_i out hf
    have hzero:CAll S w φ ((T t).zero.map .raw) (T t).zero.toArray:=CAll.map_raw _
    have hplaces:∀(l:List Field) (pl:List (Nat × Nat)),(∀ f∈l,∃ j,P.info? f.type=some j)→l.map (fun f=>(f.offset,P.cellsOf f.type))=pl→(l.mapM fun f=>(do pure (f.offset,← sizeOf f.type):Sem (Nat × Nat))).run P w=.ok pl w:=by
     intro l
     induction l with
     | nil=>intro pl _ e;subst e;rfl
     | cons f l ih =>
      intro pl hl e
      subst e
      obtain⟨j,hj⟩:=hl f (by simp)
      have:=ih _ (fun f hf=>hl f (by simp[hf])) rfl
      simp[List.mapM_cons,sizeOf,typeInfo,hj,Program.cellsOf] at this ⊢
      simp[this]
    have hpl:=hplaces F.toList _ (fun f hf=>by obtain⟨j,hj,_⟩:=hfs f hf;exact⟨j,hj⟩) rfl
    obtain⟨us,h1,h2,h3⟩:=fill_sound (S:=S) (w:=w) (φ:=φ) (fun i=>match fs[i]? with|some (off,ft)=>(match (T ft).kind with|.other=>none|_=>some (off,(T ft).size))|none=>none) (parts.toList.map fun p=>(p.1,opd s p.2)) (parts.toList.map fun p=>(p.1,a.eval p.2)) _ out _
     (by simp) (fun i p q hp hq=>by
      simp only[List.getElem?_map,Option.map_eq_some_iff] at hp hq
      obtain⟨x,hx,rfl⟩:=hp
      obtain⟨y,hy,rfl⟩:=hq
      rw[hx] at hy
      cases hy
      exact⟨rfl,C.opd hs x.2⟩) hzero (by simpa using hz1) hf
    have hfill:∀(l:List (Nat × Value)) (vs us:Array Value),Instr.fill (fun i=>match fs[i]? with|some (off,ft)=>(match (T ft).kind with|.other=>none|_=>some (off,(T ft).size))|none=>none) vs l=some us →
      Instr.fill (fun i=>(F.toList.map fun f=>(f.offset,P.cellsOf f.type)).toArray[i]?) vs l=some us:=by
     intro l
     induction l with
     | nil=>intro vs us h;exact h
     | cons p l ih =>
      intro vs us h
      obtain⟨i,v⟩:=p
      simp only[Instr.fill] at h ⊢
      split at h
      ·
       cases h
      ·
       rename_i off size hp
       split at hp
       ·
        rename_i off' ft hfi
        obtain⟨fd,hfd,_,ho,hty⟩:=field_at hF hfi
        have hfd':F.toList[i]?=some fd:=by simpa using hfd
        split at hp
        ·
         cases hp
        ·
         rename_i hko
         obtain⟨j,_,hj,hjs,_⟩:=(hT ft).known hko
         cases hp
         have:(F.toList.map fun f=>(f.offset,P.cellsOf f.type)).toArray[i]?=some (off,(T ft).size):=by
          simp[hfd',ho,hty,Program.cellsOf,hj,hjs]
         rw[this]
         dsimp only
         split at h
         ·
          cases h
         ·
          rename_i hcond
          rw[if_neg hcond]
          exact ih _ _ h
       ·
        cases hp
    have hm:(F.mapM fun f=>(do pure (f.offset,← sizeOf f.type):Sem (Nat × Nat))).run P w=.ok (F.toList.map fun f=>(f.offset,P.cellsOf f.type)).toArray w:=by
     rw[Array.mapM_eq_mapM_toList]
     have hmap:∀ m:Sem (List (Nat × Nat)),(List.toArray <$> m).run P w=(m.run P w).andThen fun l w=>.ok l.toArray w:=fun m=>Sem.run_bind' P m (fun l:List (Nat × Nat)=>(pure l.toArray:Sem (Array (Nat × Nat)))) w
     rw[hmap,hpl]
     rfl
    have hfinal:=hfill _ _ _ h1
    refine PR.sound_ok (u:=.agg us) ?_ (.agg out us h2.1 h2.2 h3)
    have ep:(Array.map (fun(x:Nat × Operand)=>(x.fst,a.eval x.snd)) parts).toList=parts.toList.map fun p=>(p.1,a.eval p.2):=by simp
    simp only[Instr.build,Sem.run_bind,zeroValue,run_typeInfo _ hi,Result.andThen_ok,hz,Sem.run_pure,run_underlying hu,hm]
    rw[hzz]
    simp only[Value.cells]
    rw[ep,hfinal]
    rfl
   ·
    trivial
  ·
   rename_i n0 e hk
   split
   ·
    trivial
   ·
    rename_i hko
    obtain⟨i,z,hi,hsz,_,hz,hzc,_,hzag,hz1,hzl,hK⟩:=(hT t).known (by rw[hk];simp)
    have hzz:=hzag (by simp[TI.agg,hk])
    rw[hk] at hK
    obtain⟨hu,_⟩:=hK
    obtain⟨j,_,hj,hjs,_⟩:=(hT e).known hko
    split
    ·
     rename_i out hf
     have hzero:CAll S w φ ((T t).zero.map .raw) (T t).zero.toArray:=CAll.map_raw _
     obtain⟨us,h1,h2,h3⟩:=fill_sound (S:=S) (w:=w) (φ:=φ) (fun i=>some (i * (T e).size,(T e).size)) (parts.toList.map fun p=>(p.1,opd s p.2)) (parts.toList.map fun p=>(p.1,a.eval p.2)) _ out _
      (by simp) (fun i p q hp hq=>by
       simp only[List.getElem?_map,Option.map_eq_some_iff] at hp hq
       obtain⟨x,hx,rfl⟩:=hp
       obtain⟨y,hy,rfl⟩:=hq
       rw[hx] at hy
       cases hy
       exact⟨rfl,C.opd hs x.2⟩) hzero (by simpa using hz1) hf
     refine PR.sound_ok (u:=.agg us) ?_ (.agg out us h2.1 h2.2 h3)
     have ep:(Array.map (fun(x:Nat × Operand)=>(x.fst,a.eval x.snd)) parts).toList=parts.toList.map fun p=>(p.1,a.eval p.2):=by simp
     have hso:(sizeOf e).run P w=.ok (T e).size w:=by simp[sizeOf,typeInfo,hj,hjs]
     simp only[Instr.build,Sem.run_bind,zeroValue,run_typeInfo _ hi,Result.andThen_ok,hz,Sem.run_pure,run_underlying hu,hso]
     rw[hzz]
     simp only[Value.cells]
     rw[ep,h1]
     rfl
    ·
     trivial
  ·
   trivial
 | makeFunc fn first captured =>
  simp only[stepPure,execOp,asNext_bind]
  have h1:=opds hs first.toList
  have h2:=opds hs captured.toList
  refine PR.sound_ok (u:=.func fn (first.map a.eval) (captured.map a.eval)) rfl (.fn fn _ _ _ _ ?_ ?_ ?_ ?_)
  ·
   simp
  ·
   simp
  ·
   exact fun i x v hx hv=>h1.2 i x v hx (by simpa using hv)
  ·
   exact fun i x v hx hv=>h2.2 i x v hx (by simpa using hv)
 | slice t x lo hi mx =>
  cases mx with
  | some m=>trivial
  | none =>
   simp only[stepPure,execOp,asNext_bind]
   have hx:=C.opd hs x
   have hlo:=opdo hs lo
   have hhi:=opdo hs hi
   split
   ·
    rename_i e hk
    obtain⟨_,z,_,_,_,_,_,_,_,_,_,hK⟩:=(hT t).known (by rw[hk];simp)
    rw[hk] at hK
    split
    ·
     trivial
    ·
     rename_i hke
     split
     ·
      rename_i sz es tok hxe
      rw[hxe] at hx
      split
      ·
       rename_i hsz
       have hsz:=of_decide_eq_true hsz
       exact sliceAV_sound hK (fun w'=>by rw[run_size (hT e) hke,hsz]) hx hlo hhi
      ·
       trivial
     ·
      rename_i sz k off len hxe
      rw[hxe] at hx
      split
      ·
       rename_i kk n hszd hhe
       have hsz:=of_decide_eq_true hszd
       rcases hhi with ⟨e1,_⟩|⟨y,y',e1,e2,hy⟩
       ·
        rw[e1] at hhe;cases hhe
       ·
        rw[e1] at hhe
        cases hhe
        generalize a.eval x=vx at hx
        cases hx with
        | sl _ _ _ _ b cap hφ hcap hmax =>
        generalize hi.map a.eval=ov at e2
        subst e2
        cases hy
        intro hp
        have ht':P.underlying t=some (.slice (P.elem t)):=by rw[elem_of hK];exact hK
        refine⟨.slice (some ⟨b,off,none⟩) n.toNat cap,?_,.sl _ _ _ _ _ _ hφ (by omega) hmax⟩
        simp only[Option.map_none]
        rw[run_sliceAt_slice _ _ _ _ _ _ ht',run_slice_h _ _ _ _ _ ht' kk n hp.1 (by omega)]
        rw[elem_of hK,run_size (hT e) hke]
        simp[sliced,Addr.add]
        rfl
      ·
       trivial
     ·
      trivial
   ·
    rename_i hk
    obtain⟨_,z,_,_,_,_,_,_,_,_,_,hK⟩:=(hT t).known (by rw[hk];simp)
    rw[hk] at hK
    split
    ·
     rename_i b hxe
     rw[hxe] at hx
     generalize a.eval x=vx at hx
     cases hx
     exact sliceStr_sound hK hlo hhi
    ·
     trivial
   ·
    trivial
 | convert t u x =>
  simp only[stepPure,execOp,asNext_bind]
  have hx:=C.opd hs x
  split
  ·
   rename_i k1 k k2 n hk1 hk2 hxe
   rw[hxe] at hx
   obtain⟨_,z,_,_,_,_,_,_,_,_,_,hK⟩:=(hT t).known (by rw[hk1];simp)
   rw[hk1] at hK
   obtain⟨_,z,_,_,_,_,_,_,_,_,_,hK'⟩:=(hT u).known (by rw[hk2];simp)
   rw[hk2] at hK'
   generalize a.eval x=vx at hx
   cases hx
   exact PR.sound_ok (by simp[convert,run_underlying hK,run_underlying hK',Conv.intToInt,asNext,Result.andThen]) (.raw _)
  ·
   rename_i b hk1 hk2 hxe
   rw[hxe] at hx
   obtain⟨_,z,_,_,_,_,_,_,_,_,_,hK⟩:=(hT t).known (by rw[hk1];simp)
   rw[hk1] at hK
   obtain⟨_,z,_,_,_,_,_,_,_,_,_,hK'⟩:=(hT u).known (by rw[hk2];simp)
   rw[hk2] at hK'
   generalize a.eval x=vx at hx
   cases hx
   exact PR.sound_ok (by simp[convert,run_underlying hK,run_underlying hK',asNext,Result.andThen]) (.raw _)
  ·
   rename_i k1 k2 e sz es tok hk1 hk2 hxe
   rw[hxe] at hx
   split
   ·
    rename_i k3 ob b hke hb
    obtain⟨ns,rfl,rfl⟩:=u8sAV_ints hb
    obtain⟨_,z,_,_,_,_,_,_,_,_,_,hK⟩:=(hT t).known (by rw[hk1];simp)
    rw[hk1] at hK
    obtain⟨_,z,_,_,_,_,_,_,_,_,_,hK'⟩:=(hT u).known (by rw[hk2];simp)
    rw[hk2] at hK'
    obtain⟨_,z,_,_,_,_,_,_,_,_,_,hK''⟩:=(hT e).known (by rw[hke];simp)
    rw[hke] at hK''
    have hfl:=flat_u8s ns
    generalize a.eval x=vx at hx
    generalize hes:(ns.map fun n=>AV.raw (.int .u8 n))=es at hx
    cases hx with
    | lst _ _ _ ad len cap us hlen hcap hmax hsz hm hc h1 ht =>
     subst hes
     rw[hfl] at hm hc
     have hu:∀(q:Nat) (n:Int),ns[q]?=some n→us q=.int .u8 n:=fun q n hq=>by
      have:=hc q (.raw (.int .u8 n)) (by rw[List.getElem?_map,hq];rfl)
      generalize us q=z at this
      cases this
      rfl
     have hl:=run_loadCells_list (P:=P) w ad (ns.map (Value.int .u8)) (fun q v hq=>by
      rw[List.getElem?_map] at hq
      obtain⟨n,hn,rfl⟩:=Option.map_eq_some_iff.1 hq
      rw[(hm q (.raw (.int .u8 n)) (by rw[List.getElem?_map,hn];rfl)).1,hu q n hn])
     rw[List.length_map] at hl hlen
     have hb:=run_bytesToString (P:=P) w ad len cap ns (by rw[← hlen];exact hl)
     rw[foldl_bytes] at hb
     refine PR.sound_ok ?_ (.raw _)
     simp only[asNext,run_convert_bytes_string w t u e _ _ _ hK hK'' hK',hb,Result.andThen]
     simp
    | lstnil _ _ ht =>
     have:ns=[]:=by simpa using hes
     subst this
     refine PR.sound_ok ?_ (.raw _)
     simp only[asNext,run_convert_bytes_string w t u e _ _ _ hK hK'' hK']
     rfl
   ·
    trivial
  ·
   rename_i k1 k2 e hk1 hk2 hxe
   rw[hxe] at hx
   split
   ·
    rename_i k3 hke
    obtain⟨_,z,_,_,_,_,_,_,_,_,_,hK⟩:=(hT t).known (by rw[hk1];simp)
    rw[hk1] at hK
    obtain⟨_,z,_,_,_,_,_,_,_,_,_,hK'⟩:=(hT u).known (by rw[hk2];simp)
    rw[hk2] at hK'
    obtain⟨_,z,_,_,_,_,_,_,_,_,_,hK''⟩:=(hT e).known (by rw[hke];simp)
    rw[hke] at hK''
    generalize a.eval x=vx at hx
    cases hx
    refine PR.sound_ok ?_ (.raw _)
    simp only[asNext,run_convert_bytes_string w t u e _ _ _ hK hK'' hK']
    rfl
   ·
    trivial
  ·
   trivial
 | nilCheck x =>
  simp only[stepPure,execOp]
  have hx:=C.opd hs x
  generalize opd s x=q at hx
  generalize a.eval x=vx at hx
  cases hx with
  | ptr _ _ b hb=>exact PR.sound_ok rfl (.ptr _ _ b hb)
  | eptr _ ad u h1 h2 h3=>exact PR.sound_ok rfl (.eptr _ ad u h1 h2 h3)
  | _=>trivial
 | call c =>
  obtain⟨callee,args,argTypes⟩:=c
  cases callee with
  | value f=>trivial
  | invoke r m=>trivial
  | builtin b =>
   cases b<;>first|trivial|skip
   ·
    simp only[stepPure]
    split
    ·
     rename_i x t ha ht
     have hx:=C.opd hs x
     have ea:args=#[x]:=by rw[← Array.toList_inj];exact ha
     have et:argTypes=#[t]:=by rw[← Array.toList_inj];exact ht
     subst ea;subst et
     have run:∀ v:Value,((Builtin.len_ #[t] ty #[a.eval x]).run P w=.ok v w)→(execOp a.eval ⟨dst,.call { callee:=.builtin .len,args:=#[x],argTypes:=#[t] },ty,pos,af,gd⟩).run P w=.ok (.value v) w:=by
      intro v hv
      simp[execOp,resolve,invoke,builtin,hv]
     split
     ·
      rename_i e sz es tok hk hxe
      obtain⟨_,z,_,_,_,_,_,_,_,_,_,hK⟩:=(hT t).known (by rw[hk];simp)
      rw[hk] at hK
      rw[hxe] at hx
      obtain⟨ad,len,cap,hv,hlen,hcap,hmax,_⟩:=hx.slice_form
      rw[hv] at run
      exact⟨by omega,_,run _ (by simp[Builtin.len_,run_underlying hK,goInt];rfl),by rw[hlen];exact .raw _⟩
     ·
      rename_i e sz k off n hk hxe
      obtain⟨_,z,_,_,_,_,_,_,_,_,_,hK⟩:=(hT t).known (by rw[hk];simp)
      rw[hk] at hK
      rw[hxe] at hx
      generalize a.eval x=vx at hx run
      cases hx with
      | sl _ _ _ _ b cap hb hcap hmax=>exact⟨by omega,_,run _ (by simp[Builtin.len_,run_underlying hK,goInt]),.raw _⟩
     ·
      rename_i e sz k n hk hxe
      obtain⟨_,z,_,_,_,_,_,_,_,_,_,hK⟩:=(hT t).known (by rw[hk];simp)
      rw[hk] at hK
      rw[hxe] at hx
      generalize a.eval x=vx at hx run
      cases hx with
      | own _ _ _ b cap hcap hmax ht=>exact⟨by omega,_,run _ (by simp[Builtin.len_,run_underlying hK,goInt]),.raw _⟩
     ·
      rename_i e hk hxe
      obtain⟨_,z,_,_,_,_,_,_,_,_,_,hK⟩:=(hT t).known (by rw[hk];simp)
      rw[hk] at hK
      rw[hxe] at hx
      generalize a.eval x=vx at hx run
      cases hx
      exact⟨_,run _ (by simp[Builtin.len_,run_underlying hK,goInt]),.raw _⟩
     ·
      rename_i b hk hxe
      obtain⟨_,z,_,_,_,_,_,_,_,_,_,hK⟩:=(hT t).known (by rw[hk];simp)
      rw[hk] at hK
      rw[hxe] at hx
      generalize a.eval x=vx at hx run
      cases hx
      exact⟨_,run _ (by simp[Builtin.len_,run_underlying hK,goInt]),.raw _⟩
     ·
      trivial
    ·
     trivial
   ·
    simp only[stepPure]
    split
    ·
     rename_i k p k' q hl
     match hargs:args.toList,hl with
     | [x,y],hl =>
      simp only[List.map_cons,List.map_nil,List.cons.injEq,and_true] at hl
      have hx:=C.opd hs x
      have hy:=C.opd hs y
      rw[hl.1] at hx;rw[hl.2] at hy
      have ea:args=#[x,y]:=by rw[← Array.toList_inj];exact hargs
      subst ea
      generalize hvx:a.eval x=vx at hx
      generalize hvy:a.eval y=vy at hy
      cases hx;cases hy
      refine PR.sound_ok ?_ (.raw _)
      simp[execOp,resolve,invoke,builtin,Builtin.max_,Builtin.max2,hvx,hvy]
     | [],hl=>simp at hl
     | [x],hl=>simp at hl
     | x::y::z::r,hl=>simp at hl
    ·
     trivial
   ·
    simp only[stepPure]
    split
    ·
     rename_i k p k' q hl
     match hargs:args.toList,hl with
     | [x,y],hl =>
      simp only[List.map_cons,List.map_nil,List.cons.injEq,and_true] at hl
      have hx:=C.opd hs x
      have hy:=C.opd hs y
      rw[hl.1] at hx;rw[hl.2] at hy
      have ea:args=#[x,y]:=by rw[← Array.toList_inj];exact hargs
      subst ea
      generalize hvx:a.eval x=vx at hx
      generalize hvy:a.eval y=vy at hy
      cases hx;cases hy
      refine PR.sound_ok ?_ (.raw _)
      simp[execOp,resolve,invoke,builtin,Builtin.min_,Builtin.min2,hvx,hvy]
     | [],hl=>simp at hl
     | [x],hl=>simp at hl
     | x::y::z::r,hl=>simp at hl
    ·
     trivial
 | _=>trivial
end
end Go.Abs
namespace Go.Abs
open Go.RowKit
def upd (φ:Nat→Loc) (k:Nat) (l:Loc):Nat→Loc:=fun j=>if j=k then l else φ j
theorem upd_same (φ:Nat→Loc) (k:Nat) (l:Loc):upd φ k l k=l:=by simp[upd]
theorem upd_other {φ:Nat→Loc} {k j:Nat} (l:Loc) (h:j≠k):upd φ k l j=φ j:=by simp[upd,h]
section
variable {S S':Addr→Prop} {φ φ':Nat→Loc} {h:List Blk} {w w':World}
theorem heap_lt {w:World} {b:Nat} {o:Obj} (h:w.heap[b]?=some o):b<w.heap.size:=(Array.getElem?_eq_some_iff.1 h).1
theorem RB.keep {k:Nat} {x:Blk} (hb:RB S w φ k x) (hw:∀ b,b<w.heap.size→blockOf (φ k) x=some b→w'.heap[b]?=w.heap[b]?)
  (hS:∀ a,S a→S' a) (hc:∀ a,S a→w'.cell? a=w.cell? a) (hφ:∀ k,(φ k).le (φ' k)) (hk:φ' k=φ k)
  (hn:∀ a,S' a→S a∨∀ b,blockOf (φ k) x=some b→b<w.heap.size→a.block≠b):RB S' w' φ' k x:=by
 cases x with
 | cells t cs =>
  obtain⟨b,vs,h1,h2,h3,h4,h5⟩:=hb
  have ho:blockOf (φ k) (.cells t cs)=some b:=by rw[h1];rfl
  refine⟨b,vs,hk.trans h1,(hw b (heap_lt h2) ho).trans h2,h3.mono hS hc hφ,h4,fun a ha=>?_⟩
  rcases hn a ha with g|g
  ·
   exact h5 a g
  ·
   exact g b ho (heap_lt h2)
 | tok e sz n =>
  obtain⟨u,h1,h2⟩:=hb
  refine⟨u,hk.trans h1,?_⟩
  rcases h2 with h2|h2|⟨b,cap,vs,g1,g2,rfl,g4,g5,g6⟩
  ·
   exact .inl h2
  ·
   exact .inr (.inl h2)
  ·
   have ho:blockOf (φ k) (.tok e sz n)=some b:=by rw[h1];simp[blockOf];omega
   refine .inr (.inr ⟨b,cap,vs,g1,g2,rfl,(hw b (heap_lt g4) ho).trans g4,g5,fun a ha hab=>?_⟩)
   rcases hn a ha with g|g
   ·
    exact g6 a g hab
   ·
    exact absurd hab (g b ho (heap_lt g4))
 | cut e sz n=>obtain⟨u,h1,h2⟩:=hb;exact⟨u,hk.trans h1,h2⟩
 | own e sz es =>
  obtain⟨u,h1,h2,h3⟩:=hb
  refine⟨u,hk.trans h1,h2,?_⟩
  rcases h3 with h3|⟨b,cap,vs,g1,g2,rfl,g4,g5,g6,g7,g8⟩
  ·
   exact .inl h3
  ·
   have ho:blockOf (φ k) (.own e sz es)=some b:=by rw[h1];rfl
   refine .inr ⟨b,cap,vs,g1,g2,rfl,(hw b (heap_lt g4) ho).trans g4,g5,fun j c hj=>?_,fun a ha=>?_,g8⟩
   ·
    obtain⟨x,q1,q2,q3⟩:=g6 j c hj
    exact⟨x,q1,q2.mono hS hc hφ,q3⟩
   ·
    rcases hn a ha with g|g
    ·
     exact g7 a g
    ·
     exact g b ho (heap_lt g4)
 | mp kk n f =>
  obtain⟨b,es,clock,h1,h2,h3,h4,h5⟩:=hb
  have ho:blockOf (φ k) (.mp kk n f)=some b:=by rw[h1];rfl
  refine⟨b,es,clock,hk.trans h1,(hw b (heap_lt h2) ho).trans h2,h3,h4.mono hS hc hφ,fun a ha=>?_⟩
  rcases hn a ha with g|g
  ·
   exact h5 a g
  ·
   exact g b ho (heap_lt h2)
 | it b p =>
  obtain⟨l,h1,h2,h4⟩:=hb
  have ho:blockOf (φ k) (.it b p)=some l:=by rw[h1];rfl
  refine⟨l,hk.trans h1,(hw l (heap_lt h2) ho).trans h2,fun a ha=>?_⟩
  rcases hn a ha with g|g
  ·
   exact h4 a g
  ·
   exact g l ho (heap_lt h2)
 | lp l st pe ps x y s =>
  obtain⟨h1,fn,tmps,D,h2,h3,h4⟩:=hb
  have ho:blockOf (φ k) (.lp l st pe ps x y s)=some l:=by rw[h1];rfl
  refine⟨hk.trans h1,fn,tmps,D,(hw l (heap_lt h2) ho).trans h2,h3.mono hS hc hφ,fun a ha=>?_⟩
  rcases hn a ha with g|g
  ·
   exact h4 a g
  ·
   exact g l ho (heap_lt h2)
 | dead=>trivial
theorem owned_lt {k:Nat} {x:Blk} (hb:RB S w φ k x) {b:Nat} (ho:blockOf (φ k) x=some b):b<w.heap.size:=by
 cases x with
 | cells t cs =>
  obtain⟨b',vs,h1,h2,_⟩:=hb
  rw[h1] at ho
  cases ho
  exact heap_lt h2
 | tok e sz n =>
  obtain⟨u,h1,h2⟩:=hb
  rw[h1] at ho
  rcases h2 with ⟨rfl,_⟩|⟨a,rfl⟩|⟨b',cap,vs,g1,g2,rfl,g4,_⟩
  ·
   simp[blockOf] at ho
  ·
   simp[blockOf] at ho
  ·
   simp only[blockOf] at ho
   rw[if_neg (by omega)] at ho
   cases ho
   exact heap_lt g4
 | own e sz es =>
  obtain⟨u,h1,h2,h3⟩:=hb
  rw[h1] at ho
  rcases h3 with ⟨rfl,_⟩|⟨b',cap,vs,g1,g2,rfl,g4,_⟩
  ·
   simp[blockOf] at ho
  ·
   simp only[blockOf] at ho
   cases ho
   exact heap_lt g4
 | mp kk n f =>
  obtain⟨b',es,clock,h1,h2,_⟩:=hb
  rw[h1] at ho
  cases ho
  exact heap_lt h2
 | lp l st pe ps x y s =>
  obtain⟨h1,fn,tmps,D,h2,_⟩:=hb
  rw[h1] at ho
  cases ho
  exact heap_lt h2
 | it b p =>
  obtain⟨l,h1,h2,_⟩:=hb
  rw[h1] at ho
  cases ho
  exact heap_lt h2
 | cut e sz n=>cases hl:φ k<;>simp[blockOf] at ho
 | dead=>cases hl:φ k<;>simp[blockOf] at ho
theorem cell_of_heap {a:Addr} (h:w'.heap[a.block]?=w.heap[a.block]?):w'.cell? a=w.cell? a:=by simp[World.cell?,h]
theorem R.push (r:R S φ h w) {l:Loc} {x:Blk} (hos:w'.os=w.os) (htape:w'.tape=w.tape) (hout:w'.output=w.output) (hsize:w.heap.size≤w'.heap.size)
  (hw:∀ b,b<w.heap.size→w'.heap[b]?=w.heap[b]?) (hS:∀ a,S a→S' a) (hn:∀ a,S' a→S a∨w.heap.size≤a.block) (hbnd:∀ a,S' a→a.block<w'.heap.size)
  (hb:RB S' w' (upd φ h.length l) h.length x) (ho:∀ b,blockOf l x=some b→w.heap.size≤b) :
  R S' (upd φ h.length l) (h++[x]) w'∧Ext S φ h w S' (upd φ h.length l) (h++[x]) w':=by
 have hfr:φ h.length=.no:=r.fresh _ (Nat.le_refl _)
 have hle:∀ k,(φ k).le (upd φ h.length l k):=by
  intro k
  by_cases e:k=h.length
  ·
   subst e;rw[hfr];trivial
  ·
   rw[upd_other _ e];exact Loc.le_refl _
 have hc:∀ a,S a→w'.cell? a=w.cell? a:=fun a ha=>cell_of_heap (hw _ (r.bnd a ha))
 have hold:∀(k:Nat) y,(h++[x])[k]?=some y→(k<h.length∧h[k]?=some y)∨(k=h.length∧y=x):=by
  intro k y hk
  rw[List.getElem?_append] at hk
  split at hk
  ·
   rename_i hlt;exact .inl ⟨hlt,hk⟩
  ·
   have:=lookupD hk
   simp at this
   have e:k-h.length=0:=by omega
   rw[e] at hk
   simp at hk
   exact .inr ⟨by omega,hk.symm⟩
 have howns:∀(k:Nat) y b,(h++[x])[k]?=some y→blockOf (upd φ h.length l k) y=some b→(k<h.length∧h[k]?=some y∧blockOf (φ k) y=some b∧b<w.heap.size)∨(k=h.length∧w.heap.size≤b):=by
  intro k y b hk hbk
  rcases hold k y hk with ⟨hlt,hk'⟩|⟨rfl,rfl⟩
  ·
   rw[upd_other _ (by omega)] at hbk
   exact .inl ⟨hlt,hk',hbk,owned_lt (r.blk k y hk') hbk⟩
  ·
   rw[upd_same] at hbk
   exact .inr ⟨rfl,ho b hbk⟩
 have hE:Ext S φ h w S' (upd φ h.length l) (h++[x]) w':=by
  refine⟨hos,htape,hout,hsize,fun b hb _=>hw b hb,hS,hc,hle,fun a ha=>?_,fun b hb=>?_⟩
  ·
   rcases hn a ha with g|g
   ·
    exact .inl g
   ·
    exact .inr (.inl g)
  ·
   obtain⟨k,y,hk,hbk⟩:=hb
   rcases howns k y b hk hbk with ⟨h1,h2,h3,h4⟩|⟨h1,h2⟩
   ·
    exact .inl ⟨k,y,h2,h3⟩
   ·
    exact .inr h2
 refine⟨⟨fun k y hk=>?_,fun k k' y y' b hk hk' hb1 hb2=>?_,hbnd,fun k hk=>?_,r.tab.ext hE⟩,hE⟩
 ·
  rcases hold k y hk with ⟨hlt,hk'⟩|⟨rfl,rfl⟩
  ·
   refine(r.blk k y hk').keep (fun b hb _=>hw b hb) hS hc hle (upd_other _ (by omega)) (fun a ha=>?_)
   rcases hn a ha with g|g
   ·
    exact .inl g
   ·
    exact .inr fun b _ hb=>by omega
  ·
   exact hb
 ·
  rcases howns k y b hk hb1 with ⟨h1,h2,h3,h4⟩|⟨h1,h2⟩<;>rcases howns k' y' b hk' hb2 with ⟨g1,g2,g3,g4⟩|⟨g1,g2⟩
  ·
   exact r.inj k k' y y' b h2 g2 h3 g3
  ·
   omega
  ·
   omega
  ·
   omega
 ·
  rw[List.length_append,List.length_singleton] at hk
  rw[upd_other _ (by omega)]
  exact r.fresh k (by omega)
theorem R.put (r:R S φ h w) {k:Nat} {y x:Blk} {l:Loc} (hk:h[k]?=some y) (hos:w'.os=w.os) (htape:w'.tape=w.tape) (hout:w'.output=w.output) (hsize:w.heap.size≤w'.heap.size)
  (hw:∀ b,b<w.heap.size→blockOf (φ k) y≠some b→w'.heap[b]?=w.heap[b]?) (hS:∀ a,S a→S' a) (hc:∀ a,S a→w'.cell? a=w.cell? a)
  (hn:∀ a,S' a→S a∨w.heap.size≤a.block∨blockOf (φ k) y=some a.block) (hbnd:∀ a,S' a→a.block<w'.heap.size) (hl:(φ k).le l)
  (hb:RB S' w' (upd φ k l) k x) (ho:∀ b,blockOf l x=some b→w.heap.size≤b∨blockOf (φ k) y=some b) :
  R S' (upd φ k l) (h.set k x) w'∧Ext S φ h w S' (upd φ k l) (h.set k x) w':=by
 have hlt:k<h.length:=lookupD hk
 have hle:∀ j,(φ j).le (upd φ k l j):=by
  intro j
  by_cases e:j=k
  ·
   subst e;rw[upd_same];exact hl
  ·
   rw[upd_other _ e];exact Loc.le_refl _
 have hold:∀(j:Nat) z,(h.set k x)[j]?=some z→(j≠k∧h[j]?=some z)∨(j=k∧z=x):=by
  intro j z hj
  rw[List.getElem?_set] at hj
  by_cases e:k=j
  ·
   subst e;simp[hlt] at hj;exact .inr ⟨rfl,hj.symm⟩
  ·
   rw[if_neg e] at hj;exact .inl ⟨fun e'=>e e'.symm,hj⟩
 have howns:∀(j:Nat) z b,(h.set k x)[j]?=some z→blockOf (upd φ k l j) z=some b→(j≠k∧h[j]?=some z∧blockOf (φ j) z=some b∧b<w.heap.size)∨(j=k∧(w.heap.size≤b∨blockOf (φ k) y=some b)):=by
  intro j z b hj hbj
  rcases hold j z hj with ⟨hne,hj'⟩|⟨rfl,rfl⟩
  ·
   rw[upd_other _ hne] at hbj
   exact .inl ⟨hne,hj',hbj,owned_lt (r.blk j z hj') hbj⟩
  ·
   rw[upd_same] at hbj
   exact .inr ⟨rfl,ho b hbj⟩
 have hE:Ext S φ h w S' (upd φ k l) (h.set k x) w':=by
  refine⟨hos,htape,hout,hsize,fun b hb hno=>hw b hb (fun e=>hno ⟨k,y,hk,e⟩),hS,hc,hle,fun a ha=>?_,fun b hb=>?_⟩
  ·
   rcases hn a ha with g|g|g
   ·
    exact .inl g
   ·
    exact .inr (.inl g)
   ·
    exact .inr (.inr ⟨k,y,hk,g⟩)
  ·
   obtain⟨j,z,hj,hbj⟩:=hb
   rcases howns j z b hj hbj with ⟨h1,h2,h3,h4⟩|⟨h1,h2|h2⟩
   ·
    exact .inl ⟨j,z,h2,h3⟩
   ·
    exact .inr h2
   ·
    exact .inl ⟨k,y,hk,h2⟩
 refine⟨⟨fun j z hj=>?_,fun j j' z z' b hj hj' hb1 hb2=>?_,hbnd,fun j hj=>?_,r.tab.ext hE⟩,hE⟩
 ·
  rcases hold j z hj with ⟨hne,hj'⟩|⟨rfl,rfl⟩
  ·
   refine(r.blk j z hj').keep (fun b hb hbo=>hw b hb (fun e=>hne (r.inj j k z y b hj' hk hbo e))) hS hc hle (upd_other _ hne) (fun a ha=>?_)
   rcases hn a ha with g|g|g
   ·
    exact .inl g
   ·
    exact .inr fun b _ hb=>by omega
   ·
    exact .inr fun b hbo _ e=>hne (r.inj j k z y b hj' hk hbo (by rw[← e];exact g))
  ·
   exact hb
 ·
  rcases howns j z b hj hb1 with ⟨h1,h2,h3,h4⟩|⟨h1,h2⟩<;>rcases howns j' z' b hj' hb2 with ⟨g1,g2,g3,g4⟩|⟨g1,g2⟩
  ·
   exact r.inj j j' z z' b h2 g2 h3 g3
  ·
   rcases g2 with g2|g2
   ·
    omega
   ·
    exact absurd (r.inj j k z y b h2 hk h3 g2) h1
  ·
   rcases h2 with h2|h2
   ·
    omega
   ·
    exact absurd (r.inj j' k z' y b g2 hk g3 h2) g1
  ·
   omega
 ·
  rw[List.length_set] at hj
  rw[upd_other _ (by omega)]
  exact r.fresh j hj
end
end Go.Abs
namespace Go.Abs
open Go.RowKit
inductive HR where
 | ok (v:AV) (h:List Blk)
 | side (p:Prop) (v:AV) (h:List Blk)
 | bad
def inOrder:Nat→List (Nat × Operand)→Bool
 | _,[]=>true
 | n,(i,_)::r=>match decide (i=n) with|true=>inOrder (n+1) r|false=>false
def allOf (sz:Nat):List AV→Bool
 | []=>true
 | e::es=>match decide (e.cells.length=sz),e.cells.all AV.one with|true,true=>allOf sz es|_,_=>false
def appendAV (e:TypeId) (sz:Nat) (h:List Blk):AV→AV→HR
 | .raw (.slice none 0 0),.lst sz' xs _=>match decide (sz'=sz) with
  | true=>.side (xs.length≤4294967296) (.lst sz xs (some h.length)) (h++[.tok e sz xs.length])
  | false=>.bad
 | .own sz'' k n,.lst sz' xs _=>match decide (sz'=sz),decide (sz''=sz),h[k]? with
  | true,true,some (.own e' sz0 es)=>match decide (sz0=sz),decide (e'=e) with
   | true,true=>.side (n=es.length∧es.length+xs.length≤4294967296) (.own sz k (es++xs).length) (h.set k (.own e sz (es++xs)))
   | _,_=>.bad
  | _,_,_=>.bad
 | .lst sz'' es (some k),.lst sz' xs _=>match decide (sz'=sz),decide (sz''=sz),h[k]? with
  | true,true,some (.tok e' sz0 n)=>match decide (sz0=sz),decide (e'=e) with
   | true,true=>.side (n=es.length∧es.length+xs.length≤4294967296) (.lst sz (es++xs) (some k)) (h.set k (.tok e sz (es++xs).length))
   | _,_=>.bad
  | true,true,some (.cut e' sz0 n)=>match decide (sz0=sz),decide (e'=e) with
   | true,true=>.side (n=es.length∧es.length+xs.length≤4294967296) (.lst sz (es++xs) (some h.length)) (h++[.tok e sz (es++xs).length])
   | _,_=>.bad
  | _,_,_=>.bad
 | .lst sz'' es (some k),.raw (.slice (some _) 0 c)=>match decide (sz''=sz),h[k]? with
  | true,some (.tok e' sz0 n)=>match decide (sz0=sz),decide (e'=e) with
   | true,true=>.side (n=es.length∧es.length≤4294967296∧c≤maxLen) (.lst sz (es++[]) (some k)) (h.set k (.tok e sz (es++[]).length))
   | _,_=>.bad
  | _,_=>.bad
 | _,_=>.bad
def strU (b:ByteArray):List AV:=b.data.toList.map fun c=>.raw (.int .u8 c.toNat)
def appendStr (e:TypeId) (h:List Blk):AV→AV→HR
 | .own sz k n,.raw (.string b)=>match decide (sz=1),h[k]? with
  | true,some (.own e' sz0 es)=>match decide (sz0=1),decide (e'=e) with
   | true,true=>.side (n=es.length∧0<b.size∧es.length+b.size≤4294967296) (.own 1 k (es++strU b).length) (h.set k (.own e 1 (es++strU b)))
   | _,_=>.bad
  | _,_=>.bad
 | _,_=>.bad
def isZ8:List Value→Bool
 | [.int .u8 n]=>decide (n=0)
 | _=>false
def mapKK (x:TI):Option KK :=
 match x.kind with
 | .string=>some .str
 | .int .i64=>some .int
 | _=>none
def kkEq:KK→KK→Bool
 | .str,.str|.int,.int=>true
 | _,_=>false
theorem kkEq_eq {a b:KK} (h:kkEq a b=true):a=b:=by cases a<;>cases b<;>simp_all [kkEq]
def mput (f:Value→Option AV) (key:Value) (v:AV):Value→Option AV:=fun x=>match keyEq x key with|true=>some v|false=>f x
def mcut (f:Value→Option AV) (key:Value):Value→Option AV:=fun x=>match keyEq x key with|true=>none|false=>f x
def more (o:Option AV) (n:Nat):Nat:=match o with|some _=>n|none=>n+1
def less (o:Option AV) (n:Nat):Nat:=match o with|some _=>n-1|none=>n
def orZ (o:Option AV) (z:AV):AV:=match o with|some v=>v|none=>z
def lookupAV (T:TypeId→TI) (h:List Blk) (kt vt:TypeId) (ok:Bool):AV→AV→HR
 | .map k,.raw key=>match h[k]?,mapKK (T kt),(T vt).zero,(T vt).agg,(T vt).kind with
  | _,_,_,_,.other=>.bad
  | some (.mp kk _ f),some kk',[z],false,_=>match kkEq kk kk',isKey kk key with
   | true,true=>match ok with
    | true=>.ok (.tup [orZ (f key) (.raw z),.raw (.bool (f key).isSome)]) h
    | false=>.ok (orZ (f key) (.raw z)) h
   | _,_=>.bad
  | _,_,_,_,_=>.bad
 | _,_=>.bad
def storeAV (T:TypeId→TI) (h:List Blk) (kt:TypeId):AV→AV→AV→HR
 | .map k,.raw key,v=>match h[k]?,mapKK (T kt),AV.tupFree v with
  | some (.mp kk n f),some kk',true=>match kkEq kk kk',isKey kk key with
   | true,true=>.ok (.tup []) (h.set k (.mp kk (more (f key) n) (mput f key v)))
   | _,_=>.bad
  | _,_,_=>.bad
 | _,_,_=>.bad
def deleteAV (T:TypeId→TI) (h:List Blk) (kt:TypeId):AV→AV→HR
 | .map k,.raw key=>match h[k]?,mapKK (T kt) with
  | some (.mp kk n f),some kk'=>match kkEq kk kk',isKey kk key with
   | true,true=>.ok (.tup []) (h.set k (.mp kk (less (f key) n) (mcut f key)))
   | _,_=>.bad
  | _,_=>.bad
 | _,_=>.bad
def lenMapAV (h:List Blk):AV→HR
 | .map k=>match h[k]? with
  | some (.mp _ n _)=>.ok (.raw (.int .i64 n)) h
  | _=>.bad
 | _=>.bad
def isZero:Operand→Bool
 | .const (.int _ n)=>n==0
 | _=>false
theorem isZero_eq {l:Operand} (h:isZero l=true):∃ k,l=.const (.int k 0):=by
 unfold isZero at h
 split at h
 ·
  rename_i k n
  simp at h
  subst h
  exact⟨k,rfl⟩
 ·
  cases h
def nextV (b:ByteArray) (p:Nat):Bool→AV
 | true=>.tup [.raw (.bool true),.raw (.int .i64 p),.raw (.int .i32 (Utf8.decode b p).1)]
 | false=>.tup [.raw (.bool false)]
def nextB (b:ByteArray) (p:Nat):Bool→Blk
 | true=>.it b (p+(Utf8.decode b p).2)
 | false=>.it b p
def stepHeap (T:TypeId→TI) (s:List AV) (h:List Blk):Op→HR
 | .box t x=>match (opd s x).cells.all AV.one with
  | true=>.ok (.ptr h.length 0) (h++[.cells t (opd s x).cells])
  | false=>.bad
 | .alloc t=>match (T t).kind with
  | .other=>.bad
  | _=>.ok (.ptr h.length 0) (h++[.cells t ((T t).zero.map .raw)])
 | .store t a x=>match (T t).kind with
  | .other=>.bad
  | _=>match opd s a with
   | .ptr k off=>match h[k]? with
    | some (.cells t' cs)=>match decide ((opd s x).cells.length=(T t).size),decide (off+(T t).size≤cs.length),(opd s x).cells.all AV.one with
     | true,true,true=>.ok (.tup []) (h.set k (.cells t' (putAt cs off (opd s x).cells)))
     | _,_,_=>.bad
    | _=>.bad
   | _=>.bad
 | .buildSlice t len parts=>match (T t).kind with
  | .slice e=>match (T e).kind with
   | .other=>.bad
   | _=>match decide (parts.toList.length=len),inOrder 0 parts.toList,allOf (T e).size (parts.toList.map fun p=>opd s p.2),decide (len * (T e).size≤16777216),decide (0<(T e).size) with
    | true,true,true,true,true=>.ok (.lst (T e).size (parts.toList.map fun p=>opd s p.2) (some h.length)) (h++[.tok e (T e).size len])
    | _,_,_,_,_=>.bad
  | _=>.bad
 | .call { callee:=.builtin .append,args,argTypes }=>match args.toList,argTypes.toList with
  | [x,y],[t,u]=>match decide (t=u),(T t).kind with
   | true,.slice e=>match (T e).kind with
    | .other=>.bad
    | _=>match decide (0<(T e).size),decide ((T e).bytes≤32768) with
     | true,true=>appendAV e (T e).size h (opd s x) (opd s y)
     | _,_=>.bad
   | false,.slice e=>match (T u).kind,(T e).kind with
    | _,.other=>.bad
    | .string,_=>match (T e).agg,decide ((T e).size=1),decide ((T e).bytes=1),isZ8 (T e).zero with
     | false,true,true,true=>appendStr e h (opd s x) (opd s y)
     | _,_,_,_=>.bad
    | _,_=>.bad
   | _,_=>.bad
  | _,_=>.bad
 | .makeSlice t l c=>match isZero l with
  | true=>match (T t).kind,opd s c with
   | .slice e,.raw (.int _ n)=>match (T e).kind with
    | .other=>.bad
    | _=>match decide ((T e).bytes≤32768) with
     | true=>.side (0≤n∧n≤4294967296) (.lst (T e).size [] (some h.length)) (h++[.tok e (T e).size 0])
     | false=>.bad
   | _,_=>.bad
  | false=>match (T t).kind,opd s l,opd s c with
   | .slice e,.raw (.int _ n),.raw (.int _ m)=>match (T e).kind with
    | .other=>.bad
    | _=>match decide ((T e).bytes≤32768),(T e).zero with
     | true,[z]=>.side (n=m∧0≤n∧n≤4294967296) (.sl 1 h.length 0 n.toNat) (h++[.cells e (List.replicate n.toNat (.raw z))])
     | _,_=>.bad
   | _,_,_=>.bad
 | .slice t x lo (some hi) (some mx)=>match (T t).kind with
  | .slice e=>match (T e).kind with
   | .other=>.bad
   | _=>match opd s x,lo.map (opd s),opd s hi,opd s mx with
    | .lst sz es _,none,.raw (.int _ n),.raw (.int _ m)=>match decide ((T e).size=sz) with
     | true=>.side (n=m∧0≤n∧n≤es.length) (.lst sz (es.take n.toNat) (some h.length)) (h++[.cut e sz n.toNat])
     | false=>.bad
    | _,_,_,_=>.bad
  | _=>.bad
 | .range t x=>match (T t).kind,opd s x with
  | .string,.raw (.string b)=>.ok (.ptr h.length 0) (h++[.it b 0])
  | _,_=>.bad
 | .next x str=>match str,opd s x with
  | true,.ptr k 0=>match h[k]? with
   | some (.it b p)=>.ok (nextV b p (decide (p<b.size))) (h.set k (nextB b p (decide (p<b.size))))
   | _=>.bad
  | _,_=>.bad
 | .makeMap t none=>match (T t).kind with
  | .map kt _=>match mapKK (T kt) with
   | some kk=>.ok (.map h.length) (h++[.mp kk 0 (fun _=>none)])
   | none=>.bad
  | _=>.bad
 | .lookup t x i ok=>match (T t).kind with
  | .map kt vt=>lookupAV T h kt vt ok (opd s x) (opd s i)
  | _=>.bad
 | .mapUpdate t m k v=>match (T t).kind with
  | .map kt _=>storeAV T h kt (opd s m) (opd s k) (opd s v)
  | _=>.bad
 | .call { callee:=.builtin .delete,args,argTypes }=>match args.toList,argTypes.toList with
  | [x,y],[t,_]=>match (T t).kind with
   | .map kt _=>deleteAV T h kt (opd s x) (opd s y)
   | _=>.bad
  | _,_=>.bad
 | .call { callee:=.builtin .len,args,argTypes }=>match args.toList,argTypes.toList with
  | [x],[t]=>match (T t).kind with
   | .map _ _=>lenMapAV h (opd s x)
   | _=>.bad
  | _,_=>.bad
 | _=>.bad
def HSound (S:Addr→Prop) (φ:Nat→Loc) (h:List Blk) (w:World) (run:Result Next) (v:AV) (h':List Blk):Prop :=
 ∃ u w' S' φ',(run=.ok (.value u) w'∨run=.ok .skip w'∧u=undef)∧C S' w' φ' v u∧R S' φ' h' w'∧Ext S φ h w S' φ' h' w'
def HR.sound (S:Addr→Prop) (φ:Nat→Loc) (h:List Blk) (w:World) (run:Result Next):HR→Prop
 | .ok v h'=>HSound S φ h w run v h'
 | .side p v h'=>p→HSound S φ h w run v h'
 | .bad=>True
section
variable {P:Program} {T:TypeId→TI} {S:Addr→Prop} {φ:Nat→Loc} {h:List Blk} {w:World} {s:List AV} {a:Act}
theorem ones {cs:List AV} {vs:Array Value} (hc:CAll S w φ cs vs) (h1:cs.all AV.one=true):∀ v∈vs.toList,v.oneCell'=true:=by
 intro x hx
 obtain⟨k,hk,hkx⟩:=List.getElem_of_mem hx
 have hk':vs[k]?=some x:=by rw[← hkx];simp
 have hkl:k<cs.length:=by rw[← hc.1];simpa using hk
 exact(hc.2 k _ x (List.getElem?_eq_getElem hkl) hk').one (List.all_eq_true.1 h1 _ (List.getElem_mem _))
theorem noTup {v:AV} (h1:v.cells.all AV.one=true):∀ cs,v≠.tup cs:=by
 intro cs e
 subst e
 simp[AV.cells,AV.one] at h1
theorem alloc_heap (w:World) (o:Obj) (b:Nat) (hb:b<w.heap.size):(w.alloc o).heap[b]?=w.heap[b]?:=Below.heap_alloc w o b hb
theorem push_cells (hr:R S φ h w) {cs:List AV} {vs:Array Value} (hc:CAll S w φ cs vs) (h1:∀ v∈vs.toList,v.oneCell'=true) (t:TypeId) (w0:World) (hw0:w0=w∨w0=w.drew) :
  R S (upd φ h.length (.obj w.heap.size)) (h++[.cells t cs]) (w0.alloc (.cells vs t))∧Ext S φ h w S (upd φ h.length (.obj w.heap.size)) (h++[.cells t cs]) (w0.alloc (.cells vs t)):=by
 have hh:w0.heap=w.heap:=by rcases hw0 with rfl|rfl<;>rfl
 have hfr:φ h.length=.no:=hr.fresh _ (Nat.le_refl _)
 have hkeep:∀ b,b<w.heap.size→(w0.alloc (.cells vs t)).heap[b]?=w.heap[b]?:=fun b hb=>by rw[alloc_heap _ _ _ (by rw[hh];exact hb),hh]
 refine hr.push ?_ ?_ ?_ (by simp[hh]) hkeep (fun _ h=>h) (fun _ h=>.inl h) (fun a ha=>by have:=hr.bnd a ha;simp[hh];omega) ⟨w.heap.size,vs,upd_same _ _ _,?_,?_,h1,fun a ha e=>?_⟩ (fun b hb=>?_)
 ·
  rcases hw0 with rfl|rfl<;>rfl
 ·
  rcases hw0 with rfl|rfl<;>rfl
 ·
  rcases hw0 with rfl|rfl<;>rfl
 ·
  rw[← hh];exact heap_alloc_new w0 _
 ·
  refine hc.mono (fun _ h=>h) (fun a ha=>cell_of_heap (hkeep _ (hr.bnd a ha))) (fun k=>?_)
  by_cases e:k=h.length
  ·
   subst e;rw[hfr];trivial
  ·
   rw[upd_other _ e];exact Loc.le_refl _
 ·
  have:=hr.bnd a ha;omega
 ·
  cases hb;exact Nat.le_refl _
theorem push_tok (hr:R S φ h w) {es:List AV} {sz:Nat} {vs:Array Value} (hsz:∀ e∈es,e.cells.length=sz) (cap:Nat) (hcap:es.length≤cap) (hmax:cap≤maxLen) (hvs:vs.size=cap * sz)
  (hc:∀(j:Nat) c,(flat es)[j]?=some c→∃ u,vs[j]?=some u∧C S w φ c u∧u.oneCell'=true) (e:TypeId) (w0:World) (hw0:w0=w∨w0=w.drew) :
  ∃ S',C S' (w0.alloc (.cells vs e)) (upd φ h.length (.tok es.length (.slice (some ⟨w.heap.size,0,none⟩) es.length cap))) (.lst sz es (some h.length)) (.slice (some ⟨w.heap.size,0,none⟩) es.length cap) ∧
   R S' (upd φ h.length (.tok es.length (.slice (some ⟨w.heap.size,0,none⟩) es.length cap))) (h++[.tok e sz es.length]) (w0.alloc (.cells vs e)) ∧
   Ext S φ h w S' (upd φ h.length (.tok es.length (.slice (some ⟨w.heap.size,0,none⟩) es.length cap))) (h++[.tok e sz es.length]) (w0.alloc (.cells vs e)):=by
 have hh:w0.heap=w.heap:=by rcases hw0 with rfl|rfl<;>rfl
 have hfr:φ h.length=.no:=hr.fresh _ (Nat.le_refl _)
 have hkeep:∀ b,b<w.heap.size→(w0.alloc (.cells vs e)).heap[b]?=w.heap[b]?:=fun b hb=>by rw[alloc_heap _ _ _ (by rw[hh];exact hb),hh]
 have hnew:(w0.alloc (.cells vs e)).heap[w.heap.size]?=some (.cells vs e (0,0)):=by rw[← hh];exact heap_alloc_new w0 _
 have hfl:=flat_length hsz
 let S':Addr→Prop:=fun a=>S a∨(a.block=w.heap.size∧a.off<es.length * sz∧a.spot=none)
 have hadd:∀ j,(⟨w.heap.size,0,none⟩:Addr).add j=⟨w.heap.size,j,none⟩:=by intro j;unfold Addr.add;split<;>simp_all
 have hmono:∀ {c u},C S w φ c u→C S' (w0.alloc (.cells vs e)) (upd φ h.length (.tok es.length (.slice (some ⟨w.heap.size,0,none⟩) es.length cap))) c u:=by
  intro c u hcu
  refine hcu.mono (fun _ h=>.inl h) (fun a ha=>cell_of_heap (hkeep _ (hr.bnd a ha))) (fun k=>?_)
  by_cases ek:k=h.length
  ·
   subst ek;rw[hfr];trivial
  ·
   rw[upd_other _ ek];exact Loc.le_refl _
 obtain⟨us,hul,hu⟩:=exists_vals (flat es) hc
 have key:∀(j:Nat) c,(flat es)[j]?=some c→vs[j]?=some (us.getD j undef)∧C S w φ c (us.getD j undef)∧(us.getD j undef).oneCell'=true:=by
  intro j c hj
  have hj':j<us.length:=by rw[hul];exact lookupD hj
  have e:us[j]?=some (us.getD j undef):=by rw[List.getD_eq_getElem?_getD,List.getElem?_eq_getElem hj'];rfl
  exact hu j c _ hj e
 have hpush:=hr.push (l:=.tok es.length (.slice (some ⟨w.heap.size,0,none⟩) es.length cap)) (x:=.tok e sz es.length) (S':=S') (w':=w0.alloc (.cells vs e))
  (by rcases hw0 with rfl|rfl<;>rfl) (by rcases hw0 with rfl|rfl<;>rfl) (by rcases hw0 with rfl|rfl<;>rfl) (by simp[hh]) hkeep (fun _ h=>.inl h)
  (fun a ha=>by rcases ha with ha|ha;exact .inl ha;exact .inr (by omega)) (fun a ha=>by
   rcases ha with ha|ha
   ·
    have:=hr.bnd a ha;simp[hh];omega
   ·
    simp[hh];omega)
  (by
   refine⟨_,upd_same _ _ _,?_⟩
   rcases Nat.lt_or_ge es.length cap with hlt|hge
   ·
    refine .inr (.inr ⟨w.heap.size,cap,vs,hlt,hmax,rfl,hnew,hvs,fun a ha hab=>?_⟩)
    rcases ha with ha|ha
    ·
     have:=hr.bnd a ha;omega
    ·
     exact ha.2.1
   ·
    have:cap=es.length:=by omega
    subst this
    exact .inr (.inl ⟨_,rfl⟩))
  (fun b hb=>by
   simp only[blockOf] at hb
   split at hb
   ·
    cases hb
   ·
    cases hb;exact Nat.le_refl _)
 refine⟨S',.lst _ _ _ _ _ _ (fun j=>us.getD j undef) rfl hcap hmax hsz (fun j c hj=>⟨?_,.inr ?_⟩) (fun j c hj=>hmono (key j c hj).2.1) (fun j c hj=>(key j c hj).2.2) ⟨_,_,upd_same _ _ _,Nat.le_refl _,fun _=>rfl⟩,hpush⟩
 ·
  rw[hadd]
  simp only[World.cell?,hnew]
  simp only[Option.isSome_none,Bool.false_eq_true,if_false]
  exact(key j c hj).1
 ·
  rw[hadd]
  exact⟨rfl,by have:=lookupD hj;rw[hfl] at this;exact this,rfl⟩
end
end Go.Abs
namespace Go.Abs
open Go.RowKit
section
variable {P:Program} {T:TypeId→TI} {S:Addr→Prop} {φ:Nat→Loc} {h:List Blk} {w:World} {s:List AV} {a:Act}
theorem putAt_get:∀(new cs:List AV) (off i:Nat),off+new.length≤cs.length→(putAt cs off new)[i]?=if off≤i∧i<off+new.length then new[i-off]? else cs[i]?
 | [],cs,off,i,_=>by
  rw[if_neg (by simp)]
  rfl
 | c::new,cs,off,i,hl=>by
  simp only[List.length_cons] at hl
  simp only[putAt]
  rw[putAt_get new (cs.set off c) (off+1) i (by rw[List.length_set];omega)]
  simp only[List.length_cons]
  by_cases h1:i=off
  ·
   subst h1
   rw[if_neg (by omega),if_pos (by omega),List.getElem?_set_self (by omega)]
   simp
  ·
   by_cases h2:off+1≤i∧i<off+1+new.length
   ·
    rw[if_pos h2,if_pos (by omega)]
    have:i-off=(i-(off+1))+1:=by omega
    rw[this,List.getElem?_cons_succ]
   ·
    rw[if_neg h2,if_neg (by omega),List.getElem?_set_ne (by omega)]
theorem putAt_length:∀(new cs:List AV) (off:Nat),(putAt cs off new).length=cs.length
 | [],_,_=>rfl
 | c::new,cs,off=>by simp only[putAt];rw[putAt_length new];simp
theorem run_storeAt {t:TypeId} (hT:TIok P t (T t)) (hk:(T t).kind≠.other) {b off:Nat} {t':TypeId} {cur:Array Value} {v:Value} (hg:w.heap[b]?=some (.cells cur t' (0,0))) (hsz:v.cells.size=(T t).size)
  (hl:off+v.cells.size≤cur.size) (h1:∀ x∈v.cells.toList,x.oneCell'=true) :
  (Instr.storeAt t (.pointer (some ⟨b,off,none⟩)) v).run P w=.ok () (w.setRow b (cur.toList.take off++v.cells.toList++cur.toList.drop (off+v.cells.size)).toArray):=by
 have:=run_storeCells_at P b off t' v.cells.toList 0 cur w hg (by simpa using hl) h1
 simp only[Instr.storeAt,Instr.sureAddr,storeVar,Sem.run_bind,Sem.run_pure,Result.andThen_ok,run_size hT hk]
 rw[if_neg (by simp[hsz])]
 simpa using this
theorem store_sound (hT:TabOK P T) (hs:CAll S w φ s a.tmps) (hr:R S φ h w) (dst:Option Tmp) (t:TypeId) (x y:Operand) (ty:TypeId) (pos:String) (af:Array Edge) (gd:Option (Nat × Bool)) :
  (stepHeap T s h (.store t x y)).sound S φ h w ((execOp a.eval ⟨dst,.store t x y,ty,pos,af,gd⟩).run P w):=by
 simp only[stepHeap]
 split
 ·
  trivial
 ·
  rename_i hk
  have hx:=C.opd hs x
  have hy:=C.opd hs y
  split
  ·
   rename_i k off hxe
   rw[hxe] at hx
   split
   ·
    rename_i t' cs hkb
    split
    ·
     rename_i g1 g2 g3
     have g1:=of_decide_eq_true g1
     have g2:=of_decide_eq_true g2
     have hcs:=hy.cells (noTup g3)
     have hones:=ones hcs g3
     generalize hvx:a.eval x=vx at hx
     cases hx with
     | ptr _ _ b hb =>
      have hrb:=hr.blk k _ hkb
      obtain⟨b',vs,e1,e2,e3,e4,e5⟩:=hrb
      rw[hb] at e1
      cases e1
      have esz:(a.eval y).cells.size=(T t).size:=by rw[hcs.1,g1]
      have ele:off+(a.eval y).cells.size≤vs.size:=by rw[esz,e3.1];exact g2
      have hrun:=run_storeAt (P:=P) (hT t) hk e2 esz ele hones
      have hnew:=setRow_heap w b vs (vs.toList.take off++(a.eval y).cells.toList++vs.toList.drop (off+(a.eval y).cells.size)).toArray t' (0,0) e2
      have hoth:=fun b'' (hne:b''≠b)=>setRow_other w b b'' (vs.toList.take off++(a.eval y).cells.toList++vs.toList.drop (off+(a.eval y).cells.size)).toArray hne
      have howner:blockOf (φ k) (.cells t' cs)=some b:=by rw[hb];rfl
      have hcell:∀ q,S q→(w.setRow b (vs.toList.take off++(a.eval y).cells.toList++vs.toList.drop (off+(a.eval y).cells.size)).toArray).cell? q=w.cell? q :=
       fun q hq=>cell_of_heap (hoth _ (e5 q hq))
      have hput:=hr.put (S':=S) (l:=φ k) (x:=.cells t' (putAt cs off (opd s y).cells)) (w':=w.setRow b (vs.toList.take off++(a.eval y).cells.toList++vs.toList.drop (off+(a.eval y).cells.size)).toArray) hkb rfl rfl rfl (by simp[World.setRow])
       (fun b'' _ hne=>hoth b'' (fun e=>hne (by rw[e];exact howner))) (fun _ h=>h) hcell (fun q hq=>.inl hq) (fun q hq=>by simpa[World.setRow] using hr.bnd q hq) (Loc.le_refl _)
       (by
        refine⟨b,_,?_,hnew,⟨?_,fun i c v hc hv=>?_⟩,fun v hv=>?_,e5⟩
        ·
         rw[upd_same];exact hb
        ·
         simp only[List.size_toArray,List.length_append,List.length_take,List.length_drop,Array.length_toList,putAt_length]
         rw[← e3.1];omega
        ·
         rw[putAt_get _ _ _ _ (by rw[g1];exact g2)] at hc
         have hmono:C S w φ c v→C S (w.setRow b (vs.toList.take off++(a.eval y).cells.toList++vs.toList.drop (off+(a.eval y).cells.size)).toArray) (upd φ k (φ k)) c v:=fun hcv =>
          hcv.mono (fun _ h=>h) hcell (fun j=>by
           by_cases e:j=k
           ·
            subst e;rw[upd_same];exact Loc.le_refl _
           ·
            rw[upd_other _ e];exact Loc.le_refl _)
         apply hmono
         simp only[List.getElem?_toArray,List.append_assoc] at hv
         rw[List.getElem?_append,List.length_take,Array.length_toList] at hv
         have hcl:(opd s y).cells.length=(a.eval y).cells.size:=hcs.1.symm
         split at hc
         ·
          rename_i hi
          rw[if_neg (by omega),List.getElem?_append,Array.length_toList] at hv
          have emin:min off vs.size=off:=by omega
          rw[emin,if_pos (by omega)] at hv
          exact hcs.2 _ c v hc (by simpa using hv)
         ·
          rename_i hi
          have hic:=lookupD hc
          rw[← e3.1] at hic
          by_cases hlt:i<off
          ·
           rw[if_pos (by omega),List.getElem?_take,if_pos hlt] at hv
           exact e3.2 i c v hc (by simpa using hv)
          ·
           have emin:min off vs.size=off:=by omega
           rw[emin,if_neg hlt,List.getElem?_append,Array.length_toList,if_neg (by omega),List.getElem?_drop] at hv
           have:off+(a.eval y).cells.size+(i-off-(a.eval y).cells.size)=i:=by omega
           rw[this] at hv
           exact e3.2 i c v hc (by simpa using hv)
        ·
         simp only[List.mem_append] at hv
         rcases hv with (hv|hv)|hv
         ·
          exact e4 v (List.mem_of_mem_take hv)
         ·
          exact hones v hv
         ·
          exact e4 v (List.mem_of_mem_drop hv))
       (fun q hq=>by
        rw[hb] at hq
        cases hq
        exact .inr howner)
      refine⟨undef,_,S,_,.inr ⟨?_,rfl⟩,C.undef_,hput.1,hput.2⟩
      simp[execOp,hvx,hrun]
    ·
     trivial
   ·
    trivial
  ·
   trivial
theorem box_sound (hs:CAll S w φ s a.tmps) (hr:R S φ h w) (dst:Option Tmp) (t:TypeId) (x:Operand) (ty:TypeId) (pos:String) (af:Array Edge) (gd:Option (Nat × Bool)) :
  (stepHeap T s h (.box t x)).sound S φ h w ((execOp a.eval ⟨dst,.box t x,ty,pos,af,gd⟩).run P w):=by
 simp only[stepHeap]
 split
 ·
  rename_i g
  have hx:=C.opd hs x
  have hcs:=hx.cells (noTup g)
  obtain⟨h1,h2⟩:=push_cells hr hcs (ones hcs g) t w (.inl rfl)
  exact⟨.pointer (some ⟨w.heap.size,0,none⟩),_,S,_,.inl (by simp[execOp,Instr.box,newVar,newRow,newObj,Sem.run]),.ptr _ _ _ (upd_same _ _ _),h1,h2⟩
 ·
  trivial
theorem alloc_sound (hT:TabOK P T) (hr:R S φ h w) (dst:Option Tmp) (t:TypeId) (ty:TypeId) (pos:String) (af:Array Edge) (gd:Option (Nat × Bool)) :
  (stepHeap T s h (.alloc t)).sound S φ h w ((execOp a.eval ⟨dst,.alloc t,ty,pos,af,gd⟩).run P w):=by
 simp only[stepHeap]
 split
 ·
  trivial
 ·
  rename_i hk
  obtain⟨i,z,hi,_,_,hz,hzc,_,_,hz1,_,_⟩:=(hT t).known hk
  have hcs:CAll S w φ ((T t).zero.map .raw) z.cells:=by
   have:=CAll.map_raw (S:=S) (w:=w) (φ:=φ) (T t).zero
   rw[← hzc] at this ⊢
   simpa using this
  obtain⟨h1,h2⟩:=push_cells hr hcs (by rw[hzc];exact hz1) t w (.inl rfl)
  exact⟨.pointer (some ⟨w.heap.size,0,none⟩),_,S,_,.inl (by simp[execOp,Instr.alloc,zeroValue,typeInfo,hi,hz,newVar,newRow,newObj,Sem.run]),.ptr _ _ _ (upd_same _ _ _),h1,h2⟩
end
end Go.Abs
namespace Go.Abs
open Go.RowKit
section
variable {P:Program} {T:TypeId→TI} {S:Addr→Prop} {φ:Nat→Loc} {h:List Blk} {w:World} {s:List AV} {a:Act}
theorem allOf_eq {sz:Nat}:∀ {es:List AV},allOf sz es=true→∀ e∈es,e.cells.length=sz∧e.cells.all AV.one=true
 | [],_=>by simp
 | e::es,h=>by
  simp only[allOf] at h
  split at h
  ·
   rename_i g1 g2
   intro x hx
   rcases List.mem_cons.1 hx with rfl|hx
   ·
    exact⟨of_decide_eq_true g1,g2⟩
   ·
    exact allOf_eq h x hx
  ·
   cases h
theorem inOrder_eq:∀ {l:List (Nat × Operand)} {n:Nat},inOrder n l=true→∀(i:Nat) p,l[i]?=some p→p.1=n+i
 | [],_,_,i,p,hp=>by simp at hp
 | (j,x)::r,n,h,i,p,hp=>by
  simp only[inOrder] at h
  split at h
  ·
   rename_i g
   have g:=of_decide_eq_true g
   cases i with
   | zero=>simp at hp;subst hp;exact g
   | succ i =>
    have:=inOrder_eq h i p (by simpa using hp)
    omega
  ·
   cases h
theorem mul_le_of_lt {i n sz:Nat} (h:i<n):i * sz+sz≤n * sz:=by
 have:(i+1) * sz≤n * sz:=Nat.mul_le_mul_right sz h
 rw[Nat.succ_mul] at this
 exact this
theorem fillAV_row (sz:Nat):∀(parts:List (Nat × AV)) (n:Nat) (cells:List AV),(∀(i:Nat) p,parts[i]?=some p→p.1=n+i∧p.2.cells.length=sz∧p.2.cells.all AV.one=true)→(n+parts.length) * sz≤cells.length →
  ∃ out,fillAV (fun i=>some (i * sz,sz)) cells parts=some out∧out.length=cells.length∧∀(j:Nat),out[j]?=if n * sz≤j∧j<(n+parts.length) * sz then(flat (parts.map (·.2)))[j-n * sz]? else cells[j]?
 | [],n,cells,_,_=>⟨cells,rfl,rfl,fun j=>by rw[if_neg (by simp)]⟩
 | (i,v)::r,n,cells,hp,hl=>by
  obtain⟨e1,e2,e3⟩:=hp 0 _ rfl
  simp only[Nat.add_zero] at e1 e2 e3
  subst e1
  simp only[List.length_cons] at hl ⊢
  have hle:i * sz+sz≤cells.length:=Nat.le_trans (mul_le_of_lt (by omega)) hl
  obtain⟨out,h1,h2,h3⟩:=fillAV_row sz r (i+1) (putAt cells (i * sz) v.cells) (fun k p hk=>by
   obtain⟨g1,g2,g3⟩:=hp (k+1) p (by simpa using hk)
   exact⟨by omega,g2,g3⟩) (by rw[putAt_length];have:i+1+r.length=i+(r.length+1):=by omega
                              rw[this];exact hl)
  have hfl:flat (((i,v)::r).map (·.2))=v.cells++flat (r.map (·.2)):=by simp[flat]
  have hsum:(i+1+r.length) * sz=(i+(r.length+1)) * sz:=by
   have:i+1+r.length=i+(r.length+1):=by omega
   rw[this]
  have hi1:(i+1) * sz=i * sz+sz:=Nat.succ_mul i sz
  have hge:(i+1) * sz≤(i+(r.length+1)) * sz:=Nat.mul_le_mul_right sz (by omega)
  refine⟨out,?_,by rw[h2,putAt_length],fun j=>?_⟩
  ·
   simp only[fillAV]
   rw[decide_eq_true e2,decide_eq_true hle,e3]
   exact h1
  ·
   rw[h3,putAt_get _ _ _ _ (by rw[e2];exact hle),hfl,hsum,hi1,e2]
   by_cases c1:j<i * sz
   ·
    rw[if_neg (by omega),if_neg (by omega),if_neg (by omega)]
   ·
    by_cases c2:j<i * sz+sz
    ·
     rw[if_neg (by omega),if_pos (by omega),if_pos (by omega),List.getElem?_append_left (by omega)]
    ·
     by_cases c3:j<(i+(r.length+1)) * sz
     ·
      rw[if_pos (by omega),if_pos (by omega),List.getElem?_append_right (by omega),e2]
      congr 1
      omega
     ·
      rw[if_neg (by omega),if_neg (by omega),if_neg (by omega)]
theorem buildSlice_sound (hT:TabOK P T) (hs:CAll S w φ s a.tmps) (hr:R S φ h w) (dst:Option Tmp) (t:TypeId) (len:Nat) (parts:Array (Nat × Operand)) (ty:TypeId) (pos:String) (af:Array Edge) (gd:Option (Nat × Bool)) :
  (stepHeap T s h (.buildSlice t len parts)).sound S φ h w ((execOp a.eval ⟨dst,.buildSlice t len parts,ty,pos,af,gd⟩).run P w):=by
 simp only[stepHeap]
 split
 ·
  rename_i e hk
  obtain⟨_,_,_,_,_,_,_,_,_,_,_,hK⟩:=(hT t).known (by rw[hk];simp)
  rw[hk] at hK
  split
  ·
   trivial
  ·
   rename_i hke
   obtain⟨i,z,hi,hsz,_,hz,hzc,_,_,hz1,hzl,_⟩:=(hT e).known hke
   split
   ·
    rename_i g1 g2 g3 g4 g5
    have g1:=of_decide_eq_true g1
    have g4:=of_decide_eq_true g4
    have g5:=of_decide_eq_true g5
    have hall:=allOf_eq g3
    have hord:=inOrder_eq g2
    generalize hes:parts.toList.map (fun p=>opd s p.2)=es at hall
    have hlen:es.length=len:=by rw[← hes];simpa using g1
    have hzcells:z.cells=(T e).zero.toArray:=by rw[← hzc]
    have hzs:z.cells.size=(T e).size:=by rw[hzcells];simpa using hzl
    let init:Array Value:=(Array.range (len * (T e).size)).map (fun x=>(if len * (T e).size=0 then #[] else z.cells)[x % (if len * (T e).size=0 then #[] else z.cells).size]!)
    have hinit:∀ v∈init.toList,v.oneCell'=true:=by
     intro v hv
     simp only[init,Array.toList_map,List.mem_map] at hv
     obtain⟨x,hx,rfl⟩:=hv
     have hx':x<len * (T e).size:=by simpa using hx
     rw[if_neg (by omega)]
     have hlt:x % z.cells.size<z.cells.size:=Nat.mod_lt _ (by omega)
     rw[getElem!_pos z.cells _ hlt]
     exact hz1 _ (by rw[← hzc];simp)
    have hisz:init.size=len * (T e).size:=by simp[init]
    obtain⟨out,h1,h2,h3⟩:=fillAV_row (T e).size (parts.toList.map fun p=>(p.1,opd s p.2)) 0 (init.toList.map .raw) (fun i p hp=>by
     rw[List.getElem?_map,Option.map_eq_some_iff] at hp
     obtain⟨q,hq,rfl⟩:=hp
     have hm:opd s q.2∈es:=by rw[← hes];exact List.mem_map.2 ⟨q,List.mem_of_getElem? hq,rfl⟩
     exact⟨hord i q hq,(hall _ hm).1,(hall _ hm).2⟩) (by simp[hisz,← hlen,← hes])
    obtain⟨us,f1,f2,f3⟩:=fill_sound (S:=S) (w:=w) (φ:=φ) (fun i=>some (i * (T e).size,(T e).size)) (parts.toList.map fun p=>(p.1,opd s p.2)) (parts.toList.map fun p=>(p.1,a.eval p.2)) (init.toList.map .raw) out init
     (by simp) (fun i p q hp hq=>by
      simp only[List.getElem?_map,Option.map_eq_some_iff] at hp hq
      obtain⟨x,hx,rfl⟩:=hp
      obtain⟨y,hy,rfl⟩:=hq
      rw[hx] at hy
      cases hy
      exact⟨rfl,C.opd hs x.2⟩) (CAll.map_raw init.toList) hinit h1
    have hflat:flat ((parts.toList.map fun p=>(p.1,opd s p.2)).map (·.2))=flat es:=by rw[← hes];simp[List.map_map,Function.comp_def]
    have husz:us.size=len * (T e).size:=by rw[f2.1,h2];simp[hisz]
    have hfl:=flat_length (es:=es) (sz:=(T e).size) (fun x hx=>(hall x hx).1)
    obtain⟨S',k1,k2,k3⟩:=push_tok hr (es:=es) (sz:=(T e).size) (vs:=us) (fun x hx=>(hall x hx).1) len (by omega) (by
      have:len≤len * (T e).size:=Nat.le_mul_of_pos_right len g5
      simp only[maxLen];omega) husz (fun j c hj=>by
     have hjl:=lookupD hj
     rw[hfl,hlen] at hjl
     have ho:=h3 j
     rw[if_pos (by simp[← hlen,← hes] at hjl ⊢;exact hjl),hflat] at ho
     simp only[Nat.zero_mul,Nat.sub_zero] at ho
     rw[hj] at ho
     obtain⟨u,hu,hcu⟩:=f2.at ho
     exact⟨u,hu,hcu,f3 u (by rw[← Array.mem_def];exact Array.mem_of_getElem? hu)⟩) e w (.inl rfl)
    rw[hlen] at k1 k2 k3
    refine⟨_,_,S',_,.inl ?_,k1,k2,k3⟩
    have ep:(Array.map (fun(x:Nat × Operand)=>(x.fst,a.eval x.snd)) parts).toList=parts.toList.map fun p=>(p.1,a.eval p.2):=by simp
    simp only[execOp,Instr.buildSlice,Sem.run_bind,run_underlying hK,Result.andThen_ok,run_size (hT e) hke]
    rw[if_neg (by omega)]
    by_cases h0:len * (T e).size=0
    ·
     have hi0:init=(Array.range (len * (T e).size)).map (fun x=>(#[]:Array Value)[x % (#[]:Array Value).size]!):=by simp only[init,if_pos h0]
     rw[if_pos h0]
     simp only[Sem.run_bind,Sem.run_pure,Result.andThen_ok]
     rw[ep,← hi0,f1]
     simp[newRow,newObj,Sem.run,Result.andThen]
    ·
     have hi0:init=(Array.range (len * (T e).size)).map (fun x=>z.cells[x % z.cells.size]!):=by simp only[init,if_neg h0]
     rw[if_neg h0]
     simp only[Sem.run_bind,Sem.run_pure,Result.andThen_ok,zeroValue,run_typeInfo _ hi,hz]
     rw[ep,← hi0,f1]
     simp[newRow,newObj,Sem.run,Result.andThen]
   ·
    trivial
 ·
  trivial
end
end Go.Abs
namespace Go.Abs
open Go.RowKit
section
variable {P:Program} {T:TypeId→TI} {S:Addr→Prop} {φ:Nat→Loc} {h:List Blk} {w:World} {s:List AV} {a:Act}
theorem C.vals {sz:Nat} {es:List AV} {tok:Option Nat} {ad:Addr} {len cap:Nat} (hc:C S w φ (.lst sz es tok) (.slice (some ad) len cap)) :
  ∃ us:List Value,us.length=len * sz∧(∀(j:Nat) u,us[j]?=some u→w.cell? (ad.add j)=some u)∧(∀ u∈us,u.oneCell'=true)∧(∀(j:Nat) c,(flat es)[j]?=some c→∃ u,us[j]?=some u∧C S w φ c u∧u.oneCell'=true) ∧
   (∀ e∈es,e.cells.length=sz)∧es.length=len∧(∀ j,j<len * sz→S (ad.add j)):=by
 cases hc with
 | lst _ _ _ _ _ _ u hlen hcap hmax hsz hm hc h1 ht =>
  have hfl:=flat_length hsz
  have hat:∀ j,j<len * sz→∃ c,(flat es)[j]?=some c:=fun j hj=>⟨_,List.getElem?_eq_getElem (by rw[hfl,hlen];exact hj)⟩
  refine⟨(List.range (len * sz)).map u,by simp,fun j x hx=>?_,fun x hx=>?_,fun j c hj=>?_,hsz,hlen,fun j hj=>?_⟩
  ·
   rw[List.getElem?_map,Option.map_eq_some_iff] at hx
   obtain⟨k,hk,rfl⟩:=hx
   have hlt:=lookupD hk
   rw[List.getElem?_eq_getElem hlt] at hk
   simp at hk hlt
   subst hk
   obtain⟨c,hcj⟩:=hat _ hlt
   exact(hm _ c hcj).1
  ·
   obtain⟨k,hk,rfl⟩:=List.mem_map.1 hx
   obtain⟨c,hcj⟩:=hat k (by simpa using hk)
   exact h1 k c hcj
  ·
   have hlt:=lookupD hj
   rw[hfl,hlen] at hlt
   exact⟨u j,by simp[hlt],hc j c hj,h1 j c hj⟩
  ·
   obtain⟨c,hcj⟩:=hat j hj
   exact(hm j c hcj).2
theorem add_lit (b j:Nat):(⟨b,0,none⟩:Addr).add j=⟨b,j,none⟩:=by unfold Addr.add;split<;>simp_all
theorem flat_append (xs ys:List AV):flat (xs++ys)=flat xs++flat ys:=by simp[flat]
theorem grow_new {es xs:List AV} {sz:Nat} (hsz:∀ e∈es++xs,e.cells.length=sz) {olds news:List Value} (ho:olds.length=es.length * sz)
  (hoc:∀(j:Nat) c,(flat es)[j]?=some c→∃ u,olds[j]?=some u∧C S w φ c u∧u.oneCell'=true) (hnc:∀(j:Nat) c,(flat xs)[j]?=some c→∃ u,news[j]?=some u∧C S w φ c u∧u.oneCell'=true) :
  ∀(j:Nat) c,(flat (es++xs))[j]?=some c→∃ u,(olds++news)[j]?=some u∧C S w φ c u∧u.oneCell'=true:=by
 intro j c hj
 rw[flat_append] at hj
 have hfe:=flat_length (es:=es) (sz:=sz) (fun e he=>hsz e (by simp[he]))
 by_cases hlt:j<es.length * sz
 ·
  rw[List.getElem?_append_left (by omega)] at hj
  obtain⟨u,hu,hcu⟩:=hoc j c hj
  exact⟨u,by rw[List.getElem?_append_left (by omega)];exact hu,hcu⟩
 ·
  rw[List.getElem?_append_right (by omega),hfe] at hj
  obtain⟨u,hu,hcu⟩:=hnc _ c hj
  exact⟨u,by rw[List.getElem?_append_right (by omega),ho];exact hu,hcu⟩
theorem zeroCells_size (z:Array Value) (n:Nat):(Builtin.zeroCells z n).size=n * z.size:=by simp[Builtin.zeroCells]
theorem append_nil_sound (hT:TabOK P T) (hr:R S φ h w) {t e:TypeId} (hK:P.underlying t=some (.slice e)) (hke:(T e).kind≠.other) (hby:(T e).bytes≤32768) {xs:List AV} {tok:Option Nat} {v:Value} (hx:C S w φ (.lst (T e).size xs tok) v)
  (hle:xs.length≤4294967296) (ty:TypeId) :
  ∃ u w' S' φ',(Builtin.append_ #[t,t] ty #[.slice none 0 0,v]).run P w=.ok u w'∧C S' w' φ' (.lst (T e).size xs (some h.length)) u∧R S' φ' (h++[.tok e (T e).size xs.length]) w'∧Ext S φ h w S' φ' (h++[.tok e (T e).size xs.length]) w':=by
 obtain⟨i,z,hi,hsz,hbs,hz,hzc,_,_,_,hzl,_⟩:=(hT e).known hke
 have hzs:z.cells.size=(T e).size:=by rw[← Array.length_toList,hzc];exact hzl
 have hempty:xs=[]→∀ v',v'=.slice none 0 0→∃ w' S' φ',w'=w∧C S' w' φ' (.lst (T e).size xs (some h.length)) v'∧R S' φ' (h++[.tok e (T e).size xs.length]) w'∧Ext S φ h w S' φ' (h++[.tok e (T e).size xs.length]) w':=by
  intro hx0 v' hv'
  subst hx0;subst hv'
  obtain⟨k1,k2⟩:=hr.push (l:=.tok 0 (.slice none 0 0)) (x:=.tok e (T e).size 0) (S':=S) (w':=w) rfl rfl rfl (Nat.le_refl _) (fun _ _=>rfl) (fun _ h=>h) (fun _ h=>.inl h) hr.bnd
   ⟨_,upd_same _ _ _,.inl ⟨rfl,rfl⟩⟩ (fun b hb=>by simp[blockOf] at hb)
  exact⟨w,S,_,rfl,.lstnil _ _ ⟨_,_,upd_same _ _ _,Nat.le_refl _,fun _=>rfl⟩,k1,k2⟩
 cases hx with
 | lstnil _ _ ht =>
  obtain⟨w',S',φ',rfl,k1,k2,k3⟩:=hempty rfl _ rfl
  exact⟨.slice none 0 0,_,S',φ',by simp[Builtin.append_,run_underlying hK,sizeOf,typeInfo,hi,Builtin.lenOf,Builtin.firstCells],k1,k2,k3⟩
 | lst _ _ _ ad len cap u hlen hcap hmax hszs hm hc h1 ht =>
  obtain⟨us,g1,g2,g3,g4,g5,g6,_⟩:=C.vals (C.lst _ _ _ ad len cap u hlen hcap hmax hszs hm hc h1 ht)
  by_cases h0:len=0
  ·
   have hx0:xs=[]:=List.eq_nil_of_length_eq_zero (by omega)
   obtain⟨w',S',φ',rfl,k1,k2,k3⟩:=hempty hx0 _ rfl
   refine⟨.slice none 0 0,_,S',φ',?_,k1,k2,k3⟩
   subst h0
   simp[Builtin.append_,run_underlying hK,sizeOf,typeInfo,hi,Builtin.lenOf,Builtin.firstCells,loadCells,loadCellsFrom]
  ·
   have hfit:len * i.bytes≤281474976710656:=by
    rw[hbs]
    have:=Nat.mul_le_mul (show len≤4294967296 by omega) hby
    omega
   have hrun:=run_append_nil (P:=P) w t ty e i z hK hi hz ad len cap us (by rw[hsz];exact g1) g2 (by omega) (by omega) hfit
   have hge:=grownCap_ge w len 0 e
   have hcm:=grownCap_le_maxLen w len 0 e (by simp only[maxLen];omega)
   obtain⟨S',k1,k2,k3⟩:=push_tok hr (es:=xs) (sz:=(T e).size) (vs:=us.toArray++Builtin.zeroCells z.cells (grownCap w len 0 e-len)) hszs (grownCap w len 0 e) (by omega) hcm (by
    rw[Array.size_append,zeroCells_size,hzs,List.size_toArray,g1,← Nat.add_mul];congr 1;omega) (fun j c hj=>by
     obtain⟨u',hu',hcu'⟩:=g4 j c hj
     exact⟨u',by rw[Array.getElem?_append_left (by simpa using lookupD hu')];simpa using hu',hcu'⟩) e w.drew (.inr rfl)
   rw[hlen] at k1 k2 k3 ⊢
   exact⟨_,_,S',_,hrun,k1,k2,k3⟩
theorem append_tok_sound (hT:TabOK P T) (hr:R S φ h w) {t e:TypeId} (hK:P.underlying t=some (.slice e)) (hke:(T e).kind≠.other) (hby:(T e).bytes≤32768) {es xs:List AV} {k:Nat} {tok:Option Nat} {v0 v:Value}
  (h0:C S w φ (.lst (T e).size es (some k)) v0) (hx:C S w φ (.lst (T e).size xs tok) v) (hk:h[k]?=some (.tok e (T e).size es.length)) (hle:es.length+xs.length≤4294967296) (ty:TypeId) :
  ∃ u w' S' φ',(Builtin.append_ #[t,t] ty #[v0,v]).run P w=.ok u w'∧C S' w' φ' (.lst (T e).size (es++xs) (some k)) u∧R S' φ' (h.set k (.tok e (T e).size (es++xs).length)) w'∧Ext S φ h w S' φ' (h.set k (.tok e (T e).size (es++xs).length)) w':=by
 obtain⟨i,z,hi,hsz,hbs,hz,hzc,_,_,_,hzl,_⟩:=(hT e).known hke
 have hzs:z.cells.size=(T e).size:=by rw[← Array.length_toList,hzc];exact hzl
 have hfitb:∀ n,n≤4294967296→n * i.bytes≤140737488355328:=by
  intro n hn
  rw[hbs]
  have:=Nat.mul_le_mul hn hby
  omega
 -- what is known of the token
 obtain⟨u0,hφk,hroom⟩:=hr.blk k _ hk
 have htok:TokOK φ (some k) es.length v0:=by
  cases h0 with
  | lst _ _ _ _ _ _ _ hlen _ _ _ _ _ _ ht=>rw[hlen];exact ht
  | lstnil _ _ ht=>exact ht
 have hv0:v0=u0:=by
  obtain⟨n',u',e1,_,e3⟩:=htok
  rw[hφk] at e1
  cases e1
  exact e3 rfl
 subst hv0
 obtain⟨ad0,n0,cap0,rfl,hn0,hcap0,hmax0,hnil0⟩:=h0.slice_form
 obtain⟨ad,m,cap,rfl,hm,hcapm,hmaxm,hnil⟩:=hx.slice_form
 by_cases hm0:m=0
 ·
  -- nothing is appended
  subst hm0
  have hx0:xs=[]:=List.eq_nil_of_length_eq_zero hm
  subst hx0
  refine⟨_,w,S,φ,?_,by rw[List.append_nil];exact h0,?_,?_⟩
  ·
   have hnone:∀ b:Option Addr,(Builtin.firstCells (T e).size 0 (.slice b 0 cap)).run P w=.ok #[] w:=by
    intro b
    cases b<;>simp[Builtin.firstCells,loadCells,loadCellsFrom]
   have h1:n0+0≤cap0:=by omega
   cases ad0 with
   | none=>simp[Builtin.append_,run_underlying hK,sizeOf,typeInfo,hi,Builtin.lenOf,hcap0,hsz,hnone]
   | some b=>simp[Builtin.append_,run_underlying hK,sizeOf,typeInfo,hi,Builtin.lenOf,hcap0,hsz,hnone,storeCells]
  ·
   rw[List.append_nil]
   have:h.set k (.tok e (T e).size es.length)=h:=by
    apply List.ext_getElem?
    intro j
    rw[List.getElem?_set]
    by_cases ej:k=j
    ·
     subst ej;rw[if_pos rfl,if_pos (lookupD hk)];exact hk.symm
    ·
     rw[if_neg ej]
   rw[this];exact hr
  ·
   rw[List.append_nil]
   have:h.set k (.tok e (T e).size es.length)=h:=by
    apply List.ext_getElem?
    intro j
    rw[List.getElem?_set]
    by_cases ej:k=j
    ·
     subst ej;rw[if_pos rfl,if_pos (lookupD hk)];exact hk.symm
    ·
     rw[if_neg ej]
   rw[this];exact Ext.refl _ _ _ _
 ·
  have hxs:xs≠[]:=fun e0=>hm0 (by rw[← hm,e0];rfl)
  cases ad with
  | none=>exact absurd (hnil rfl) hxs
  | some ad =>
   obtain⟨news,q1,q2,q3,q4,q5,q6,_⟩:=C.vals hx
   have hlen:(es++xs).length=n0+m:=by rw[List.length_append,hn0,hm]
   -- a move to a new block
   have moved:∀(olds:List Value),olds.length=n0 * (T e).size→(∀(j:Nat) c,(flat es)[j]?=some c→∃ u,olds[j]?=some u∧C S w φ c u∧u.oneCell'=true)→(∀ e'∈es,e'.cells.length=(T e).size) →
     ∃ S' φ',C S' (w.drew.alloc (.cells (olds.toArray++news.toArray++Builtin.zeroCells z.cells (grownCap w (n0+m) cap0 e-(n0+m))) e)) φ' (.lst (T e).size (es++xs) (some k)) (.slice (some ⟨w.heap.size,0,none⟩) (n0+m) (grownCap w (n0+m) cap0 e)) ∧
      R S' φ' (h.set k (.tok e (T e).size (es++xs).length)) (w.drew.alloc (.cells (olds.toArray++news.toArray++Builtin.zeroCells z.cells (grownCap w (n0+m) cap0 e-(n0+m))) e)) ∧
      Ext S φ h w S' φ' (h.set k (.tok e (T e).size (es++xs).length)) (w.drew.alloc (.cells (olds.toArray++news.toArray++Builtin.zeroCells z.cells (grownCap w (n0+m) cap0 e-(n0+m))) e)):=by
    intro olds ho1 ho2 hes
    have hge:=grownCap_ge w (n0+m) cap0 e
    have hcm:=grownCap_le_maxLen w (n0+m) cap0 e (by simp only[maxLen];omega)
    generalize hcap':grownCap w (n0+m) cap0 e=cap' at hge hcm
    have hall:∀ e'∈es++xs,e'.cells.length=(T e).size:=fun e' he'=>by
     rcases List.mem_append.1 he' with g|g
     ·
      exact hes e' g
     ·
      exact q5 e' g
    have hfl:=flat_length hall
    rw[hlen] at hfl
    have hcells:=grow_new (S:=S) (w:=w) (φ:=φ) hall (olds:=olds) (news:=news) (by rw[ho1,hn0]) ho2 q4
    let vs:Array Value:=olds.toArray++news.toArray++Builtin.zeroCells z.cells (cap'-(n0+m))
    have hvs:vs.size=cap' * (T e).size:=by
     simp only[vs,Array.size_append,zeroCells_size,hzs,List.size_toArray,ho1,q1,← Nat.add_mul];congr 1;omega
    have hvat:∀(j:Nat) c,(flat (es++xs))[j]?=some c→∃ u,vs[j]?=some u∧C S w φ c u∧u.oneCell'=true:=fun j c hj=>by
     obtain⟨u,hu,hcu⟩:=hcells j c hj
     refine⟨u,?_,hcu⟩
     have hjl:=lookupD hu
     simp only[vs]
     rw[Array.getElem?_append_left (by simpa using hjl),List.append_toArray]
     simpa using hu
    show ∃ S' φ',C S' (w.drew.alloc (.cells vs e)) φ' _ _∧R S' φ' _ (w.drew.alloc (.cells vs e))∧Ext S φ h w S' φ' _ (w.drew.alloc (.cells vs e))
    have hkeep:∀ b,b<w.heap.size→(w.drew.alloc (.cells vs e)).heap[b]?=w.heap[b]?:=fun b hb=>alloc_heap _ _ _ hb
    have hnew:(w.drew.alloc (.cells vs e)).heap[w.heap.size]?=some (.cells vs e (0,0)):=heap_alloc_new w.drew _
    let S':Addr→Prop:=fun a=>S a∨(a.block=w.heap.size∧a.off<(n0+m) * (T e).size∧a.spot=none)
    have hadd:∀ j,(⟨w.heap.size,0,none⟩:Addr).add j=⟨w.heap.size,j,none⟩:=fun j=>add_lit _ j
    have hle':(φ k).le (.tok (n0+m) (.slice (some ⟨w.heap.size,0,none⟩) (n0+m) cap')):=by
     rw[hφk,hn0]
     exact⟨_,_,rfl,by omega,fun e0=>by omega⟩
    have hlej:∀ j,(φ j).le (upd φ k (.tok (n0+m) (.slice (some ⟨w.heap.size,0,none⟩) (n0+m) cap')) j):=by
     intro j
     by_cases ej:j=k
     ·
      subst ej;rw[upd_same];exact hle'
     ·
      rw[upd_other _ ej];exact Loc.le_refl _
    have hmono:∀ {c u},C S w φ c u→C S' (w.drew.alloc (.cells vs e)) (upd φ k (.tok (n0+m) (.slice (some ⟨w.heap.size,0,none⟩) (n0+m) cap'))) c u:=fun hcu =>
     hcu.mono (fun _ h=>.inl h) (fun a ha=>cell_of_heap (hkeep _ (hr.bnd a ha))) hlej
    have hput:=hr.put (S':=S') (w':=w.drew.alloc (.cells vs e)) (l:=.tok (n0+m) (.slice (some ⟨w.heap.size,0,none⟩) (n0+m) cap')) (x:=.tok e (T e).size (n0+m)) hk rfl rfl rfl (by simp) (fun b hb _=>hkeep b hb) (fun _ h=>.inl h)
     (fun a ha=>cell_of_heap (hkeep _ (hr.bnd a ha))) (fun a ha=>by rcases ha with ha|ha;exact .inl ha;exact .inr (.inl (by omega)))
     (fun a ha=>by
      rcases ha with ha|ha
      ·
       have:=hr.bnd a ha;simp;omega
      ·
       simp;omega) hle'
     (by
      refine⟨_,upd_same _ _ _,?_⟩
      rcases Nat.lt_or_ge (n0+m) cap' with hlt|hge'
      ·
       refine .inr (.inr ⟨w.heap.size,cap',vs,hlt,hcm,rfl,hnew,hvs,fun a ha hab=>?_⟩)
       rcases ha with ha|ha
       ·
        have:=hr.bnd a ha;omega
       ·
        exact ha.2.1
      ·
       have:cap'=n0+m:=by omega
       subst this
       exact .inr (.inl ⟨_,rfl⟩))
     (fun b hb=>by
      simp only[blockOf] at hb
      split at hb
      ·
       cases hb
      ·
       cases hb;exact .inl (Nat.le_refl _))
    obtain⟨us,hul,hu⟩:=exists_vals (flat (es++xs)) hvat
    have key:∀(j:Nat) c,(flat (es++xs))[j]?=some c→vs[j]?=some (us.getD j undef)∧C S w φ c (us.getD j undef)∧(us.getD j undef).oneCell'=true:=by
     intro j c hj
     have hj':j<us.length:=by rw[hul];exact lookupD hj
     have e0:us[j]?=some (us.getD j undef):=by rw[List.getD_eq_getElem?_getD,List.getElem?_eq_getElem hj'];rfl
     exact hu j c _ hj e0
    rw[hlen]
    refine⟨S',_,.lst _ _ _ _ _ _ (fun j=>us.getD j undef) hlen hge hcm hall (fun j c hj=>⟨?_,.inr ?_⟩) (fun j c hj=>hmono (key j c hj).2.1) (fun j c hj=>(key j c hj).2.2) ⟨_,_,upd_same _ _ _,Nat.le_refl _,fun _=>rfl⟩,hput.1,hput.2⟩
    ·
     rw[hadd]
     simp only[World.cell?,hnew]
     simp only[Option.isSome_none,Bool.false_eq_true,if_false]
     exact(key j c hj).1
    ·
     rw[hadd]
     exact⟨rfl,by have:=lookupD hj;rw[hfl] at this;exact this,rfl⟩
   cases ad0 with
   | none =>
    have he0:es=[]:=hnil0 rfl
    have hn00:n0=0:=by rw[← hn0,he0];rfl
    subst hn00
    have hc0:cap0=0:=by
     cases h0
     rfl
    subst hc0
    have hrun:=run_append_nil (P:=P) w t ty e i z hK hi hz ad m cap news (by rw[hsz];exact q1) q2 (by omega) (by omega) (by have:=hfitb m (by omega);omega)
    obtain⟨S',φ',k1,k2,k3⟩:=moved [] (by simp) (fun j c hj=>by rw[he0] at hj;simp[flat] at hj) (by rw[he0];simp)
    simp only[Nat.zero_add,Array.empty_append] at k1 k2 k3 hrun
    exact⟨_,_,S',φ',hrun,k1,k2,k3⟩
   | some b0 =>
    obtain⟨olds,p1,p2,p3,p4,p5,p6,_⟩:=C.vals h0
    by_cases hin:n0+m≤cap0
    ·
     -- in place
     rcases hroom with ⟨hr1,_⟩|⟨a',hr1⟩|⟨b,cap',vs,g1,g2,hr1,g4,g5,g6⟩
     ·
      cases hr1
     ·
      simp only[Value.slice.injEq] at hr1
      omega
     ·
      simp only[Value.slice.injEq,Option.some.injEq] at hr1
      obtain⟨rfl,_,rfl⟩:=hr1
      have hsum:n0 * (T e).size+m * (T e).size=(n0+m) * (T e).size:=(Nat.add_mul _ _ _).symm
      have hmul:(n0+m) * (T e).size≤cap0 * (T e).size:=Nat.mul_le_mul_right _ hin
      have hfit:n0 * i.size+news.length≤vs.size:=by rw[hsz,q1,g5];omega
      have hrun:=run_append_room (P:=P) w t ty e i hK hi b n0 cap0 vs g4 ad m cap news (by rw[hsz];exact q1) q2 q3 hin hfit
      rw[hsz,q1] at hrun
      generalize hvs':(vs.toList.take (n0 * (T e).size)++news++vs.toList.drop (n0 * (T e).size+m * (T e).size)).toArray=vs' at hrun
      have hnew:=setRow_heap w b vs vs' e (0,0) g4
      have hoth:=fun b'' (hne:b''≠b)=>setRow_other w b b'' vs' hne
      have howner:blockOf (φ k) (.tok e (T e).size es.length)=some b:=by rw[hφk];simp only[blockOf];rw[if_neg (by omega)]
      have hvsz:vs'.size=vs.size:=by
       rw[← hvs']
       simp only[List.size_toArray,List.length_append,List.length_take,List.length_drop,Array.length_toList,q1]
       omega
      have hget:∀ j,vs'[j]?=if n0 * (T e).size≤j∧j<(n0+m) * (T e).size then news[j-n0 * (T e).size]? else vs[j]?:=by
       intro j
       rw[← hvs']
       simp only[List.getElem?_toArray,List.append_assoc]
       rw[List.getElem?_append,List.length_take,Array.length_toList]
       have emin:min (n0 * (T e).size) vs.size=n0 * (T e).size:=by omega
       rw[emin]
       by_cases c1:j<n0 * (T e).size
       ·
        rw[if_pos c1,if_neg (by omega),List.getElem?_take,if_pos c1];simp
       ·
        rw[if_neg c1,List.getElem?_append,q1]
        by_cases c2:j<(n0+m) * (T e).size
        ·
         rw[if_pos (by omega),if_pos (by omega)]
        ·
         rw[if_neg (by omega),if_neg (by omega),List.getElem?_drop]
         have:n0 * (T e).size+m * (T e).size+(j-n0 * (T e).size-m * (T e).size)=j:=by omega
         rw[this];simp
      have hcell:∀ q,S q→(w.setRow b vs').cell? q=w.cell? q:=by
       intro q hq
       by_cases hqb:q.block=b
       ·
        have hlt:=g6 q hq hqb
        rw[hn0] at hlt
        simp only[World.cell?,hqb,hnew,g4]
        split
        ·
         rfl
        ·
         rw[hget,if_neg (fun c=>absurd c.1 (Nat.not_le_of_lt hlt))]
       ·
        exact cell_of_heap (hoth _ hqb)
      let S':Addr→Prop:=fun a=>S a∨(a.block=b∧n0 * (T e).size≤a.off∧a.off<(n0+m) * (T e).size∧a.spot=none)
      have hadd:∀ j,(⟨b,0,none⟩:Addr).add j=⟨b,j,none⟩:=fun j=>add_lit _ j
      have hle':(φ k).le (.tok (n0+m) (.slice (some ⟨b,0,none⟩) (n0+m) cap0)):=by
       rw[hφk,hn0]
       exact⟨_,_,rfl,by omega,fun e0=>by omega⟩
      have hlej:∀ j,(φ j).le (upd φ k (.tok (n0+m) (.slice (some ⟨b,0,none⟩) (n0+m) cap0)) j):=by
       intro j
       by_cases ej:j=k
       ·
        subst ej;rw[upd_same];exact hle'
       ·
        rw[upd_other _ ej];exact Loc.le_refl _
      have hmono:∀ {c u},C S w φ c u→C S' (w.setRow b vs') (upd φ k (.tok (n0+m) (.slice (some ⟨b,0,none⟩) (n0+m) cap0))) c u:=fun hcu=>hcu.mono (fun _ h=>.inl h) hcell hlej
      have hput:=hr.put (S':=S') (w':=w.setRow b vs') (l:=.tok (n0+m) (.slice (some ⟨b,0,none⟩) (n0+m) cap0)) (x:=.tok e (T e).size (n0+m)) hk rfl rfl rfl (by simp[World.setRow])
       (fun b'' _ hne=>hoth b'' (fun e0=>hne (by rw[e0];exact howner))) (fun _ h=>.inl h) hcell
       (fun a ha=>by
        rcases ha with ha|ha
        ·
         exact .inl ha
        ·
         exact .inr (.inr (by rw[ha.1];exact howner)))
       (fun a ha=>by
        rcases ha with ha|ha
        ·
         simpa[World.setRow] using hr.bnd a ha
        ·
         rw[ha.1];simpa[World.setRow] using heap_lt g4) hle'
       (by
        refine⟨_,upd_same _ _ _,?_⟩
        rcases Nat.lt_or_ge (n0+m) cap0 with hlt|hge'
        ·
         refine .inr (.inr ⟨b,cap0,vs',hlt,hmax0,rfl,hnew,by rw[hvsz,g5],fun a ha hab=>?_⟩)
         rcases ha with ha|ha
         ·
          have:=g6 a ha hab
          rw[hn0] at this
          omega
         ·
          exact ha.2.2.1
        ·
         have:cap0=n0+m:=by omega
         subst this
         exact .inr (.inl ⟨_,rfl⟩))
       (fun b'' hb=>by
        simp only[blockOf] at hb
        split at hb
        ·
         cases hb
        ·
         cases hb;exact .inr howner)
      have hall:∀ e'∈es++xs,e'.cells.length=(T e).size:=fun e' he'=>by
       rcases List.mem_append.1 he' with g|g
       ·
        exact p5 e' g
       ·
        exact q5 e' g
      have hfl:=flat_length hall
      rw[hlen] at hfl
      have hfe:=flat_length p5
      rw[p6] at hfe
      have hvat:∀(j:Nat) c,(flat (es++xs))[j]?=some c→∃ u,vs'[j]?=some u∧C S w φ c u∧u.oneCell'=true∧(w.setRow b vs').cell? ⟨b,j,none⟩=some u:=fun j c hj=>by
       have hjl:=lookupD hj
       rw[hfl] at hjl
       rw[flat_append] at hj
       have hcellj:(w.setRow b vs').cell? ⟨b,j,none⟩=vs'[j]?:=by simp[World.cell?,hnew]
       by_cases c1:j<n0 * (T e).size
       ·
        rw[List.getElem?_append_left (by omega)] at hj
        obtain⟨u,hu,hcu,hu1⟩:=p4 j c hj
        have hold:=p2 j u hu
        rw[hadd] at hold
        simp only[World.cell?,g4] at hold
        have e1:vs'[j]?=some u:=by
         rw[hget,if_neg (by omega)]
         simpa using hold
        exact⟨u,e1,hcu,hu1,by rw[hcellj,e1]⟩
       ·
        rw[List.getElem?_append_right (by omega),hfe] at hj
        obtain⟨u,hu,hcu,hu1⟩:=q4 _ c hj
        have e1:vs'[j]?=some u:=by rw[hget,if_pos (by omega)];exact hu
        exact⟨u,e1,hcu,hu1,by rw[hcellj,e1]⟩
      obtain⟨us,hul,hu⟩:=exists_vals (flat (es++xs)) hvat
      have key:∀(j:Nat) c,(flat (es++xs))[j]?=some c→vs'[j]?=some (us.getD j undef)∧C S w φ c (us.getD j undef)∧(us.getD j undef).oneCell'=true∧(w.setRow b vs').cell? ⟨b,j,none⟩=some (us.getD j undef):=by
       intro j c hj
       have hj':j<us.length:=by rw[hul];exact lookupD hj
       have e0:us[j]?=some (us.getD j undef):=by rw[List.getD_eq_getElem?_getD,List.getElem?_eq_getElem hj'];rfl
       exact hu j c _ hj e0
      have hSold:∀ j,j<n0 * (T e).size→S ⟨b,j,none⟩:=fun j hj=>by
       have:=(C.vals h0)
       obtain⟨_,_,_,_,_,_,_,hSS⟩:=this
       have:=hSS j hj
       rw[hadd] at this
       exact this
      rw[hlen]
      refine⟨_,_,S',_,hrun,.lst _ _ _ _ _ _ (fun j=>us.getD j undef) hlen hin hmax0 hall (fun j c hj=>⟨?_,?_⟩) (fun j c hj=>hmono (key j c hj).2.1) (fun j c hj=>(key j c hj).2.2.1) ⟨_,_,upd_same _ _ _,Nat.le_refl _,fun _=>rfl⟩,hput.1,hput.2⟩
      ·
       rw[hadd];exact(key j c hj).2.2.2
      ·
       rw[hadd]
       have hjl:=lookupD hj
       rw[hfl] at hjl
       by_cases c1:j<n0 * (T e).size
       ·
        exact .inl (hSold j c1)
       ·
        exact .inr ⟨rfl,Nat.le_of_not_lt c1,hjl,rfl⟩
    ·
     have hrun:=run_append_grow (P:=P) w t ty e i z hK hi hz b0 n0 cap0 olds (by rw[hsz];exact p1) p2 ad m cap news (by rw[hsz];exact q1) q2 (by omega) (by omega) (growslice_fits (by omega) (hfitb _ (by omega)))
     obtain⟨S',φ',k1,k2,k3⟩:=moved olds p1 p4 p5
     exact⟨_,_,S',φ',hrun,k1,k2,k3⟩
end
end Go.Abs
namespace Go.Abs
open Go.RowKit
theorem toList_loop (b:ByteArray):∀(n i:Nat) (r:List UInt8),b.size-i=n→ByteArray.toList.loop b i r=r.reverse++b.data.toList.drop i:=by
 intro n
 induction n with
 | zero =>
  intro i r hn
  unfold ByteArray.toList.loop
  rw[if_neg (by omega),List.drop_of_length_le (by have:b.data.toList.length=b.size:=rfl
                                                  omega),List.append_nil]
 | succ n ih =>
  intro i r hn
  unfold ByteArray.toList.loop
  have hi:i<b.size:=by omega
  have hi':i<b.data.toList.length:=hi
  rw[if_pos hi,ih (i+1) _ (by omega),List.drop_eq_getElem_cons hi',List.reverse_cons,List.append_assoc]
  congr 1
  have:b.get! i=b.data.toList[i]:=by
   have hi2:i<b.data.size:=by simpa using hi'
   simp[ByteArray.get!,getElem!_pos b.data i hi2]
  rw[this]
  rfl
theorem toList_data (b:ByteArray):b.toList=b.data.toList:=by
 have:=toList_loop b b.size 0 [] (by simp)
 simpa[ByteArray.toList] using this
theorem toList_inj {a b:ByteArray} (h:a.toList=b.toList):a=b:=by
 rw[toList_data,toList_data] at h
 exact ByteArray.ext (Array.toList_inj.1 h)
theorem keyEq_iff {kk:KK} {a b:Value} (ha:isKey kk a=true) (hb:isKey kk b=true):keyEq a b=true↔a=b:=by
 cases kk<;>cases a<;>simp only[isKey] at ha<;>first|contradiction|skip
 ·
  cases b<;>simp only[isKey] at hb<;>first|contradiction|skip
  simp only[keyEq,beq_iff_eq,Value.string.injEq]
  exact⟨toList_inj,fun e=>by rw[e]⟩
 ·
  rename_i k n
  cases k<;>first|contradiction|skip
  cases b<;>simp only[isKey] at hb<;>first|contradiction|skip
  rename_i k m
  cases k<;>first|contradiction|skip
  simp[keyEq]
def mset (key v:Value):List MapEntry→List MapEntry
 | []=>[]
 | e::es=>match keyEq key e.key with
  | true=>{ e with key:=key,val:=v }::es
  | false=>e::mset key v es
def mdel (key:Value):List MapEntry→List MapEntry
 | []=>[]
 | e::es=>match keyEq key e.key with
  | true=>es
  | false=>e::mdel key es
def desc:KK→TypeDesc
 | .str=>.string
 | .int=>.int .i64
theorem sameNow_key {kk:KK} {a b:Value} (ha:isKey kk a=true) (hb:isKey kk b=true):Instr.sameNow (desc kk) a b=some (keyEq a b):=by
 cases kk<;>cases a<;>simp only[isKey] at ha<;>first|contradiction|skip
 ·
  cases b<;>simp only[isKey] at hb<;>first|contradiction|skip
  simp only[desc,Instr.sameNow,keyEq,beq_toListBytes]
 ·
  rename_i k n
  cases k<;>first|contradiction|skip
  cases b<;>simp only[isKey] at hb<;>first|contradiction|skip
  rename_i k m
  cases k<;>first|contradiction|skip
  rfl
theorem findNow_key {kk:KK} {key:Value} (hk:isKey kk key=true):∀(l:List MapEntry) (i:Nat),(∀ e∈l,isKey kk e.key=true) →
  (mfind key l=none∧Instr.findNow (desc kk) key l i=some none∧mdel key l=l∧mset key undef l=l∧∀ e∈l,keyEq key e.key=false) ∨
  (∃(j:Nat) (e:MapEntry),l[j]?=some e∧keyEq key e.key=true∧mfind key l=some e.val∧Instr.findNow (desc kk) key l i=some (some (i+j,e.val))∧mdel key l=l.eraseIdx j∧∀ v,mset key v l=l.set j { e with key:=key,val:=v })
 | [],i,_=>.inl ⟨rfl,rfl,rfl,rfl,by simp⟩
 | e::l,i,h=>by
  have he:=sameNow_key hk (h e (by simp))
  cases hb:keyEq key e.key with
  | true =>
   refine .inr ⟨0,e,rfl,hb,by simp[mfind,hb],?_,by simp[mdel,hb],fun v=>by simp[mset,hb]⟩
   simp only[Instr.findNow,he,hb,Nat.add_zero]
  | false =>
   rcases findNow_key hk l (i+1) (fun x hx=>h x (by simp[hx])) with ⟨h1,h2,h3,h4,h5⟩|⟨j,x,h1,h2,h3,h4,h5,h6⟩
   ·
    refine .inl ⟨by simp[mfind,hb,h1],by simp only[Instr.findNow,he,hb,h2],by simp[mdel,hb,h3],by simp[mset,hb,h4],?_⟩
    intro y hy
    rcases List.mem_cons.1 hy with rfl|hy
    ·
     exact hb
    ·
     exact h5 y hy
   ·
    refine .inr ⟨j+1,x,by simpa using h1,h2,by simp[mfind,hb,h3],?_,by simp[mdel,hb,h5],fun v=>by simp[mset,hb,h6]⟩
    simp only[Instr.findNow,he,hb,h4]
    congr 3
    omega
section
variable {P:Program} {T:TypeId→TI} {S:Addr→Prop} {φ:Nat→Loc} {h:List Blk} {w:World} {s:List AV} {a:Act} {kk:KK}
theorem keys_mset {key v:Value} (hk:isKey kk key=true):∀ {l:List MapEntry},(∀ e∈l,isKey kk e.key=true)→∀ e∈mset key v l,isKey kk e.key=true
 | [],_,e,he=>by simp[mset] at he
 | x::l,h,e,he=>by
  simp only[mset] at he
  split at he
  ·
   rcases List.mem_cons.1 he with rfl|he
   ·
    exact hk
   ·
    exact h e (by simp[he])
  ·
   rcases List.mem_cons.1 he with rfl|he
   ·
    exact h _ (by simp)
   ·
    exact keys_mset hk (fun y hy=>h y (by simp[hy])) e he
theorem mdel_sub {key:Value}:∀ {l:List MapEntry} {e:MapEntry},e∈mdel key l→e∈l
 | [],e,he=>by simp[mdel] at he
 | x::l,e,he=>by
  simp only[mdel] at he
  split at he
  ·
   exact List.mem_cons_of_mem _ he
  ·
   rcases List.mem_cons.1 he with rfl|he
   ·
    simp
   ·
    exact List.mem_cons_of_mem _ (mdel_sub he)
theorem mset_key {key v:Value} (hk:isKey kk key=true):∀ {l:List MapEntry},(∀ e∈l,isKey kk e.key=true)→∀ e∈mset key v l,∃ x∈l,x.key=e.key
 | [],_,e,he=>by simp[mset] at he
 | x::l,h,e,he=>by
  simp only[mset] at he
  split at he
  ·
   rename_i hb
   rcases List.mem_cons.1 he with rfl|he
   ·
    exact⟨x,by simp,((keyEq_iff hk (h x (by simp))).1 hb).symm⟩
   ·
    exact⟨e,by simp[he],rfl⟩
  ·
   rcases List.mem_cons.1 he with rfl|he
   ·
    exact⟨_,by simp,rfl⟩
   ·
    obtain⟨y,hy,hye⟩:=mset_key hk (fun y hy=>h y (by simp[hy])) e he
    exact⟨y,by simp[hy],hye⟩
theorem once_mset {key v:Value} (hk:isKey kk key=true):∀ {l:List MapEntry},(∀ e∈l,isKey kk e.key=true)→once l→once (mset key v l)
 | [],_,_=>trivial
 | x::l,h,ho=>by
  simp only[mset]
  split
  ·
   rename_i hb
   have e:=(keyEq_iff hk (h x (by simp))).1 hb
   exact⟨fun y hy=>by rw[e];exact ho.1 y hy,ho.2⟩
  ·
   refine⟨fun y hy=>?_,once_mset hk (fun y hy=>h y (by simp[hy])) ho.2⟩
   obtain⟨z,hz,hzy⟩:=mset_key hk (fun y hy=>h y (by simp[hy])) y hy
   rw[← hzy]
   exact ho.1 z hz
theorem once_mdel {key:Value}:∀ {l:List MapEntry},once l→once (mdel key l)
 | [],_=>trivial
 | x::l,ho=>by
  simp only[mdel]
  split
  ·
   exact ho.2
  ·
   exact⟨fun y hy=>ho.1 y (mdel_sub hy),once_mdel ho.2⟩
theorem once_push {key v:Value} {c:Nat}:∀ {l:List MapEntry},once l→(∀ e∈l,keyEq key e.key=false)→once (l++[⟨key,v,c⟩])
 | [],_,_=>⟨by simp,trivial⟩
 | x::l,ho,hn=>by
  refine⟨fun y hy=>?_,once_push ho.2 fun e he=>hn e (by simp[he])⟩
  rcases List.mem_append.1 hy with hy|hy
  ·
   exact ho.1 y hy
  ·
   simp at hy;subst hy;exact hn x (by simp)
theorem keyEq_comm {a b:Value}:keyEq a b=keyEq b a:=by
 cases a<;>cases b<;>first|rfl|skip
 ·
  simp only[keyEq];exact Bool.beq_comm
 ·
  simp only[keyEq];exact Bool.beq_comm
theorem mfind_mset {key v key':Value} (hk:isKey kk key=true) (hk':isKey kk key'=true):∀ {l:List MapEntry},(∀ e∈l,isKey kk e.key=true)→(mfind key l).isSome=true→mfind key' (mset key v l)=match keyEq key' key with|true=>some v|false=>mfind key' l
 | [],_,hs=>by simp[mfind] at hs
 | x::l,h,hs=>by
  have hx:=h x (by simp)
  simp only[mset]
  cases hb:keyEq key x.key with
  | true =>
   have e:=(keyEq_iff hk hx).1 hb
   simp only[mfind]
   rw[e]
   cases keyEq key' x.key<;>rfl
  | false =>
   simp only[mfind,hb] at hs ⊢
   cases hb':keyEq key' x.key with
   | true =>
    have e:=(keyEq_iff hk' hx).1 hb'
    rw[e,keyEq_comm,hb]
   | false=>exact mfind_mset hk hk' (fun y hy=>h y (by simp[hy])) hs
theorem mfind_push {key v key':Value} {c:Nat}:∀ {l:List MapEntry},mfind key l=none→mfind key' (l++[⟨key,v,c⟩])=match mfind key' l with|some x=>some x|none=>match keyEq key' key with|true=>some v|false=>none
 | [],_=>by
  simp only[List.nil_append,mfind]
  try (cases keyEq key' key<;>rfl)
 | x::l,hn=>by
  simp only[List.cons_append,mfind] at hn ⊢
  cases hb:keyEq key x.key with
  | true=>simp[hb] at hn
  | false =>
   simp only[hb] at hn
   cases hb':keyEq key' x.key with
   | true=>rfl
   | false=>exact mfind_push hn
theorem mfind_none_of {key:Value}:∀ {l:List MapEntry},(∀ e∈l,keyEq key e.key=false)→mfind key l=none
 | [],_=>rfl
 | x::l,h=>by simp only[mfind,h x (by simp)];exact mfind_none_of fun e he=>h e (by simp[he])
theorem mfind_mdel {key key':Value} (hk:isKey kk key=true) (hk':isKey kk key'=true):∀ {l:List MapEntry},(∀ e∈l,isKey kk e.key=true)→once l→mfind key' (mdel key l)=match keyEq key' key with|true=>none|false=>mfind key' l
 | [],_,_=>by simp only[mdel,mfind];cases keyEq key' key<;>rfl
 | x::l,h,ho=>by
  have hx:=h x (by simp)
  simp only[mdel]
  cases hb:keyEq key x.key with
  | true =>
   have e:=(keyEq_iff hk hx).1 hb
   simp only[mfind]
   rw[e]
   cases hb':keyEq key' x.key with
   | true =>
    have e':=(keyEq_iff hk' hx).1 hb'
    refine mfind_none_of fun y hy=>?_
    rw[e',keyEq_comm]
    exact ho.1 y hy
   | false=>rfl
  | false =>
   simp only[mfind]
   cases hb':keyEq key' x.key with
   | true =>
    have e:=(keyEq_iff hk' hx).1 hb'
    rw[e,keyEq_comm,hb]
   | false=>exact mfind_mdel hk hk' (fun y hy=>h y (by simp[hy])) ho.2
theorem run_checkKey' {kt:TypeId} {b:Bool} (hd:P.underlying kt=some (desc kk)) {key:Value} (hk:isKey kk key=true):(Instr.checkKey b 10000 kt key).run P w=.ok () w:=by
 refine MapKept.run_checkKey hd ?_ b 9999
 cases kk<;>cases key<;>simp only[isKey] at hk<;>first|contradiction|skip
 ·
  trivial
 ·
  rename_i k n
  cases k<;>first|contradiction|rfl
theorem desc_of {kt:TypeId} (hT:TIok P kt (T kt)) (h:mapKK (T kt)=some kk):P.underlying kt=some (desc kk):=by
 unfold mapKK at h
 cases hk:(T kt).kind<;>simp only[hk] at h<;>first|contradiction|skip
 ·
  rename_i k
  obtain⟨_,_,_,_,_,_,_,_,_,_,_,hK⟩:=hT.known (by rw[hk];simp)
  rw[hk] at hK
  cases k<;>first|contradiction|skip
  cases h
  exact hK
 ·
  obtain⟨_,_,_,_,_,_,_,_,_,_,_,hK⟩:=hT.known (by rw[hk];simp)
  rw[hk] at hK
  cases h
  exact hK
theorem map_put (hr:R S φ h w) {k:Nat} {n n':Nat} {f f':Value→Option AV} (hk:h[k]?=some (.mp kk n f)) {b:Nat} {es es':Array MapEntry} {clock clock':Nat} (hφ:φ k=.obj b) (hb:w.heap[b]?=some (.map es clock)) (hS:∀ a,S a→a.block≠b)
  (hn:es'.size=n') (hm:MapOK S w φ kk es'.toList f'):let w':World:={ w with heap:=w.heap.setIfInBounds b (.map es' clock') }
  R S φ (h.set k (.mp kk n' f')) w'∧Ext S φ h w S φ (h.set k (.mp kk n' f')) w':=by
 intro w'
 obtain⟨g1,g2⟩:=MapKept.heap_set (o':=.map es' clock') hb
 have hlt:=heap_lt hb
 have hupd:upd φ k (.obj b)=φ:=by
  funext j
  by_cases e:j=k
  ·
   subst e;rw[upd_same,hφ]
  ·
   rw[upd_other _ e]
 have hc:∀ a,S a→w'.cell? a=w.cell? a:=fun a ha=>cell_of_heap (g2 _ (hS a ha))
 have:=hr.put (w':=w') (S':=S) (l:=.obj b) (x:=.mp kk n' f') hk rfl rfl rfl (by simp[w']) (fun b' _ hb'=>g2 b' (fun e=>hb' (by rw[hφ,e];rfl))) (fun _ h=>h) hc (fun _ h=>.inl h)
  (fun a ha=>by have:=hr.bnd a ha;simp only[w',Array.size_setIfInBounds];exact this) (by rw[hφ];exact Loc.le_refl _)
  (by
   rw[hupd]
   exact⟨b,es',clock',hφ,g1,hn,hm.mono (fun _ h=>h) hc (fun _=>Loc.le_refl _),hS⟩)
  (fun b' hb'=>by cases hb';exact .inr (by rw[hφ];rfl))
 rw[hupd] at this
 exact this
theorem lookupAV_sound (hT:TabOK P T) (hr:R S φ h w) {t kt vt:TypeId} (hK:P.underlying t=some (.map kt vt)) {ok:Bool} {x y:AV} {u v:Value} (hx:C S w φ x u) (hy:C S w φ y v) {run:Result Next}
  (hrun:∀ z w',(Instr.lookup t u v ok).run P w=.ok z w'→run=.ok (.value z) w'):(lookupAV T h kt vt ok x y).sound S φ h w run:=by
 unfold lookupAV
 split
 ·
  rename_i k key
  have ev:key=v:=by cases hy;rfl
  subst ev
  clear hy
  split
  ·
   trivial
  ·
   rename_i kk n f kk' z hk hkk hz hag hvk
   split
   ·
    rename_i h1 h2
    have h1:=kkEq_eq h1
    subst h1
    cases hx with
    | map _ b hφ =>
    obtain⟨b',es,clock,e1,e2,e3,⟨m1,m2,m3⟩,e5⟩:=hr.blk k _ hk
    rw[hφ] at e1
    cases e1
    have hd:=desc_of (hT kt) hkk
    obtain⟨i,z',hi,hsz,hbs,hz',hzc,hzz,_,_,hzl,_⟩:=(hT vt).known hvk
    have hzz:=hzz hag
    rw[hz] at hzz
    cases hzz
    have hzero:(zeroValue vt).run P w=.ok z w:=by
     simp[zeroValue,typeInfo,hi,hz']
    have hm:=m3 key h2
    have look:∃ o:Option Value,(Instr.lookup t (.map (some b)) key ok).run P w=.ok (match ok with|true=>.tuple #[o.getD z,.bool o.isSome]|false=>o.getD z) w∧o=mfind key es.toList:=by
     rcases findNow_key h2 es.toList 0 m1 with ⟨q1,q2,_⟩|⟨j,e,q0,q1,q2,q3,_⟩
     ·
      refine⟨none,?_,q1.symm⟩
      simp only[Instr.lookup,Sem.run_bind,run_underlying hK,Result.andThen_ok,MapKept.run_getObj_map e2,Sem.run_pure,run_checkKey' hd h2,MapKept.run_findKey hd q2,hzero]
      cases ok<;>rfl
     ·
      refine⟨some e.val,?_,q2.symm⟩
      simp only[Instr.lookup,Sem.run_bind,run_underlying hK,Result.andThen_ok,MapKept.run_getObj_map e2,Sem.run_pure,run_checkKey' hd h2,MapKept.run_findKey hd q3]
      cases ok<;>rfl
    obtain⟨o,hl,ho⟩:=look
    rw[← ho] at hm
    have hc:C S w φ (orZ (f key) (.raw z)) (o.getD z)∧(f key).isSome=o.isSome:=by
     cases o<;>cases hf:f key<;>rw[hf] at hm<;>first|exact hm.elim|skip
     ·
      exact⟨.raw _,rfl⟩
     ·
      exact⟨hm,rfl⟩
    cases ok with
    | true =>
     refine⟨_,w,S,φ,.inl (hrun _ _ hl),?_,hr,Ext.refl _ _ _ _⟩
     rw[hc.2]
     exact .tup _ _ rfl (CAll.cons hc.1 (CAll.one (.raw _))).2
    | false=>exact⟨_,w,S,φ,.inl (hrun _ _ hl),hc.1,hr,Ext.refl _ _ _ _⟩
   ·
    trivial
  ·
   trivial
 ·
  trivial
theorem storeAV_sound (hT:TabOK P T) (hr:R S φ h w) {t kt vt:TypeId} (hK:P.underlying t=some (.map kt vt)) {x y q:AV} {u v r:Value} (hx:C S w φ x u) (hy:C S w φ y v) (hq:C S w φ q r) {run:Result Next}
  (hrun:∀ w',(Instr.mapUpdate t u v r).run P w=.ok () w'→run=.ok .skip w'):(storeAV T h kt x y q).sound S φ h w run:=by
 unfold storeAV
 split
 ·
  rename_i k key
  have ev:key=v:=by cases hy;rfl
  subst ev
  clear hy
  split
  ·
   rename_i kk n f kk' hk hkk htf
   split
   ·
    rename_i h1 h2
    have h1:=kkEq_eq h1
    subst h1
    cases hx with
    | map _ b hφ =>
    obtain⟨b',es,clock,e1,e2,e3,⟨m1,m2,m3⟩,e5⟩:=hr.blk k _ hk
    rw[hφ] at e1
    cases e1
    have hd:=desc_of (hT kt) hkk
    have hm:=m3 key h2
    rcases findNow_key h2 es.toList 0 m1 with ⟨q1,q2,_,_,q5⟩|⟨j,e,q0,q1,q2,q3,_,q6⟩
    ·
     have hfn:f key=none:=by
      rw[q1] at hm
      cases hf:f key with
      | none=>rfl
      | some a=>rw[hf] at hm;exact hm.elim
     have hput:=map_put hr hk hφ e2 e5 (es':=es.push ⟨key,r,clock⟩) (clock':=clock+1) (n':=more (f key) n) (f':=mput f key q) (by rw[hfn];simp[more,e3]) (by
      refine⟨fun x hx=>?_,?_,fun key' hk'=>?_⟩
      ·
       simp only[Array.toList_push,List.mem_append,List.mem_singleton] at hx
       rcases hx with hx|rfl
       ·
        exact m1 x hx
       ·
        exact h2
      ·
       rw[Array.toList_push];exact once_push m2 q5
      ·
       rw[Array.toList_push,mfind_push q1]
       have:=m3 key' hk'
       unfold mput
       cases hb:keyEq key' key with
       | true =>
        have e:=(keyEq_iff hk' h2).1 hb
        subst e
        rw[q1]
        exact hq
       | false =>
        revert this
        cases mfind key' es.toList<;>cases f key'<;>intro hh<;>exact hh)
     refine⟨undef,_,S,φ,.inr ⟨hrun _ ?_,rfl⟩,C.undef_,hput.1,hput.2⟩
     simp only[Instr.mapUpdate,Sem.run_bind,run_underlying hK,Result.andThen_ok,MapKept.run_getObj_map e2,run_checkKey' hd h2,MapKept.run_findKey hd q2,MapKept.run_setObj_map _ e2]
    ·
     have hfs:∃ a,f key=some a:=by
      rw[q2] at hm
      cases hf:f key with
      | none=>rw[hf] at hm;exact hm.elim
      | some a=>exact⟨a,rfl⟩
     obtain⟨a,hfs⟩:=hfs
     have hmod:(es.modify j fun e=>{ e with key:=key,val:=r }).toList=mset key r es.toList:=by
      rw[q6 r]
      apply List.ext_getElem?
      intro i
      rw[List.getElem?_set,Array.getElem?_toList,Array.getElem?_modify]
      have hj:es[j]?=some e:=by simpa using q0
      have hjl:j<es.size:=(Array.getElem?_eq_some_iff.1 hj).1
      by_cases hij:j=i
      ·
       subst hij
       have he:es[j]=e:=by rw[Array.getElem?_eq_getElem hjl] at hj;cases hj;rfl
       simp[hjl,he]
      ·
       simp[hij]
     have hput:=map_put hr hk hφ e2 e5 (es':=es.modify j fun e=>{ e with key:=key,val:=r }) (clock':=clock) (n':=more (f key) n) (f':=mput f key q) (by rw[hfs];simp[more,e3]) (by
      rw[hmod]
      refine⟨keys_mset h2 m1,once_mset h2 m1 m2,fun key' hk'=>?_⟩
      rw[mfind_mset h2 hk' m1 (by rw[q2];rfl)]
      have:=m3 key' hk'
      unfold mput
      cases hb:keyEq key' key with
      | true=>exact hq
      | false=>exact this)
     refine⟨undef,_,S,φ,.inr ⟨hrun _ ?_,rfl⟩,C.undef_,hput.1,hput.2⟩
     have hstay:∀ old:Value,keyEq key old=true→isKey kk old=true→(Instr.keyThatStays old key).run P w=.ok key w:=by
      intro old ho hko
      have:=(keyEq_iff h2 hko).1 ho
      subst this
      have hsb:Instr.sameBits 10000 key key=true:=by
       cases kk<;>cases key<;>simp only[isKey] at h2<;>first|contradiction|skip
       ·
        simp[Instr.sameBits,beq_toListBytes]
       ·
        simp[Instr.sameBits]
      simp[Instr.keyThatStays,hsb]
     have hj:es[0+j]?=some e:=by rw[Nat.zero_add];simpa using q0
     have hke:isKey kk e.key=true:=m1 e (List.mem_of_getElem? q0)
     simp only[Instr.mapUpdate,Sem.run_bind,run_underlying hK,Result.andThen_ok,MapKept.run_getObj_map e2,run_checkKey' hd h2,MapKept.run_findKey hd q3,hj,Option.map_some,Option.getD_some,hstay e.key q1 hke,MapKept.run_setObj_map _ e2]
     rw[Nat.zero_add]
   ·
    trivial
  ·
   trivial
 ·
  trivial
theorem deleteAV_sound (hT:TabOK P T) (hr:R S φ h w) {t u' kt vt ty:TypeId} (hK:P.underlying t=some (.map kt vt)) {x y:AV} {u v:Value} (hx:C S w φ x u) (hy:C S w φ y v) {run:Result Next}
  (hrun:∀ z w',(Builtin.delete_ #[t,u'] ty #[u,v]).run P w=.ok z w'→run=.ok (.value z) w'):(deleteAV T h kt x y).sound S φ h w run:=by
 unfold deleteAV
 split
 ·
  rename_i k key
  have ev:key=v:=by cases hy;rfl
  subst ev
  clear hy
  split
  ·
   rename_i kk n f kk' hk hkk
   split
   ·
    rename_i h1 h2
    have h1:=kkEq_eq h1
    subst h1
    cases hx with
    | map _ b hφ =>
    obtain⟨b',es,clock,e1,e2,e3,⟨m1,m2,m3⟩,e5⟩:=hr.blk k _ hk
    rw[hφ] at e1
    cases e1
    have hd:=desc_of (hT kt) hkk
    have hm:=m3 key h2
    have hok:∀ key',isKey kk key'=true→match mfind key' (mdel key es.toList),mcut f key key' with|none,none=>True|some v,some a=>C S w φ a v|_,_=>False:=by
     intro key' hk'
     rw[mfind_mdel h2 hk' m1 m2]
     unfold mcut
     cases hb:keyEq key' key with
     | true=>trivial
     | false=>exact m3 key' hk'
    rcases findNow_key h2 es.toList 0 m1 with ⟨q1,q2,q3,_⟩|⟨j,e,q0,q1,q2,q3,q4,_⟩
    ·
     have hfn:f key=none:=by
      rw[q1] at hm
      cases hf:f key with
      | none=>rfl
      | some a=>rw[hf] at hm;exact hm.elim
     have hput:=map_put hr hk hφ e2 e5 (es':=es) (clock':=clock) (n':=less (f key) n) (f':=mcut f key) (by rw[hfn];exact e3) (by
      refine⟨m1,m2,fun key' hk'=>?_⟩
      have:=hok key' hk'
      rw[q3] at this
      exact this)
     refine⟨_,_,S,φ,.inl (hrun (.tuple #[]) _ ?_),.tup [] #[] rfl (fun i a v h=>by simp at h),hput.1,hput.2⟩
     simp[Builtin.delete_,run_underlying hK,MapKept.run_getObj_map e2,run_checkKey' hd h2,MapKept.run_findKey hd q2,MapKept.run_setObj_map _ e2]
    ·
     have hfs:∃ a,f key=some a:=by
      rw[q2] at hm
      cases hf:f key with
      | none=>rw[hf] at hm;exact hm.elim
      | some a=>exact⟨a,rfl⟩
     obtain⟨a,hfs⟩:=hfs
     have hj:es[j]?=some e:=by simpa using q0
     have hjl:j<es.size:=(Array.getElem?_eq_some_iff.1 hj).1
     have hdel:(es.eraseIdxIfInBounds j).toList=mdel key es.toList:=by
      rw[q4,Array.eraseIdxIfInBounds,dif_pos hjl,Array.toList_eraseIdx]
     have hput:=map_put hr hk hφ e2 e5 (es':=es.eraseIdxIfInBounds j) (clock':=clock) (n':=less (f key) n) (f':=mcut f key) (by
      rw[hfs,Array.eraseIdxIfInBounds,dif_pos hjl,Array.size_eraseIdx,e3];rfl) (by
      rw[hdel]
      exact⟨fun x hx=>m1 x (mdel_sub hx),once_mdel m2,hok⟩)
     refine⟨_,_,S,φ,.inl (hrun (.tuple #[]) _ ?_),.tup [] #[] rfl (fun i a v h=>by simp at h),hput.1,hput.2⟩
     rw[Nat.zero_add] at q3
     simp[Builtin.delete_,run_underlying hK,MapKept.run_getObj_map e2,run_checkKey' hd h2,MapKept.run_findKey hd q3,MapKept.run_setObj_map _ e2]
   ·
    trivial
  ·
   trivial
 ·
  trivial
theorem lenMapAV_sound (hr:R S φ h w) {t kt vt ty:TypeId} (hK:P.underlying t=some (.map kt vt)) {x:AV} {u:Value} (hx:C S w φ x u) {run:Result Next}
  (hrun:∀ z w',(Builtin.len_ #[t] ty #[u]).run P w=.ok z w'→run=.ok (.value z) w'):(lenMapAV h x).sound S φ h w run:=by
 unfold lenMapAV
 split
 ·
  rename_i k
  split
  ·
   rename_i kk n f hk
   cases hx with
   | map _ b hφ =>
   obtain⟨b',es,clock,e1,e2,e3,_,e5⟩:=hr.blk k _ hk
   rw[hφ] at e1
   cases e1
   subst e3
   exact⟨_,w,S,φ,.inl (hrun _ _ (by simp[Builtin.len_,run_underlying hK,MapKept.run_getObj_map e2,goInt])),.raw _,hr,Ext.refl _ _ _ _⟩
  ·
   trivial
 ·
  trivial
theorem makeMap_sound (hr:R S φ h w) (kk:KK) {t:TypeId} {run:Result Next} (hrun:∀ z w',(Instr.makeMap t none).run P w=.ok z w'→run=.ok (.value z) w') :
  HSound S φ h w run (.map h.length) (h++[.mp kk 0 (fun _=>none)]):=by
 have hpush:=hr.push (l:=.obj w.heap.size) (x:=.mp kk 0 (fun _=>none)) (S':=S) (w':=w.alloc (.map #[] 0)) rfl rfl rfl (by show _≤(w.heap.push _).size;simp) (fun b hb=>alloc_heap _ _ _ hb) (fun _ h=>h) (fun _ h=>.inl h)
  (fun a ha=>by have:=hr.bnd a ha;show _<(w.heap.push _).size;simp;omega)
  ⟨w.heap.size,#[],0,upd_same _ _ _,(MapKept.heap_alloc w _).1,rfl,⟨by simp,trivial,fun key _=>trivial⟩,fun a ha e=>by have:=hr.bnd a ha;omega⟩
  (fun b hb=>by cases hb;exact Nat.le_refl _)
 exact⟨_,_,S,_,.inl (hrun _ _ (run_makeMap t w)),.map _ _ (upd_same _ _ _),hpush.1,hpush.2⟩
theorem own_put (hr:R S φ h w) {k:Nat} {e:TypeId} {sz:Nat} {es es':List AV} (hk:h[k]?=some (.own e sz es)) {u0:Value} (hφ:φ k=.tok es.length u0) {w':World} (hos:w'.os=w.os) (htape:w'.tape=w.tape) (hout:w'.output=w.output) (hsize:w.heap.size≤w'.heap.size)
  {b cap:Nat} {vs:Array Value} (hw:∀ b',b'<w.heap.size→blockOf (φ k) (.own e sz es)≠some b'→w'.heap[b']?=w.heap[b']?) (hb:w'.heap[b]?=some (.cells vs e (0,0))) (hbn:w.heap.size≤b∨blockOf (φ k) (.own e sz es)=some b)
  (hcap:es'.length≤cap) (hmax:cap≤maxLen) (hvs:vs.size=cap * sz) (hsz:∀ x∈es',x.cells.length=sz) (hlt:es.length<es'.length) (hcells:∀(j:Nat) c,(flat es')[j]?=some c→∃ x,vs[j]?=some x∧C S w φ c x∧x.oneCell'=true) (hone:sz=1∨∀(j:Nat) v,es'.length * sz≤j→vs[j]?=some v→v.oneCell'=true) :
  ∃ φ',C S w' φ' (.own sz k es'.length) (.slice (some ⟨b,0,none⟩) es'.length cap)∧R S φ' (h.set k (.own e sz es')) w'∧Ext S φ h w S φ' (h.set k (.own e sz es')) w':=by
 have hS:∀ a,S a→blockOf (φ k) (.own e sz es)≠some a.block:=by
  intro a ha hbk
  obtain⟨u,h1,h2,h3⟩:=hr.blk k _ hk
  rw[h1] at hbk
  rcases h3 with ⟨rfl,_⟩|⟨b',cap',vs',g1,g2,rfl,g4,g5,g6,g7,g8⟩
  ·
   simp[blockOf] at hbk
  ·
   simp only[blockOf,Option.some.injEq] at hbk
   exact g7 a ha hbk.symm
 have hc:∀ a,S a→w'.cell? a=w.cell? a:=fun a ha=>cell_of_heap (hw _ (hr.bnd a ha) (hS a ha))
 have hle:(φ k).le (.tok es'.length (.slice (some ⟨b,0,none⟩) es'.length cap)):=by
  rw[hφ]
  exact⟨_,_,rfl,by omega,fun e=>by omega⟩
 have hlej:∀ j,(φ j).le (upd φ k (.tok es'.length (.slice (some ⟨b,0,none⟩) es'.length cap)) j):=by
  intro j
  by_cases ej:j=k
  ·
   subst ej;rw[upd_same];exact hle
  ·
   rw[upd_other _ ej];exact Loc.le_refl _
 have hput:=hr.put (S':=S) (w':=w') (l:=.tok es'.length (.slice (some ⟨b,0,none⟩) es'.length cap)) (x:=.own e sz es') hk hos htape hout hsize hw (fun _ h=>h) hc (fun _ h=>.inl h)
  (fun a ha=>Nat.lt_of_lt_of_le (hr.bnd a ha) hsize) hle
  (by
   refine⟨_,upd_same _ _ _,hsz,.inr ⟨b,cap,vs,hcap,hmax,rfl,hb,hvs,fun j c hj=>?_,fun a ha e=>?_,hone⟩⟩
   ·
    obtain⟨x,q1,q2,q3⟩:=hcells j c hj
    exact⟨x,q1,q2.mono (fun _ h=>h) hc hlej,q3⟩
   ·
    rcases hbn with g|g
    ·
     have:=hr.bnd a ha;omega
    ·
     exact hS a ha (by rw[e];exact g))
  (fun b' hb'=>by cases hb';exact hbn)
 exact⟨_,.own _ _ _ _ _ hcap hmax ⟨_,_,upd_same _ _ _,Nat.le_refl _,fun _=>rfl⟩,hput.1,hput.2⟩
theorem zeroCells_mem {z:Array Value} {n:Nat} {v:Value} (h:v∈Builtin.zeroCells z n):v∈z.toList:=by
 unfold Builtin.zeroCells at h
 obtain⟨i,hi,rfl⟩:=Array.mem_map.1 h
 have hlt:i<n * z.size:=by simpa using hi
 have hz:0<z.size:=by
  rcases Nat.eq_zero_or_pos z.size with e|e
  ·
   rw[e,Nat.mul_zero] at hlt;omega
  ·
   exact e
 have hm:=Nat.mod_lt i hz
 rw[getElem!_pos z _ hm]
 exact Array.getElem_mem_toList hm
theorem append_own_sound (hT:TabOK P T) (hr:R S φ h w) {t e:TypeId} (hK:P.underlying t=some (.slice e)) (hke:(T e).kind≠.other) (hby:(T e).bytes≤32768) {es xs:List AV} {k:Nat} {tok:Option Nat} {v0 v:Value}
  (h0:C S w φ (.own (T e).size k es.length) v0) (hx:C S w φ (.lst (T e).size xs tok) v) (hk:h[k]?=some (.own e (T e).size es)) (hle:es.length+xs.length≤4294967296) (ty:TypeId) :
  ∃ u w' S' φ',(Builtin.append_ #[t,t] ty #[v0,v]).run P w=.ok u w'∧C S' w' φ' (.own (T e).size k (es++xs).length) u∧R S' φ' (h.set k (.own e (T e).size (es++xs))) w'∧Ext S φ h w S' φ' (h.set k (.own e (T e).size (es++xs))) w':=by
 obtain⟨i,z,hi,hsz,hbs,hz,hzc,_,_,hz1,hzl,_⟩:=(hT e).known hke
 have hzs:z.cells.size=(T e).size:=by rw[← Array.length_toList,hzc];exact hzl
 have hfitb:∀ n,n≤4294967296→n * i.bytes≤140737488355328:=by
  intro n hn
  rw[hbs]
  have:=Nat.mul_le_mul hn hby
  omega
 obtain⟨u0,hφk,hes,hroom⟩:=hr.blk k _ hk
 obtain⟨ad,m,cap,rfl,hm,hcapm,hmaxm,hnil⟩:=hx.slice_form
 have hv0:v0=u0:=by
  cases h0 with
  | own _ _ _ a cap0 _ _ ht =>
   obtain⟨n',u',e1,_,e3⟩:=ht
   rw[hφk] at e1
   cases e1
   exact e3 rfl
 have hsame:h.set k (.own e (T e).size es)=h:=by
  apply List.ext_getElem?
  intro j
  rw[List.getElem?_set]
  by_cases ej:k=j
  ·
   subst ej;rw[if_pos rfl,if_pos (lookupD hk)];exact hk.symm
  ·
   rw[if_neg ej]
 by_cases hm0:m=0
 ·
  subst hm0
  have hx0:xs=[]:=List.eq_nil_of_length_eq_zero hm
  subst hx0
  refine⟨v0,w,S,φ,?_,by rw[List.append_nil];exact h0,by rw[List.append_nil,hsame];exact hr,by rw[List.append_nil,hsame];exact Ext.refl _ _ _ _⟩
  have hnone:∀ b:Option Addr,(Builtin.firstCells (T e).size 0 (.slice b 0 cap)).run P w=.ok #[] w:=by
   intro b
   cases b<;>simp[Builtin.firstCells,loadCells,loadCellsFrom]
  subst hv0
  rcases hroom with ⟨rfl,_⟩|⟨b,cap0,vs,g1,g2,rfl,_⟩
  ·
   simp[Builtin.append_,run_underlying hK,sizeOf,typeInfo,hi,Builtin.lenOf,hsz,hnone]
  ·
   have h1:es.length+0≤cap0:=by omega
   simp[Builtin.append_,run_underlying hK,sizeOf,typeInfo,hi,Builtin.lenOf,g1,hsz,hnone,storeCells]
 ·
  have hxs:xs≠[]:=fun e0=>hm0 (by rw[← hm,e0];rfl)
  cases ad with
  | none=>exact absurd (hnil rfl) hxs
  | some ad =>
   obtain⟨news,q1,q2,q3,q4,q5,q6,_⟩:=C.vals hx
   have hlen:(es++xs).length=es.length+m:=by rw[List.length_append,hm]
   have hall:∀ e'∈es++xs,e'.cells.length=(T e).size:=fun e' he'=>by
    rcases List.mem_append.1 he' with g|g
    ·
     exact hes e' g
    ·
     exact q5 e' g
   have moved:∀(olds:List Value) (cap0:Nat),olds.length=es.length * (T e).size→(∀(j:Nat) c,(flat es)[j]?=some c→∃ u,olds[j]?=some u∧C S w φ c u∧u.oneCell'=true) →
     ∃ φ',C S (w.drew.alloc (.cells (olds.toArray++news.toArray++Builtin.zeroCells z.cells (grownCap w (es.length+m) cap0 e-(es.length+m))) e)) φ' (.own (T e).size k (es++xs).length) (.slice (some ⟨w.heap.size,0,none⟩) (es.length+m) (grownCap w (es.length+m) cap0 e)) ∧
      R S φ' (h.set k (.own e (T e).size (es++xs))) (w.drew.alloc (.cells (olds.toArray++news.toArray++Builtin.zeroCells z.cells (grownCap w (es.length+m) cap0 e-(es.length+m))) e)) ∧
      Ext S φ h w S φ' (h.set k (.own e (T e).size (es++xs))) (w.drew.alloc (.cells (olds.toArray++news.toArray++Builtin.zeroCells z.cells (grownCap w (es.length+m) cap0 e-(es.length+m))) e)):=by
    intro olds cap0 ho1 ho2
    have hge:=grownCap_ge w (es.length+m) cap0 e
    have hcm:=grownCap_le_maxLen w (es.length+m) cap0 e (by simp only[maxLen];omega)
    generalize grownCap w (es.length+m) cap0 e=cap' at hge hcm
    have hcells:=grow_new (S:=S) (w:=w) (φ:=φ) hall (olds:=olds) (news:=news) ho1 ho2 q4
    have hvs:(olds.toArray++news.toArray++Builtin.zeroCells z.cells (cap'-(es.length+m))).size=cap' * (T e).size:=by
     simp only[Array.size_append,zeroCells_size,hzs,List.size_toArray,ho1,q1,← Nat.add_mul];congr 1;omega
    have:=own_put hr hk hφk (w':=w.drew.alloc (.cells (olds.toArray++news.toArray++Builtin.zeroCells z.cells (cap'-(es.length+m))) e)) rfl rfl rfl (by show _≤(w.heap.push _).size;simp)
     (b:=w.heap.size) (cap:=cap') (es':=es++xs) (fun b' hb' _=>alloc_heap _ _ _ hb') (heap_alloc_new w.drew _) (.inl (Nat.le_refl _)) (by omega) hcm hvs hall (by omega)
     (fun j c hj=>by
      obtain⟨u,hu,hcu⟩:=hcells j c hj
      refine⟨u,?_,hcu⟩
      have hjl:=lookupD hu
      rw[Array.getElem?_append_left (by simpa using hjl),List.append_toArray]
      simpa using hu)
     (.inr fun j v hj hv=>by
      rw[Array.getElem?_append_right (by
       simp only[Array.size_append,List.size_toArray,ho1,q1,← Nat.add_mul]
       rw[hlen] at hj;exact hj)] at hv
      exact hz1 v (by rw[← hzc];exact zeroCells_mem (Array.mem_of_getElem? hv)))
    rw[hlen] at this ⊢
    exact this
   subst hv0
   rcases hroom with ⟨rfl,he0⟩|⟨b,cap0,vs,g1,g2,rfl,g4,g5,g6,g7,g8⟩
   ·
    subst he0
    have hrun:=run_append_nil (P:=P) w t ty e i z hK hi hz ad m cap news (by rw[hsz];exact q1) q2 (by omega) (by omega) (by have:=hfitb m (by simpa[hm] using hle);omega)
    obtain⟨φ',k1,k2,k3⟩:=moved [] 0 (by simp) (fun j c hj=>by simp[flat] at hj)
    simp only[List.length_nil,Nat.zero_add,Array.empty_append] at k1 k2 k3 hrun
    exact⟨_,_,S,φ',hrun,k1,k2,k3⟩
   ·
    obtain⟨us,hul,hu⟩:=exists_vals (flat es) g6
    have hfe:=flat_length hes
    have hmulc:es.length * (T e).size≤cap0 * (T e).size:=Nat.mul_le_mul_right _ g1
    by_cases hin:es.length+m≤cap0
    ·
     have hsum:es.length * (T e).size+m * (T e).size=(es.length+m) * (T e).size:=(Nat.add_mul _ _ _).symm
     have hmul:(es.length+m) * (T e).size≤cap0 * (T e).size:=Nat.mul_le_mul_right _ hin
     have hfit:es.length * i.size+news.length≤vs.size:=by rw[hsz,q1,g5];omega
     have hrun:=run_append_room (P:=P) w t ty e i hK hi b es.length cap0 vs g4 ad m cap news (by rw[hsz];exact q1) q2 q3 hin hfit
     rw[hsz,q1] at hrun
     generalize hvs':(vs.toList.take (es.length * (T e).size)++news++vs.toList.drop (es.length * (T e).size+m * (T e).size)).toArray=vs' at hrun
     have hvsz:vs'.size=vs.size:=by
      rw[← hvs']
      simp only[List.size_toArray,List.length_append,List.length_take,List.length_drop,Array.length_toList,q1]
      omega
     have hget:∀ j,vs'[j]?=if es.length * (T e).size≤j∧j<(es.length+m) * (T e).size then news[j-es.length * (T e).size]? else vs[j]?:=by
      intro j
      rw[← hvs']
      simp only[List.getElem?_toArray,List.append_assoc]
      rw[List.getElem?_append,List.length_take,show vs.toList.length=vs.size from rfl]
      have emin:min (es.length * (T e).size) vs.size=es.length * (T e).size:=by omega
      rw[emin]
      by_cases c1:j<es.length * (T e).size
      ·
       rw[if_pos c1,if_neg (by omega),List.getElem?_take,if_pos c1];simp
      ·
       rw[if_neg c1,List.getElem?_append,q1]
       by_cases c2:j<(es.length+m) * (T e).size
       ·
        rw[if_pos (by omega),if_pos (by omega)]
       ·
        rw[if_neg (by omega),if_neg (by omega),List.getElem?_drop]
        have:es.length * (T e).size+m * (T e).size+(j-es.length * (T e).size-m * (T e).size)=j:=by omega
        rw[this];simp
     have hown:blockOf (φ k) (.own e (T e).size es)=some b:=by rw[hφk];rfl
     obtain⟨φ',k1,k2,k3⟩:=own_put hr hk hφk (w':=w.setRow b vs') rfl rfl rfl (by simp[World.setRow]) (b:=b) (cap:=cap0) (es':=es++xs)
      (fun b' _ hne=>setRow_other w b b' vs' (fun e0=>hne (by rw[e0];exact hown))) (setRow_heap w b vs vs' e (0,0) g4) (.inr hown) (by omega) g2 (by rw[hvsz,g5]) hall (by omega)
      (fun j c hj=>by
       have hjl:=lookupD hj
       rw[flat_length hall,hlen] at hjl
       rw[flat_append] at hj
       by_cases c1:j<es.length * (T e).size
       ·
        rw[List.getElem?_append_left (by omega)] at hj
        obtain⟨x,x1,x2,x3⟩:=g6 j c hj
        exact⟨x,by rw[hget,if_neg (by omega)];exact x1,x2,x3⟩
       ·
        rw[List.getElem?_append_right (by omega),hfe] at hj
        obtain⟨x,x1,x2,x3⟩:=q4 _ c hj
        exact⟨x,by rw[hget,if_pos (by omega)];exact x1,x2,x3⟩)
      (g8.imp_right fun g8 j v hj hv=>by
       rw[hlen] at hj
       rw[hget,if_neg (by omega)] at hv
       exact g8 j v (by omega) hv)
     rw[hlen] at k1 ⊢
     exact⟨_,_,S,φ',hrun,k1,k2,k3⟩
    ·
     have hold:∀(j:Nat) u,(vs.toList.take (es.length * (T e).size))[j]?=some u→w.cell? ((⟨b,0,none⟩:Addr).add j)=some u:=by
      intro j u hju
      rw[List.getElem?_take] at hju
      split at hju
      ·
       rw[add_lit];simp only[World.cell?,g4];simpa using hju
      ·
       cases hju
     have hol:(vs.toList.take (es.length * (T e).size)).length=es.length * (T e).size:=by rw[List.length_take,show vs.toList.length=vs.size from rfl];omega
     have hrun:=run_append_grow (P:=P) w t ty e i z hK hi hz ⟨b,0,none⟩ es.length cap0 (vs.toList.take (es.length * (T e).size)) (by rw[hsz];exact hol) hold ad m cap news (by rw[hsz];exact q1) q2 (by omega) (by omega) (growslice_fits (by omega) (hfitb _ (by omega)))
     obtain⟨φ',k1,k2,k3⟩:=moved _ cap0 hol (fun j c hj=>by
      obtain⟨x,x1,x2,x3⟩:=g6 j c hj
      have hjl:=lookupD hj
      rw[hfe] at hjl
      exact⟨x,by rw[List.getElem?_take,if_pos hjl];simpa using x1,x2,x3⟩)
     exact⟨_,_,S,φ',hrun,k1,k2,k3⟩
end
end Go.Abs
namespace Go.Abs
open Go.RowKit
section
variable {P:Program} {T:TypeId→TI} {S:Addr→Prop} {φ:Nat→Loc} {h:List Blk} {w:World} {s:List AV} {a:Act}
theorem append_cut_sound (hT:TabOK P T) (hr:R S φ h w) {t e:TypeId} (hK:P.underlying t=some (.slice e)) (hke:(T e).kind≠.other) (hby:(T e).bytes≤32768) {es xs:List AV} {k:Nat} {tok:Option Nat} {v0 v:Value}
  (h0:C S w φ (.lst (T e).size es (some k)) v0) (hx:C S w φ (.lst (T e).size xs tok) v) (hk:h[k]?=some (.cut e (T e).size es.length)) (hle:es.length+xs.length≤4294967296) (ty:TypeId) :
  ∃ u w' S' φ',(Builtin.append_ #[t,t] ty #[v0,v]).run P w=.ok u w'∧C S' w' φ' (.lst (T e).size (es++xs) (some h.length)) u∧R S' φ' (h++[.tok e (T e).size (es++xs).length]) w'∧Ext S φ h w S' φ' (h++[.tok e (T e).size (es++xs).length]) w':=by
 obtain⟨u0,hφk,hroom⟩:=hr.blk k _ hk
 have htok:TokOK φ (some k) es.length v0:=by
  cases h0 with
  | lst _ _ _ _ _ _ _ hlen _ _ _ _ _ _ ht=>rw[hlen];exact ht
  | lstnil _ _ ht=>exact ht
 have hv0:v0=u0:=by
  obtain⟨n',u',e1,_,e3⟩:=htok
  rw[hφk] at e1
  cases e1
  exact e3 rfl
 subst hv0
 have hfr:φ h.length=.no:=hr.fresh _ (Nat.le_refl _)
 have hlej:∀ l j,(φ j).le (upd φ h.length l j):=by
  intro l j
  by_cases ej:j=h.length
  ·
   subst ej;rw[hfr];trivial
  ·
   rw[upd_other _ ej];exact Loc.le_refl _
 obtain⟨p1,p2⟩:=hr.push (l:=.tok es.length v0) (x:=.tok e (T e).size es.length) (S':=S) (w':=w) rfl rfl rfl (Nat.le_refl _) (fun _ _=>rfl) (fun _ h=>h) (fun _ h=>.inl h) hr.bnd
  (by
   refine⟨_,upd_same _ _ _,?_⟩
   rcases hroom with g|g
   ·
    exact .inl g
   ·
    exact .inr (.inl g))
  (fun b hb=>by rcases hroom with ⟨rfl,g⟩|⟨a,rfl⟩<;>simp[blockOf] at hb)
 have hmono:∀ {c u},C S w φ c u→C S w (upd φ h.length (.tok es.length v0)) c u:=fun hcu=>hcu.mono (fun _ h=>h) (fun _ _=>rfl) (hlej _)
 have h0':C S w (upd φ h.length (.tok es.length v0)) (.lst (T e).size es (some h.length)) v0:=by
  have ht':TokOK (upd φ h.length (.tok es.length v0)) (some h.length) es.length v0:=⟨_,_,upd_same _ _ _,Nat.le_refl _,fun _=>rfl⟩
  cases h0 with
  | lst _ _ _ a len cap u hlen hcap hmax hsz hm hc h1 ht =>
   subst hlen
   exact .lst _ _ _ a _ cap u rfl hcap hmax hsz hm (fun j c hj=>hmono (hc j c hj)) h1 ht'
  | lstnil _ _ ht=>exact .lstnil _ _ ht'
 obtain⟨v1,w',S',φ',g1,g2,g3,g4⟩:=append_tok_sound hT p1 hK hke hby h0' (hmono hx) (k:=h.length) (by simp) hle ty
 have e1:(h++[Blk.tok e (T e).size es.length]).set h.length (.tok e (T e).size (es++xs).length)=h++[.tok e (T e).size (es++xs).length]:=by
  rw[List.set_append_right _ _ (Nat.le_refl _)]
  simp
 rw[e1] at g3 g4
 exact⟨v1,w',S',φ',g1,g2,g3,p2.trans g4⟩
theorem isZ8_eq {l:List Value} (h:isZ8 l=true):l=[.int .u8 0]:=by
 unfold isZ8 at h
 split at h
 ·
  rw[of_decide_eq_true h]
 ·
  cases h
theorem strU_len (b:ByteArray):(strU b).length=b.size:=by
 unfold strU
 rw[List.length_map,Array.length_toList]
 rfl
theorem strU_flat:∀ l:List UInt8,flat (l.map fun c=>AV.raw (.int .u8 c.toNat))=l.map fun c=>AV.raw (.int .u8 c.toNat)
 | []=>rfl
 | c::l=>by
  have:=strU_flat l
  simp only[List.map_cons]
  rw[show((AV.raw (.int .u8 c.toNat))::l.map fun c=>AV.raw (.int .u8 c.toNat))=[AV.raw (.int .u8 c.toNat)]++l.map (fun c=>AV.raw (.int .u8 c.toNat)) from rfl,flat_append,this]
  rfl
theorem append_str_sound (hT:TabOK P T) (hr:R S φ h w) {t u e:TypeId} (hK:P.underlying t=some (.slice e)) (hU:P.underlying u=some .string) (hke:(T e).kind≠.other) (hag:(T e).agg=false) (h1:(T e).size=1) (hby:(T e).bytes=1) (hz8:(T e).zero=[.int .u8 0]) {es:List AV} {k:Nat} {b:ByteArray} {v0:Value}
  (h0:C S w φ (.own 1 k es.length) v0) (hk:h[k]?=some (.own e 1 es)) (hpos:0<b.size) (hle:es.length+b.size≤4294967296) (ty:TypeId) :
  ∃ v w' S' φ',(Builtin.append_ #[t,u] ty #[v0,.string b]).run P w=.ok v w'∧C S' w' φ' (.own 1 k (es++strU b).length) v∧R S' φ' (h.set k (.own e 1 (es++strU b))) w'∧Ext S φ h w S' φ' (h.set k (.own e 1 (es++strU b))) w':=by
 obtain⟨i,z,hi,hsz,hbs,hz,hzc,hzf,_,_,hzl,_⟩:=(hT e).known hke
 have hz0:z=.int .u8 0:=by
  have:=hzf hag
  rw[hz8] at this
  exact(List.cons.inj this).1.symm
 subst hz0
 obtain⟨u0,hφk,hes,hroom⟩:=hr.blk k _ hk
 have hv0:v0=u0:=by
  cases h0 with
  | own _ _ _ a cap0 _ _ ht =>
   obtain⟨n',u',e1,_,e3⟩:=ht
   rw[hφk] at e1
   cases e1
   exact e3 rfl
 subst hv0
 have hfe:=flat_length hes
 rw[Nat.mul_one] at hfe
 have hlen:(es++strU b).length=es.length+b.size:=by rw[List.length_append,strU_len]
 have hall:∀ e'∈es++strU b,e'.cells.length=1:=fun e' he'=>by
  rcases List.mem_append.1 he' with g|g
  ·
   exact hes e' g
  ·
   unfold strU at g
   obtain⟨c,_,rfl⟩:=List.mem_map.1 g
   rfl
 obtain⟨xs,hxl,hxo,hxc⟩:∃ xs:List Value,xs.length=es.length∧w.ownsRow 0 e 1 v0 es.length xs∧∀(j:Nat) c,(flat es)[j]?=some c→∃ x,xs[j]?=some x∧C S w φ c x∧x.oneCell'=true:=by
  rcases hroom with ⟨rfl,he0⟩|⟨g,cap,vs,g1,g2,rfl,g4,g5,g6,g7,g8⟩
  ·
   subst he0
   exact⟨[],rfl,⟨rfl,.inl ⟨rfl,rfl⟩⟩,fun j c hj=>by simp[flat] at hj⟩
  ·
   refine⟨vs.toList.take es.length,?_,⟨?_,.inr ⟨g,cap,vs,rfl,Nat.zero_le _,g4,g1,g2,g5,by rw[Nat.mul_one]⟩⟩,fun j c hj=>?_⟩
   ·
    rw[List.length_take,show vs.toList.length=vs.size from rfl];omega
   ·
    rw[List.length_take,show vs.toList.length=vs.size from rfl];omega
   ·
    obtain⟨x,x1,x2,x3⟩:=g6 j c hj
    have hjl:=lookupD hj
    exact⟨x,by rw[List.getElem?_take,if_pos (by omega)];simpa using x1,x2,x3⟩
 have hbk:blockOf (φ k) (.own e 1 es)=v0.ownBlock:=by
  rw[hφk]
  rcases hroom with ⟨rfl,_⟩|⟨g',cap',vs',_,_,rfl,_⟩<;>rfl
 have fin:∀(v':Value) (w':World) (g cap:Nat) (cur:Array Value),(Builtin.append_ #[t,u] ty #[v0,.string b]).run P w=.ok v' w'→w.grownBy w' v0.ownBlock→v'=.slice (some ⟨g,0,none⟩) (es.length+b.size) cap→w'.heap[g]?=some (.cells cur e (0,0))→es.length+b.size≤cap→cap≤maxLen→cur.size=cap * 1 →
   cur.toList.take (es.length+b.size)=xs++Lib.strCells b→(w.heap.size≤g∨v0.ownBlock=some g) →
   ∃ v w' S' φ',(Builtin.append_ #[t,u] ty #[v0,.string b]).run P w=.ok v w'∧C S' w' φ' (.own 1 k (es++strU b).length) v∧R S' φ' (h.set k (.own e 1 (es++strU b))) w'∧Ext S φ h w S' φ' (h.set k (.own e 1 (es++strU b))) w':=by
  rintro v' w' g cap cur hrun hgr rfl hg hnc hcm hcs htake hg0
  have hput:=own_put hr hk hφk (w':=w') hgr.os hgr.tape hgr.output hgr.size (b:=g) (cap:=cap) (vs:=cur) (es':=es++strU b)
   (fun b' hb' hne=>hgr.block b' hb' (fun e0=>hne (hbk.trans e0.symm))) hg (by rw[hbk];exact hg0) (by omega) hcm hcs hall (by omega)
   (fun j c hj=>by
    have hjl:=lookupD hj
    rw[flat_length hall,Nat.mul_one,hlen] at hjl
    rw[flat_append] at hj
    have hcur:cur[j]?=(xs++Lib.strCells b)[j]?:=by
     rw[← htake,List.getElem?_take,if_pos (by omega)]
     simp
    by_cases c1:j<es.length
    ·
     rw[List.getElem?_append_left (by omega)] at hj
     obtain⟨x,x1,x2,x3⟩:=hxc j c hj
     exact⟨x,by rw[hcur,List.getElem?_append_left (by omega)];exact x1,x2,x3⟩
    ·
     rw[List.getElem?_append_right (by omega),hfe] at hj
     unfold strU at hj
     rw[strU_flat,List.getElem?_map] at hj
     cases hb:b.data.toList[j-es.length]? with
     | none=>rw[hb] at hj;cases hj
     | some y =>
      rw[hb] at hj
      cases hj
      refine⟨.int .u8 y.toNat,?_,.raw _,rfl⟩
      rw[hcur,List.getElem?_append_right (by omega),hxl]
      unfold Lib.strCells
      rw[List.getElem?_map,hb]
      rfl)
   (.inl rfl)
  obtain⟨φ',k1,k2,k3⟩:=hput
  rw[hlen] at k1 ⊢
  exact⟨_,w',S,φ',hrun,k1,k2,k3⟩
 have hi1:i.size=1:=by rw[hsz,h1]
 have hb1:i.bytes=1:=by rw[hbs,hby]
 rcases hroom with ⟨rfl,he0⟩|⟨g,cap,vs,g1,g2,rfl,g4,g5,g6,g7,g8⟩
 ·
  have hown0:w.ownsRow w.heap.size e 1 (.slice none 0 0) es.length xs:=⟨hxo.1,.inl ⟨rfl,by rw[he0];rfl⟩⟩
  obtain⟨v',w',hrun,hown,hgr,hnil⟩:=Lib.run_append_own_string (P:=P) w w.heap.size t u ty e i hK hU hi hz hi1 hb1 (.slice none 0 0) es.length xs hown0 b (by simp only[maxLen];omega) (by omega) (Nat.le_refl _)
  rcases hown.2 with ⟨e1,_⟩|⟨g,cap,cur,hv',hbg,hg,hnc,hcm,hcs,htake⟩
  ·
   have:=(hnil.1 e1).2
   omega
  ·
   rw[Nat.mul_one] at htake
   exact fin v' w' g cap cur hrun hgr hv' hg hnc hcm hcs htake (.inl hbg)
 ·
  have hx0:xs=vs.toList.take es.length:=by
   rcases hxo.2 with ⟨e1,_⟩|⟨g',cap',cur',e1,_,e3,_,_,_,e7⟩
   ·
    cases e1
   ·
    cases e1
    rw[g4] at e3
    cases e3
    rw[← e7,Nat.mul_one]
  by_cases hin:es.length+b.size≤cap
  ·
   have hrun:=Lib.run_append_room_string (P:=P) w t u ty e i hK hU hi hi1 g es.length cap vs g4 b hin (by omega)
   refine fin _ _ g cap _ hrun ⟨rfl,rfl,rfl,by simp,fun k' _ hk'=>setRow_other w g k' _ (fun e0=>hk' (by simp[Value.ownBlock,e0]))⟩ rfl (setRow_heap w g vs _ e _ g4) hin g2 ?_ ?_ (.inr rfl)
   ·
    simp only[List.size_toArray,List.length_append,List.length_take,List.length_drop,Array.length_toList,Lib.strCells_length]
    omega
   ·
    rw[hx0]
    have hl2:(vs.toList.take es.length++Lib.strCells b).length=es.length+b.size:=by
     rw[List.length_append,List.length_take,Lib.strCells_length,show vs.toList.length=vs.size from rfl]
     omega
    rw[← hl2]
    exact List.take_left
  ·
   have holds:∀ j x,xs[j]?=some x→w.cell? ((⟨g,0,none⟩:Addr).add j)=some x:=hxo.cells (g:=g) rfl
   have hrun:=Lib.run_append_grow_string (P:=P) w t u ty e i (.int .u8 0) hK hU hi hz ⟨g,0,none⟩ es.length cap xs (by rw[hi1,Nat.mul_one];exact hxl) holds b (by omega) (by omega) (by rw[hb1];exact growslice_fits (by omega) (by omega))
   have hge:=grownCap_ge w (es.length+b.size) cap e
   have hcm:=grownCap_le_maxLen w (es.length+b.size) cap e (by simp only[maxLen];omega)
   refine fin _ _ w.heap.size _ _ hrun ⟨rfl,rfl,rfl,by simp,fun k' hk' _=>alloc_heap _ _ _ hk'⟩ rfl (heap_alloc_new w.drew _) hge hcm ?_ ?_ (.inl (Nat.le_refl _))
   ·
    have hz1:(Value.int IntKind.u8 0).cells.size=1:=rfl
    simp only[Array.size_append,List.size_toArray,zeroCells_size,hz1,hxl,Lib.strCells_length]
    omega
   ·
    simp only[Array.toList_append,List.append_assoc]
    have hl2:(xs++Lib.strCells b).length=es.length+b.size:=by
     rw[List.length_append,Lib.strCells_length,hxl]
    rw[← List.append_assoc,← hl2]
    exact List.take_left
theorem append_sound (hT:TabOK P T) (hs:CAll S w φ s a.tmps) (hr:R S φ h w) (dst:Option Tmp) (args:Array Operand) (argTypes:Array TypeId) (ty:TypeId) (pos:String) (af:Array Edge) (gd:Option (Nat × Bool)) :
  (stepHeap T s h (.call { callee:=.builtin .append,args,argTypes })).sound S φ h w ((execOp a.eval ⟨dst,.call { callee:=.builtin .append,args,argTypes },ty,pos,af,gd⟩).run P w):=by
 simp only[stepHeap]
 split
 ·
  rename_i x y t u ha ht
  have ea:args=#[x,y]:=by rw[← Array.toList_inj];exact ha
  have et:argTypes=#[t,u]:=by rw[← Array.toList_inj];exact ht
  subst ea;subst et
  split
  ·
   rename_i e htu hk
   have htu:=of_decide_eq_true htu
   subst htu
   obtain⟨_,_,_,_,_,_,_,_,_,_,_,hK⟩:=(hT t).known (by rw[hk];simp)
   rw[hk] at hK
   split
   ·
    trivial
   ·
    rename_i hke
    split
    ·
     rename_i g1 g2
     have g2:=of_decide_eq_true g2
     have hx:=C.opd hs x
     have hy:=C.opd hs y
     have run:∀ {v:Value} {w':World},((Builtin.append_ #[t,t] ty #[a.eval x,a.eval y]).run P w=.ok v w')→(execOp a.eval ⟨dst,.call { callee:=.builtin .append,args:=#[x,y],argTypes:=#[t,t] },ty,pos,af,gd⟩).run P w=.ok (.value v) w':=by
      intro v w' hv
      simp[execOp,resolve,invoke,builtin,hv]
     unfold appendAV
     split
     ·
      rename_i sz' xs tok hxe hye
      rw[hxe] at hx;rw[hye] at hy
      split
      ·
       rename_i gs
       have gs:=of_decide_eq_true gs
       subst gs
       intro hp
       generalize hvx:a.eval x=vx at hx run
       cases hx
       obtain⟨v,w',S',φ',h1,h2,h3,h4⟩:=append_nil_sound hT hr hK hke g2 hy hp ty
       exact⟨v,w',S',φ',.inl (run h1),h2,h3,h4⟩
      ·
       trivial
     ·
      rename_i sz'' k n sz' xs tok hxe hye
      rw[hxe] at hx;rw[hye] at hy
      split
      ·
       rename_i e' sz0 es gs1 gs2 hkb
       have gs1:=of_decide_eq_true gs1
       have gs2:=of_decide_eq_true gs2
       subst gs1;subst gs2
       split
       ·
        rename_i q1 q2
        have q1:=of_decide_eq_true q1
        have q2:=of_decide_eq_true q2
        subst q1;subst q2
        rintro⟨hn,hle⟩
        subst hn
        obtain⟨v,w',S',φ',h1,h2,h3,h4⟩:=append_own_sound hT hr hK hke g2 hx hy hkb hle ty
        exact⟨v,w',S',φ',.inl (run h1),h2,h3,h4⟩
       ·
        trivial
      ·
       trivial
     ·
      rename_i sz'' es k sz' xs tok hxe hye
      rw[hxe] at hx;rw[hye] at hy
      split
      ·
       rename_i e' sz0 n gs1 gs2 hkb
       have gs1:=of_decide_eq_true gs1
       have gs2:=of_decide_eq_true gs2
       subst gs1;subst gs2
       split
       ·
        rename_i q1 q2
        have q1:=of_decide_eq_true q1
        have q2:=of_decide_eq_true q2
        subst q1;subst q2
        rintro⟨hn,hle⟩
        subst hn
        obtain⟨v,w',S',φ',h1,h2,h3,h4⟩:=append_tok_sound hT hr hK hke g2 hx hy hkb hle ty
        exact⟨v,w',S',φ',.inl (run h1),h2,h3,h4⟩
       ·
        trivial
      ·
       rename_i e' sz0 n gs1 gs2 hkb
       have gs1:=of_decide_eq_true gs1
       have gs2:=of_decide_eq_true gs2
       subst gs1;subst gs2
       split
       ·
        rename_i q1 q2
        have q1:=of_decide_eq_true q1
        have q2:=of_decide_eq_true q2
        subst q1;subst q2
        rintro⟨hn,hle⟩
        subst hn
        obtain⟨v,w',S',φ',h1,h2,h3,h4⟩:=append_cut_sound hT hr hK hke g2 hx hy hkb hle ty
        exact⟨v,w',S',φ',.inl (run h1),h2,h3,h4⟩
       ·
        trivial
      ·
       trivial
     ·
      rename_i sz'' es k a0 c hxe hye
      rw[hxe] at hx;rw[hye] at hy
      split
      ·
       rename_i e' sz0 n gs2 hkb
       have gs2:=of_decide_eq_true gs2
       subst gs2
       split
       ·
        rename_i q1 q2
        have q1:=of_decide_eq_true q1
        have q2:=of_decide_eq_true q2
        subst q1;subst q2
        rintro⟨hn,hle,hc⟩
        subst hn
        generalize hvy:a.eval y=vy at hy run
        cases hy
        have mk:∀ z,C S w φ (.lst z [] none) (.slice (some a0) 0 c):=fun z=>.lst z [] none a0 0 c (fun _=>undef) rfl (Nat.zero_le _) hc (fun _ h=>by cases h) (fun j c h=>by simp[flat] at h) (fun j c h=>by simp[flat] at h) (fun j c h=>by simp[flat] at h) trivial
        obtain⟨v,w',S',φ',h1,h2,h3,h4⟩:=append_tok_sound (xs:=[]) hT hr hK hke g2 hx (mk _) hkb (by simpa using hle) ty
        exact⟨v,w',S',φ',.inl (run h1),h2,h3,h4⟩
       ·
        trivial
      ·
       trivial
     ·
      trivial
    ·
     trivial
  ·
   rename_i e htu hk
   obtain⟨_,_,_,_,_,_,_,_,_,_,_,hK⟩:=(hT t).known (by rw[hk];simp)
   rw[hk] at hK
   split
   ·
    trivial
   ·
    rename_i hku hke
    obtain⟨_,_,_,_,_,_,_,_,_,_,_,hU⟩:=(hT u).known (by rw[hku];simp)
    rw[hku] at hU
    split
    ·
     rename_i q1 q2 q3 q4
     have q2:=of_decide_eq_true q2
     have q3:=of_decide_eq_true q3
     have q4:=isZ8_eq q4
     have hx:=C.opd hs x
     have hy:=C.opd hs y
     have run:∀ {v:Value} {w':World},((Builtin.append_ #[t,u] ty #[a.eval x,a.eval y]).run P w=.ok v w')→(execOp a.eval ⟨dst,.call { callee:=.builtin .append,args:=#[x,y],argTypes:=#[t,u] },ty,pos,af,gd⟩).run P w=.ok (.value v) w':=by
      intro v w' hv
      simp[execOp,resolve,invoke,builtin,hv]
     unfold appendStr
     split
     ·
      rename_i sz k n b hxe hye
      rw[hxe] at hx;rw[hye] at hy
      split
      ·
       rename_i e' sz0 es gs1 hkb
       have gs1:=of_decide_eq_true gs1
       subst gs1
       split
       ·
        rename_i r1 r2
        have r1:=of_decide_eq_true r1
        have r2:=of_decide_eq_true r2
        subst r1;subst r2
        rintro⟨hn,hp,hle⟩
        subst hn
        generalize hvy:a.eval y=vy at hy run
        cases hy
        obtain⟨v,w',S',φ',h1,h2,h3,h4⟩:=append_str_sound hT hr hK hU hke q1 q2 q3 q4 hx hkb hp hle ty
        exact⟨v,w',S',φ',.inl (run h1),h2,h3,h4⟩
       ·
        trivial
      ·
       trivial
     ·
      trivial
    ·
     trivial
   ·
    trivial
  ·
   trivial
 ·
  trivial
theorem C.cut {sz:Nat} {es:List AV} {tok:Option Nat} {ad:Option Addr} {len cap:Nat} (hc:C S w φ (.lst sz es tok) (.slice ad len cap)) {n:Nat} (hn:n≤es.length) (k:Nat) {φ':Nat→Loc} (hφ:∀ j,(φ j).le (φ' j))
  (hk:φ' k=.tok n (.slice ad n n)):C S w φ' (.lst sz (es.take n) (some k)) (.slice ad n n):=by
 cases hc with
 | lstnil _ _ ht =>
  have hn0:n=0:=by simpa using hn
  subst hn0
  exact .lstnil _ _ ⟨_,_,hk,Nat.le_refl _,fun _=>rfl⟩
 | lst _ _ _ ad len cap u hlen hcap hmax hsz hm hc h1 ht =>
  have hmono:∀ {c u},C S w φ c u→C S w φ' c u:=fun hcu=>hcu.mono (fun _ h=>h) (fun _ _=>rfl) hφ
  exact .lst _ _ _ _ _ _ u (by rw[List.length_take];omega) (Nat.le_refl _) (by omega) (fun e he=>hsz e (List.mem_of_mem_take he)) (fun j c hj=>hm j c (flat_take n j c hj)) (fun j c hj=>hmono (hc j c (flat_take n j c hj)))
   (fun j c hj=>h1 j c (flat_take n j c hj)) ⟨_,_,hk,Nat.le_refl _,fun _=>rfl⟩
theorem slice3_sound (hT:TabOK P T) (hs:CAll S w φ s a.tmps) (hr:R S φ h w) (dst:Option Tmp) (t:TypeId) (x hi mx:Operand) (lo:Option Operand) (ty:TypeId) (pos:String) (af:Array Edge) (gd:Option (Nat × Bool)) :
  (stepHeap T s h (.slice t x lo (some hi) (some mx))).sound S φ h w ((execOp a.eval ⟨dst,.slice t x lo (some hi) (some mx),ty,pos,af,gd⟩).run P w):=by
 simp only[stepHeap]
 split
 ·
  rename_i e hk
  obtain⟨_,_,_,_,_,_,_,_,_,_,_,hK⟩:=(hT t).known (by rw[hk];simp)
  rw[hk] at hK
  split
  ·
   trivial
  ·
   rename_i hke
   split
   ·
    rename_i sz es tok k1 n k2 m hxe hle hhe hme
    split
    ·
     rename_i gs
     have gs:=of_decide_eq_true gs
     rintro⟨rfl,h0,hn⟩
     have hx:=C.opd hs x
     have hh:=C.opd hs hi
     have hm:=C.opd hs mx
     rw[hxe] at hx;rw[hhe] at hh;rw[hme] at hm
     have hlo:lo=none:=by cases lo<;>simp_all
     subst hlo
     generalize hvh:a.eval hi=vh at hh
     generalize hvm:a.eval mx=vm at hm
     cases hh;cases hm
     have hnn:((n.toNat:Nat):Int)=n:=Int.toNat_of_nonneg h0
     have hfr:φ h.length=.no:=hr.fresh _ (Nat.le_refl _)
     have hlej:∀ l j,(φ j).le (upd φ h.length l j):=by
      intro l j
      by_cases ej:j=h.length
      ·
       subst ej;rw[hfr];trivial
      ·
       rw[upd_other _ ej];exact Loc.le_refl _
     obtain⟨ad,len,cap,hv,hlen,hcap,hmax,hnil⟩:=hx.slice_form
     rw[hv] at hx
     have hcut:=hx.cut (n:=n.toNat) (by omega) h.length (φ':=upd φ h.length (.tok n.toNat (.slice ad n.toNat n.toNat))) (hlej _) (upd_same _ _ _)
     have hsl:sliced ad 0 n.toNat n.toNat sz=.slice ad n.toNat n.toNat:=by
      unfold sliced
      split
      ·
       simp
      ·
       cases ad<;>simp[Addr.add]
     have hpush:=hr.push (l:=.tok n.toNat (.slice ad n.toNat n.toNat)) (x:=.cut e sz n.toNat) (S':=S) (w':=w) rfl rfl rfl (Nat.le_refl _) (fun _ _=>rfl) (fun _ h=>h) (fun _ h=>.inl h) hr.bnd
      (by
       refine⟨_,upd_same _ _ _,?_⟩
       cases ad with
       | none =>
        have:=hnil rfl
        subst this
        have:n.toNat=0:=by simp at hn;omega
        rw[this]
        exact .inl ⟨rfl,rfl⟩
       | some ad=>exact .inr ⟨_,rfl⟩)
      (fun b hb=>by cases ad<;>simp[blockOf] at hb)
     have hK':P.underlying t=some (.slice (P.elem t)):=by rw[elem_of hK];exact hK
     refine⟨_,w,S,_,.inl ?_,hcut,hpush.1,hpush.2⟩
     simp only[execOp,asNext_bind,Option.map_none,Option.map_some,hv,hvh,hvm]
     rw[run_sliceAt_slice _ _ _ _ _ _ hK',run_slice_hm w t ad len cap hK' k1 k2 n n h0 (Int.le_refl _) (by omega),elem_of hK,run_size (hT e) hke,gs]
     simp only[Result.andThen_ok,hsl]
     rfl
    ·
     trivial
   ·
    trivial
 ·
  trivial
theorem makeSlice_sound (hT:TabOK P T) (hs:CAll S w φ s a.tmps) (hr:R S φ h w) (dst:Option Tmp) (t:TypeId) (l c:Operand) (ty:TypeId) (pos:String) (af:Array Edge) (gd:Option (Nat × Bool)) :
  (stepHeap T s h (.makeSlice t l c)).sound S φ h w ((execOp a.eval ⟨dst,.makeSlice t l c,ty,pos,af,gd⟩).run P w):=by
 have hl:=C.opd hs l
 have hc:=C.opd hs c
 simp only[stepHeap]
 split
 ·
  -- room,and nothing in it
  rename_i hzl'
  obtain⟨k0,rfl⟩:=isZero_eq hzl'
  split
  ·
   rename_i e k n hk hce
   obtain⟨_,_,_,_,_,_,_,_,_,_,_,hK⟩:=(hT t).known (by rw[hk];simp)
   rw[hk] at hK
   split
   ·
    trivial
   ·
    rename_i hke
    obtain⟨i,z,hi,hsz,hbs,hz,hzc,_,_,_,hzl,_⟩:=(hT e).known hke
    have hzs:z.cells.size=(T e).size:=by rw[← Array.length_toList,hzc];exact hzl
    split
    ·
     rename_i g
     have g:=of_decide_eq_true g
     rintro⟨h0,hn⟩
     rw[hce] at hc
     generalize hvc:a.eval c=vc at hc
     cases hc
     have hrun:=run_make w t e i z hK hi hz k0 k 0 n (Int.le_refl _) h0 (by
      rw[hbs]
      have:=Nat.mul_le_mul g (show n.toNat≤4294967296 by omega)
      have e1:((n.toNat:Nat):Int)=n:=Int.toNat_of_nonneg h0
      rw[← e1]
      have e2:(((T e).bytes:Nat):Int) * ((n.toNat:Nat):Int)=(((T e).bytes * n.toNat:Nat):Int):=by simp
      rw[e2]
      omega) (by omega)
     obtain⟨S',k1,k2,k3⟩:=push_tok hr (es:=[]) (sz:=(T e).size) (vs:=madeCells z.cells (n.toNat * i.size)) (by simp) n.toNat (Nat.zero_le _) (by simp only[maxLen];omega) (by simp[madeCells,hsz]) (fun j c hj=>by simp[flat] at hj) e w (.inl rfl)
     refine⟨_,_,S',_,.inl ?_,k1,k2,k3⟩
     have ev:a.eval (.const (.int k0 0))=.int k0 0:=rfl
     simp only[execOp,asNext_bind,ev,hvc,hrun]
     rfl
    ·
     trivial
  ·
   trivial
 ·
  split
  ·
   rename_i e k n k' m hk hle hce
   obtain⟨_,_,_,_,_,_,_,_,_,_,_,hK⟩:=(hT t).known (by rw[hk];simp)
   rw[hk] at hK
   split
   ·
    trivial
   ·
    rename_i hke
    obtain⟨i,z,hi,hsz,hbs,hz,hzc,_,_,hz1,hzl,_⟩:=(hT e).known hke
    split
    ·
     rename_i z0 g hz0
     have g:=of_decide_eq_true g
     rintro⟨rfl,h0,hn⟩
     rw[hle] at hl;rw[hce] at hc
     generalize hvl:a.eval l=vl at hl
     generalize hvc:a.eval c=vc at hc
     cases hl;cases hc
     have hsize1:i.size=1:=by rw[hsz,← hzl,hz0];rfl
     have hrun:=run_make w t e i z hK hi hz k k' n n h0 (Int.le_refl _) (by
      rw[hbs]
      have:=Nat.mul_le_mul g (show n.toNat≤4294967296 by omega)
      have e1:((n.toNat:Nat):Int)=n:=Int.toNat_of_nonneg h0
      rw[← e1]
      have e2:(((T e).bytes:Nat):Int) * ((n.toNat:Nat):Int)=(((T e).bytes * n.toNat:Nat):Int):=by simp
      rw[e2]
      omega) (by omega)
     have hcells:madeCells z.cells (n.toNat * i.size)=(List.replicate n.toNat z0).toArray:=by
      rw[hsize1,Nat.mul_one]
      have hzz:z.cells=#[z0]:=by rw[← Array.toList_inj,hzc,hz0]
      rw[hzz]
      apply Array.ext
      ·
       simp[madeCells]
      ·
       intro j h1 h2
       simp[madeCells,Nat.mod_one]
     have hz01:z0.oneCell'=true:=hz1 z0 (by rw[hz0];simp)
     have hall:CAll S w φ (List.replicate n.toNat (.raw z0)) (List.replicate n.toNat z0).toArray:=by
      have:=CAll.map_raw (S:=S) (w:=w) (φ:=φ) (List.replicate n.toNat z0)
      simpa using this
     obtain⟨k1,k2⟩:=push_cells hr hall (fun v hv=>by rw[List.eq_of_mem_replicate hv];exact hz01) e w (.inl rfl)
     refine⟨.slice (some ⟨w.heap.size,0,none⟩) n.toNat n.toNat,_,S,_,.inl ?_,.sl _ _ _ _ _ _ (upd_same _ _ _) (Nat.le_refl _) (by simp only[maxLen];omega),k1,k2⟩
     simp only[execOp,asNext_bind,hvl,hvc,hrun,hcells]
     rfl
    ·
     trivial
  ·
   trivial
theorem rangeIt_sound (hr:R S φ h w) (b:ByteArray) {t:TypeId} (hK:P.underlying t=some .string) {run:Result Next} (hrun:∀ z w',(Instr.range t (.string b)).run P w=.ok z w'→run=.ok (.value z) w') :
  HSound S φ h w run (.ptr h.length 0) (h++[.it b 0]):=by
 have hpush:=hr.push (l:=.obj w.heap.size) (x:=.it b 0) (S':=S) (w':=w.alloc (.stringIter b 0)) rfl rfl rfl (by show _≤(w.heap.push _).size;simp) (fun b hb=>alloc_heap _ _ _ hb) (fun _ h=>h) (fun _ h=>.inl h)
  (fun a ha=>by have:=hr.bnd a ha;show _<(w.heap.push _).size;simp;omega)
  ⟨w.heap.size,upd_same _ _ _,(MapKept.heap_alloc w _).1,fun a ha e=>by have:=hr.bnd a ha;omega⟩
  (fun b hb=>by cases hb;exact Nat.le_refl _)
 exact⟨_,_,S,_,.inl (hrun _ _ (by simp[Instr.range,run_underlying hK])),.ptr _ _ _ (upd_same _ _ _),hpush.1,hpush.2⟩
theorem nextIt_sound (hr:R S φ h w) {k p:Nat} {b:ByteArray} (hk:h[k]?=some (.it b p)) {u:Value} (hx:C S w φ (.ptr k 0) u) {ty:TypeId} {run:Result Next} (hrun:∀ z w',(Instr.next u true ty).run P w=.ok z w'→run=.ok (.value z) w') :
  HSound S φ h w run (nextV b p (decide (p<b.size))) (h.set k (nextB b p (decide (p<b.size)))):=by
 cases hx with
 | ptr _ _ B hφ =>
 obtain⟨B',e1,e2,e3⟩:=hr.blk k _ hk
 rw[hφ] at e1
 cases e1
 have hlt:=heap_lt e2
 have hown:blockOf (φ k) (.it b p)=some B:=by rw[hφ];rfl
 have hle:∀ j,(φ j).le (upd φ k (.obj B) j):=fun j=>by
  by_cases e:j=k
  ·
   subst e;rw[upd_same,hφ];rfl
  ·
   rw[upd_other _ e];exact Loc.le_refl _
 have main:∀(q:Nat) (w':World),w'={ w with heap:=w.heap.setIfInBounds B (.stringIter b q) }→R S (upd φ k (.obj B)) (h.set k (.it b q)) w'∧Ext S φ h w S (upd φ k (.obj B)) (h.set k (.it b q)) w':=by
  rintro q w' rfl
  have hoth:∀ b',b'≠B→({ w with heap:=w.heap.setIfInBounds B (.stringIter b q) }:World).heap[b']?=w.heap[b']?:=fun b' hb=>by
   show(w.heap.setIfInBounds B _)[b']?=_
   rw[Array.getElem?_setIfInBounds_ne (fun e=>hb e.symm)]
  have hcell:∀ c,S c→({ w with heap:=w.heap.setIfInBounds B (.stringIter b q) }:World).cell? c=w.cell? c:=fun c hc=>cell_of_heap (hoth c.block (e3 c hc))
  exact hr.put (k:=k) (x:=.it b q) (l:=.obj B) (S':=S) hk rfl rfl rfl (by simp) (fun b' _ hne=>hoth b' (fun e=>hne (by rw[hown,e]))) (fun _ h=>h) hcell (fun _ h=>.inl h) (fun c hc=>by have:=hr.bnd c hc;simpa using this) (by rw[hφ];rfl)
   ⟨B,upd_same _ _ _,by show(w.heap.setIfInBounds B _)[B]?=_;simp[hlt],e3⟩ (fun b' hb=>by cases hb;exact .inr hown)
 by_cases hp:p<b.size
 ·
  rw[decide_eq_true hp]
  obtain⟨k1,k2⟩:=main (p+(Utf8.decode b p).2) _ rfl
  refine⟨.tuple #[.bool true,.int .i64 p,.int .i32 (Utf8.decode b p).1],_,S,_,.inl (hrun _ _ ?_),?_,k1,k2⟩
  ·
   simp only[Instr.next,getObj,setObj,Sem.run_bind,Sem.run,e2,Result.andThen,hp,if_true]
   simp[goInt]
  ·
   exact .tup _ _ rfl (CAll.cons (.raw _) (CAll.cons (.raw _) (CAll.one (.raw _)))).2
 ·
  rw[decide_eq_false hp]
  have hset:w={ w with heap:=w.heap.setIfInBounds B (.stringIter b p) }:=by
   have:w.heap.setIfInBounds B (.stringIter b p)=w.heap:=by
    apply Array.ext_getElem?
    intro i
    rw[Array.getElem?_setIfInBounds]
    split
    ·
     rename_i e;subst e;exact e2.symm
    ·
     rfl
   rw[this]
  obtain⟨k1,k2⟩:=main p w hset
  refine⟨.tuple #[.bool false],w,S,_,.inl (hrun _ _ ?_),.tup _ _ rfl (CAll.one (.raw _)).2,k1,k2⟩
  simp[Instr.next,getObj,Sem.run,e2,hp]
theorem stepHeap_sound (hT:TabOK P T) (hs:CAll S w φ s a.tmps) (hr:R S φ h w) (dst:Option Tmp) (op:Op) (ty:TypeId) (pos:String) (af:Array Edge) (gd:Option (Nat × Bool)) :
  (stepHeap T s h op).sound S φ h w ((execOp a.eval ⟨dst,op,ty,pos,af,gd⟩).run P w):=by
 cases op with
 | box t x=>exact box_sound hs hr dst t x ty pos af gd
 | alloc t=>exact alloc_sound hT hr dst t ty pos af gd
 | store t x y=>exact store_sound hT hs hr dst t x y ty pos af gd
 | buildSlice t len parts=>exact buildSlice_sound hT hs hr dst t len parts ty pos af gd
 | makeSlice t l c=>exact makeSlice_sound hT hs hr dst t l c ty pos af gd
 | slice t x lo hi mx =>
  cases hi with
  | none=>trivial
  | some hi =>
   cases mx with
   | none=>trivial
   | some mx=>exact slice3_sound hT hs hr dst t x hi mx lo ty pos af gd
 | range t x =>
  simp only[stepHeap]
  have hx:=C.opd hs x
  split
  ·
   rename_i b hk hxe
   obtain⟨_,_,_,_,_,_,_,_,_,_,_,hK⟩:=(hT t).known (by rw[hk];simp)
   rw[hk] at hK
   rw[hxe] at hx
   generalize hv:a.eval x=vx at hx
   cases hx
   exact rangeIt_sound (P:=P) hr b hK fun z w' hz=>by simp only[execOp,asNext_bind,hv,hz];rfl
  ·
   trivial
 | next x str =>
  simp only[stepHeap]
  have hx:=C.opd hs x
  split
  ·
   rename_i k hxe
   rw[hxe] at hx
   split
   ·
    rename_i b p hk
    exact nextIt_sound (P:=P) (ty:=ty) hr hk hx fun z w' hz=>by simp only[execOp,asNext_bind,hz];rfl
   ·
    trivial
  ·
   trivial
 | makeMap t r =>
  cases r with
  | some x=>trivial
  | none =>
   simp only[stepHeap]
   split
   ·
    rename_i kt vt hk
    split
    ·
     rename_i kk hkk
     exact makeMap_sound (P:=P) hr kk (t:=t) fun z w' hz=>by simp only[execOp,Option.map_none,asNext_bind,hz];rfl
    ·
     trivial
   ·
    trivial
 | lookup t x i ok =>
  simp only[stepHeap]
  split
  ·
   rename_i kt vt hk
   obtain⟨_,_,_,_,_,_,_,_,_,_,_,hK⟩:=(hT t).known (by rw[hk];simp)
   rw[hk] at hK
   exact lookupAV_sound hT hr hK (C.opd hs x) (C.opd hs i) fun z w' hz=>by simp only[execOp,asNext_bind,hz];rfl
  ·
   trivial
 | mapUpdate t m k v =>
  simp only[stepHeap]
  split
  ·
   rename_i kt vt hk
   obtain⟨_,_,_,_,_,_,_,_,_,_,_,hK⟩:=(hT t).known (by rw[hk];simp)
   rw[hk] at hK
   exact storeAV_sound hT hr hK (C.opd hs m) (C.opd hs k) (C.opd hs v) fun w' hz=>by simp only[execOp,Sem.run_bind,hz,Result.andThen_ok,Sem.run_pure]
  ·
   trivial
 | call c =>
  obtain⟨callee,args,argTypes⟩:=c
  cases callee with
  | builtin b =>
   cases b<;>first|exact append_sound hT hs hr dst args argTypes ty pos af gd|trivial|skip
   ·
    simp only[stepHeap]
    split
    ·
     rename_i x y t u ha ht
     have ea:args=#[x,y]:=by rw[← Array.toList_inj];exact ha
     have et:argTypes=#[t,u]:=by rw[← Array.toList_inj];exact ht
     subst ea;subst et
     split
     ·
      rename_i kt vt hk
      obtain⟨_,_,_,_,_,_,_,_,_,_,_,hK⟩:=(hT t).known (by rw[hk];simp)
      rw[hk] at hK
      exact deleteAV_sound (ty:=ty) (u':=u) hT hr hK (C.opd hs x) (C.opd hs y) fun z w' hz=>by simp[execOp,resolve,invoke,builtin,hz]
     ·
      trivial
    ·
     trivial
   ·
    simp only[stepHeap]
    split
    ·
     rename_i x t ha ht
     have ea:args=#[x]:=by rw[← Array.toList_inj];exact ha
     have et:argTypes=#[t]:=by rw[← Array.toList_inj];exact ht
     subst ea;subst et
     split
     ·
      rename_i kt vt hk
      obtain⟨_,_,_,_,_,_,_,_,_,_,_,hK⟩:=(hT t).known (by rw[hk];simp)
      rw[hk] at hK
      exact lenMapAV_sound (ty:=ty) hr hK (C.opd hs x) fun z w' hz=>by simp[execOp,resolve,invoke,builtin,hz]
     ·
      trivial
    ·
     trivial
  | _=>trivial
 | _=>trivial
end
end Go.Abs
namespace Go.Abs
open Go.RowKit
inductive AExit where
 | normal|exit (id:Nat)|ret|goto (l:Nat)
def ACall (P:Program) (f:FuncId) (args:List AV) (h:List Blk) (K:AV→List Blk→Prop):Prop :=
 ∀ S φ w vs,R S φ h w→CAll S w φ args vs→(callFunc f vs).run P w=.ok (.enter f vs) w ∧
  Calls P f vs w fun e w'=>∃ v r h' S' φ',e=.returned v∧K r h'∧C S' w' φ' r v∧R S' φ' h' w'∧Ext S φ h w S' φ' h' w'
def FW (r:Option Nat):Fence:={ Fence.wide with round:=r }
theorem callsIn_fw {r:Option Nat} {n:Nat} {P:Program} {f:FuncId} {args:Array Value} {w:World} {R:Ending→World→Prop}:CallsIn (FW r) n P f args w R↔Calls P f args w R:=callsIn_wide
def YCall (P:Program) (l:Nat) (args:List AV) (h:List Blk) (K:AV→List Blk→Prop):Prop :=
 ∀ S φ w vs,R S φ h w→CAll S w φ args vs→∃ fn tmps x y,(Instr.yield l vs).run P w=.ok (.round l fn tmps x y) w ∧
  RoundIn Fence.wide 0 P l fn tmps x y w fun e w'=>∃ v r h' S' φ',e=.returned v∧K r h'∧C S' w' φ' r v∧R S' φ' h' w'∧Ext S φ h w S' φ' h' w'
theorem YCall.mono {P:Program} {l:Nat} {args:List AV} {h:List Blk} {K K':AV→List Blk→Prop} (hk:∀ r h,K r h→K' r h) (hc:YCall P l args h K):YCall P l args h K':=by
 intro S φ w vs hr hargs
 obtain⟨fn,tmps,x,y,h1,h2⟩:=hc S φ w vs hr hargs
 refine⟨fn,tmps,x,y,h1,RoundIn.mono h2 ?_⟩
 rintro e w' ⟨v,r,h',S',φ',e1,e2,e3⟩
 exact⟨v,r,h',S',φ',e1,hk _ _ e2,e3⟩
def put (s:List AV) (dst:Option Tmp) (v:AV):List AV :=
 match dst with
 | some d=>s.set d v
 | none=>s
def vcStep (P:Program) (T:TypeId→TI) (o:Oper) (s:List AV) (h:List Blk) (K:List AV→List Blk→Prop):Prop :=
 match o.op with
 | .call { callee:=.value f,args,.. }=>match opd s f with
  | .fn (.func g) first captured=>ACall P g (first++args.toList.map (opd s)++captured) h fun r h'=>K (put s o.dst r) h'
  | .fn (.yield l) [] []=>YCall P l (args.toList.map (opd s)) h fun r h'=>K (put s o.dst r) h'
  | _=>False
 | op=>match stepPure T s h op with
  | .ok v=>K (put s o.dst v) h
  | .side p v=>p∧K (put s o.dst v) h
  | .fact p v=>p→K (put s o.dst v) h
  | .elem i es f=>∃ x,(0≤i∧es[i.toNat]?=some x)∧K (put s o.dst (f x)) h
  | .bad=>match stepHeap T s h op with
   | .ok v h'=>K (put s o.dst v) h'
   | .side p v h'=>p∧K (put s o.dst v) h'
   | .bad=>False
def guardSlot (ops:Array Oper) (j:Nat):Option Tmp :=
 match ops.toList[j]? with
 | some o=>o.dst
 | none=>none
def vcGuard (P:Program) (T:TypeId→TI) (ops:Array Oper) (o:Oper) (s:List AV) (h:List Blk) (K:List AV→List Blk→Prop):Prop :=
 match o.guard with
 | none=>vcStep P T o s h K
 | some (j,want)=>match guardSlot ops j with
  | none=>False
  | some d=>match s.getD d (.tup []) with
   | .raw (.bool b)=>match b with
    | true=>match want with
     | true=>vcStep P T o (s.set d (.raw (.bool true))) h K
     | false=>K (put (s.set d (.raw (.bool true))) o.dst (.tup [])) h
    | false=>match want with
     | true=>K (put (s.set d (.raw (.bool false))) o.dst (.tup [])) h
     | false=>vcStep P T o (s.set d (.raw (.bool false))) h K
   | .tup _=>K (put s o.dst (.tup [])) h
   | _=>False
def vcOps (P:Program) (T:TypeId→TI) (ops:Array Oper):List Oper→List AV→List Blk→(List AV→List Blk→Prop)→Prop
 | [],s,h,K=>K s h
 | o::rest,s,h,K=>vcGuard P T ops o s h fun s' h'=>vcOps P T ops rest s' h' K
def LoopN (body:(AExit→List AV→List Blk→Prop)→List AV→List Blk→Prop) (Q:AExit→List AV→List Blk→Prop):Nat→List AV→List Blk→Prop
 | 0,_,_=>False
 | n+1,s,h=>body (fun e s h=>match e with
  | .normal=>LoopN body Q n s h
  | .exit i=>Q (.exit i) s h
  | .ret=>Q .ret s h
  | .goto l=>Q (.goto l) s h) s h
section
variable {P:Program} {T:TypeId→TI} {S S':Addr→Prop} {φ φ':Nat→Loc} {h h':List Blk} {w w':World} {s:List AV} {a:Act} {n0:Nat}
def MK (n0:Nat) (S:Addr→Prop) (φ:Nat→Loc) (h:List Blk) (w:World) (ds:List Deferred):Prop :=
 n0≤w.heap.size∧∃ Ds:List Nat,ds=Ds.map (fun D=>{ target:=.collected D,args:=#[] })∧Ds.Nodup∧∀ D∈Ds,n0≤D∧w.heap[D]?=some (.deferred (some []))∧¬ Owns φ h D∧∀ a,S a→a.block≠D
theorem MK.nil {n0:Nat} (hn:n0≤w.heap.size):MK n0 S φ h w []:=⟨hn,[],rfl,List.nodup_nil,fun _ h=>by simp at h⟩
theorem MK.ext (he:Ext S φ h w S' φ' h' w') {ds:List Deferred} (hm:MK n0 S φ h w ds):MK n0 S' φ' h' w' ds:=by
 obtain⟨hle,Ds,rfl,hn,hD⟩:=hm
 refine⟨Nat.le_trans hle he.size,Ds,rfl,hn,fun D hd=>?_⟩
 obtain⟨h0,h1,h2,h3⟩:=hD D hd
 have hlt:D<w.heap.size:=(Array.getElem?_eq_some_iff.1 h1).1
 refine⟨h0,(he.keep D hlt h2).trans h1,fun ho=>?_,fun a ha e=>?_⟩
 ·
  rcases he.own D ho with g|g
  ·
   exact h2 g
  ·
   omega
 ·
  rcases he.new a ha with g|g|g
  ·
   exact h3 a g e
  ·
   omega
  ·
   exact h2 (e▸g)
theorem mk_ext (he:Ext S φ h w S' φ' h' w') {n0:Nat} {Ds:List Nat} (hD:∀ D∈Ds,n0≤D∧w.heap[D]?=some (.deferred (some []))∧¬ Owns φ h D∧∀ a,S a→a.block≠D) :
  ∀ D∈Ds,n0≤D∧w'.heap[D]?=some (.deferred (some []))∧¬ Owns φ' h' D∧∀ a,S' a→a.block≠D:=by
 intro D hd
 obtain⟨h0,h1,h2,h3⟩:=hD D hd
 have hlt:D<w.heap.size:=(Array.getElem?_eq_some_iff.1 h1).1
 refine⟨h0,(he.keep D hlt h2).trans h1,fun ho=>?_,fun a ha e=>?_⟩
 ·
  rcases he.own D ho with g|g
  ·
   exact h2 g
  ·
   omega
 ·
  rcases he.new a ha with g|g|g
  ·
   exact h3 a g e
  ·
   omega
  ·
   exact h2 (e▸g)
def Conc (n0:Nat) (K:List AV→List Blk→Prop) (S:Addr→Prop) (φ:Nat→Loc) (h:List Blk) (w:World) (a':Act) (w':World):Prop :=
 ∃ s' h' S' φ',K s' h'∧MK n0 S' φ' h' w' a'.defers∧CAll S' w' φ' s' a'.tmps∧R S' φ' h' w'∧Ext S φ h w S' φ' h' w'
theorem CAll.put (hs:CAll S w φ s a.tmps) (dst:Option Tmp) {v:AV} {u:Value} (hc:C S w φ v u):CAll S w φ (put s dst v) (a.put dst u).tmps:=by
 cases dst with
 | none=>exact hs
 | some d=>exact hs.set d hc
theorem put_defers (dst:Option Tmp) (u:Value):(a.put dst u).defers=a.defers:=by cases dst<;>rfl
theorem Conc.of {K:List AV→List Blk→Prop} {v:AV} {u:Value} (hd:MK n0 S φ h w a.defers) (hs:CAll S w φ s a.tmps) (dst:Option Tmp) (hc:C S' w' φ' v u) (hr:R S' φ' h' w') (he:Ext S φ h w S' φ' h' w')
  (hK:K (put s dst v) h'):Conc n0 K S φ h w (a.put dst u) w' :=
 ⟨_,h',S',φ',hK,by rw[put_defers];exact hd.ext he,(he.CAll hs).put dst hc,hr,he⟩
theorem vcStep_sound (hT:TabOK P T) {K:List AV→List Blk→Prop} {Kc:Act→World→Prop} {Q:Exit→Act→World→Prop} {ro:Option Nat} (o:Oper) (hd:MK n0 S φ h w a.defers) (hs:CAll S w φ s a.tmps) (hr:R S φ h w)
  (hv:vcStep P T o s h K) (hK:∀ a' w',Conc n0 K S φ h w a' w'→Kc a' w'):o.wpIn (FW ro) 0 P a w Kc Q:=by
 obtain⟨dst,op,ty,pos,af,gd⟩:=o
 have hpure:=stepPure_sound (P:=P) hT hs hr dst op ty pos af gd
 have hheap:=stepHeap_sound (P:=P) hT hs hr dst op ty pos af gd
 have fromPure:(∀ f args tys,op≠.call { callee:=.value f,args:=args,argTypes:=tys })→(∀ c,op≠.defer c)→(match stepPure T s h op with
  | .ok v=>K (put s dst v) h
  | .side p v=>p∧K (put s dst v) h
  | .fact p v=>p→K (put s dst v) h
  | .elem i es f=>∃ x,(0≤i∧es[i.toNat]?=some x)∧K (put s dst (f x)) h
  | .bad=>match stepHeap T s h op with
   | .ok v h'=>K (put s dst v) h'
   | .side p v h'=>p∧K (put s dst v) h'
   | .bad=>False)→Oper.wpIn (FW ro) 0 P ⟨dst,op,ty,pos,af,gd⟩ a w Kc Q:=by
  intro _ hnd hv
  have done:∀ {v:AV} {u:Value} {w' S' φ' h'},((execOp a.eval ⟨dst,op,ty,pos,af,gd⟩).run P w=.ok (.value u) w'∨(execOp a.eval ⟨dst,op,ty,pos,af,gd⟩).run P w=.ok .skip w'∧u=undef)→C S' w' φ' v u→R S' φ' h' w'→Ext S φ h w S' φ' h' w' →
    K (put s dst v) h'→Oper.wpIn (FW ro) 0 P ⟨dst,op,ty,pos,af,gd⟩ a w Kc Q:=by
   intro v u w' S' φ' h' hrun hc hr' he hKv
   have:=hK _ _ (Conc.of hd hs dst hc hr' he hKv)
   refine⟨fun _ _=>trivial,?_⟩
   rw[Oper.semAt_eq _ _ _ hnd]
   rcases hrun with e|⟨e,rfl⟩<;>rw[e]<;>exact this
  split at hv
  ·
   rename_i v hp
   rw[hp] at hpure
   obtain⟨u,e,hc⟩:=hpure
   exact done (.inl e) hc hr (Ext.refl _ _ _ _) hv
  ·
   rename_i p v hp
   rw[hp] at hpure
   obtain⟨u,e,hc⟩:=hpure hv.1
   exact done (.inl e) hc hr (Ext.refl _ _ _ _) hv.2
  ·
   rename_i p v hp
   rw[hp] at hpure
   obtain⟨hpp,u,e,hc⟩:=hpure
   exact done (.inl e) hc hr (Ext.refl _ _ _ _) (hv hpp)
  ·
   rename_i i es f hp
   rw[hp] at hpure
   obtain⟨x,⟨h0,hx⟩,hKx⟩:=hv
   obtain⟨u,e,hc⟩:=hpure x h0 hx
   exact done (.inl e) hc hr (Ext.refl _ _ _ _) hKx
  ·
   split at hv
   ·
    rename_i v h' hp
    rw[hp] at hheap
    obtain⟨u,w',S',φ',e,hc,hr',he⟩:=hheap
    exact done e hc hr' he hv
   ·
    rename_i p v h' hp
    rw[hp] at hheap
    obtain⟨u,w',S',φ',e,hc,hr',he⟩:=hheap hv.1
    exact done e hc hr' he hv.2
   ·
    exact hv.elim
 cases op with
 | call c =>
  obtain⟨callee,args,tys⟩:=c
  cases callee with
  | value f =>
   simp only[vcStep] at hv
   have hf:=C.opd hs f
   split at hv
   ·
    rename_i g first captured hfe
    rw[hfe] at hf
    generalize hvf:a.eval f=vf at hf
    cases hf with
    | fn _ _ _ vs us hl hl' hc1 hc2 =>
     have hargs:CAll S w φ (first++args.toList.map (opd s)++captured) (vs++args.map a.eval++us):=by
      have h1:CAll S w φ first vs:=⟨hl,hc1⟩
      have h2:CAll S w φ captured us:=⟨hl',hc2⟩
      have h3:=opds hs args.toList
      have h3':CAll S w φ (args.toList.map (opd s)) (args.map a.eval):=by
       rw[show args.map a.eval=(args.toList.map a.eval).toArray from by apply Array.toList_inj.1;simp]
       exact h3
      exact(h1.append h3').append h2
     obtain⟨henter,hcalls⟩:=hv S φ w _ hr hargs
     refine⟨fun _ _=>trivial,?_⟩
     rw[Oper.semAt_eq _ _ _ (fun c e=>by cases e)]
     have hrun:(execOp a.eval ⟨dst,.call { callee:=.value f,args:=args,argTypes:=tys },ty,pos,af,gd⟩).run P w=.ok (.enter g (vs++args.map a.eval++us)) w:=by
      simp only[execOp,resolve,hvf,Deferred.ofValue,Sem.run_bind,Sem.run_pure,Result.andThen_ok,invoke]
      exact henter
     rw[hrun]
     refine⟨fun h=>(by cases h),callsIn_fw.2 (Calls.mono hcalls ?_)⟩
     rintro e w' ⟨v,r,h',S',φ',rfl,hKr,hc,hr',he⟩
     exact hK _ _ (Conc.of hd hs dst hc hr' he hKr)
   ·
    rename_i l hfe
    rw[hfe] at hf
    generalize hvf:a.eval f=vf at hf
    cases hf with
    | fn _ _ _ vs us hl hl' hc1 hc2 =>
     have hvs:vs=#[]:=Array.eq_empty_of_size_eq_zero hl
     have hus:us=#[]:=Array.eq_empty_of_size_eq_zero hl'
     subst hvs hus
     have h3:=opds hs args.toList
     have h3':CAll S w φ (args.toList.map (opd s)) (args.map a.eval):=by
      rw[show args.map a.eval=(args.toList.map a.eval).toArray from by apply Array.toList_inj.1;simp]
      exact h3
     obtain⟨fn,tmps,x,y,hy,hround⟩:=hv S φ w _ hr h3'
     refine⟨fun _ _=>trivial,?_⟩
     rw[Oper.semAt_eq _ _ _ (fun c e=>by cases e)]
     have hrun:(execOp a.eval ⟨dst,.call { callee:=.value f,args:=args,argTypes:=tys },ty,pos,af,gd⟩).run P w=.ok (.round l fn tmps x y) w:=by
      simp only[execOp,resolve,hvf,Deferred.ofValue,Sem.run_bind,Sem.run_pure,Result.andThen_ok,invoke]
      simpa using hy
     rw[hrun]
     refine⟨fun h=>(by cases h),RoundIn.mono hround ?_⟩
     rintro e w' ⟨v,r,h',S',φ',rfl,hKr,hc,hr',he⟩
     exact hK _ _ (Conc.of hd hs dst hc hr' he hKr)
   ·
    exact hv.elim
  | builtin b=>exact fromPure (fun f args tys e=>by cases e) (fun c e=>by cases e) hv
  | invoke r m=>exact fromPure (fun f args tys e=>by cases e) (fun c e=>by cases e) hv
 | «defer» c=>simp[vcStep,stepPure,stepHeap] at hv
 | _=>exact fromPure (fun f args tys e=>by cases e) (fun c e=>by cases e) hv
theorem set_same_bool {d:Nat} {b:Bool} (hs:CAll S w φ s a.tmps) (hd:s.getD d (.tup [])=.raw (.bool b)):CAll S w φ (s.set d (.raw (.bool b))) a.tmps:=by
 refine⟨by rw[List.length_set];exact hs.1,fun i x v hx hv=>?_⟩
 rw[List.getElem?_set] at hx
 by_cases e:d=i
 ·
  subst e
  rw[if_pos rfl] at hx
  split at hx
  ·
   rename_i hlt
   have h0:s[d]?=some (.raw (.bool b)):=by
    rw[List.getD_eq_getElem?_getD,List.getElem?_eq_getElem hlt] at hd
    rw[List.getElem?_eq_getElem hlt]
    exact congrArg some hd
   cases hx
   exact hs.2 d _ v h0 hv
  ·
   cases hx
 ·
  rw[if_neg e] at hx
  exact hs.2 i x v hx hv
theorem yielded_eq {ops:Array Oper} {j d:Nat} (hg:guardSlot ops j=some d):yielded ops a.tmps j=match a.tmps[d]? with|some (.bool b)=>some b|_=>none:=by
 unfold guardSlot at hg
 unfold yielded
 cases ho:ops.toList[j]? with
 | none=>simp[ho] at hg
 | some o =>
  have ho':ops[j]?=some o:=by simpa using ho
  simp only[ho] at hg
  simp only[ho',hg,Option.bind_some]
  cases a.tmps[d]? with
  | none=>rfl
  | some v=>cases v<;>rfl
theorem yielded_bool {ops:Array Oper} {j d:Nat} {b:Bool} (hg:guardSlot ops j=some d) (hs:CAll S w φ s a.tmps) (hd:s.getD d (.tup [])=.raw (.bool b)):yielded ops a.tmps j=some b:=by
 rw[yielded_eq hg]
 have hlt:d<s.length:=by
  rcases Nat.lt_or_ge d s.length with h|h
  ·
   exact h
  ·
   rw[List.getD_eq_getElem?_getD,List.getElem?_eq_none h] at hd
   cases hd
 have h0:s[d]?=some (.raw (.bool b)):=by
  rw[List.getD_eq_getElem?_getD,List.getElem?_eq_getElem hlt] at hd
  rw[List.getElem?_eq_getElem hlt]
  exact congrArg some hd
 obtain⟨v,hv,hc⟩:=hs.at h0
 cases hc
 rw[hv]
theorem yielded_tup {ops:Array Oper} {j d:Nat} {cs:List AV} (hg:guardSlot ops j=some d) (hs:CAll S w φ s a.tmps) (hd:s.getD d (.tup [])=.tup cs):yielded ops a.tmps j=none:=by
 rw[yielded_eq hg]
 cases h0:s[d]? with
 | none =>
  have:a.tmps[d]?=none:=by
   rw[Array.getElem?_eq_none_iff,hs.1]
   exact List.getElem?_eq_none_iff.1 h0
  rw[this]
 | some x =>
  rw[List.getD_eq_getElem?_getD,h0] at hd
  simp at hd
  subst hd
  obtain⟨v,hv,hc⟩:=hs.at h0
  cases hc
  rw[hv]
theorem vcGuard_sound (hT:TabOK P T) {ops:Array Oper} {K:List AV→List Blk→Prop} {Kc:Act→World→Prop} {Q:Exit→Act→World→Prop} {ro:Option Nat} (o:Oper) (hd:MK n0 S φ h w a.defers) (hs:CAll S w φ s a.tmps) (hr:R S φ h w)
  (hv:vcGuard P T ops o s h K) (hK:∀ a' w',Conc n0 K S φ h w a' w'→Kc a' w'):if Region.wanted o (yielded ops a.tmps) then o.wpIn (FW ro) 0 P a w Kc Q else(∀ f,o.about P w a.eval=some f→(FW ro).fn f)∧Kc (a.put o.dst undef) w:=by
 have skip:∀ s',CAll S w φ s' a.tmps→K (put s' o.dst (.tup [])) h→(∀ f,o.about P w a.eval=some f→(FW ro).fn f)∧Kc (a.put o.dst undef) w:=fun s' hs' hk=>⟨fun _ _=>trivial,hK _ _ (Conc.of hd hs' o.dst C.undef_ hr (Ext.refl _ _ _ _) hk)⟩
 unfold vcGuard at hv
 cases hg:o.guard with
 | none =>
  rw[hg] at hv
  rw[if_pos (by simp[Region.wanted,hg])]
  exact vcStep_sound hT o hd hs hr hv hK
 | some jw =>
  obtain⟨j,want⟩:=jw
  rw[hg] at hv
  dsimp only at hv
  have hwant:Region.wanted o (yielded ops a.tmps)=(yielded ops a.tmps j==some want):=by simp[Region.wanted,hg]
  rw[hwant]
  split at hv
  ·
   exact hv.elim
  ·
   rename_i d hgs
   split at hv
   ·
    rename_i b hb
    rw[yielded_bool hgs hs hb]
    split at hv
    ·
     split at hv
     ·
      rw[if_pos (by simp)]
      exact vcStep_sound hT o hd (set_same_bool hs hb) hr hv hK
     ·
      rw[if_neg (by simp)]
      exact skip _ (set_same_bool hs hb) hv
    ·
     split at hv
     ·
      rw[if_neg (by simp)]
      exact skip _ (set_same_bool hs hb) hv
     ·
      rw[if_pos (by simp)]
      exact vcStep_sound hT o hd (set_same_bool hs hb) hr hv hK
   ·
    rename_i cs hb
    rw[yielded_tup hgs hs hb,if_neg (by simp)]
    exact skip s hs hv
   ·
    exact hv.elim
theorem vcOps_sound (hT:TabOK P T) {ops:Array Oper} {Q:Exit→Act→World→Prop} {ro:Option Nat}:∀(l:List Oper) {K:List AV→List Blk→Prop} {S φ h w s a},MK n0 S φ h w a.defers→CAll S w φ s a.tmps→R S φ h w →
  vcOps P T ops l s h K→(∀ a' w',Conc n0 K S φ h w a' w'→Q .normal a' w')→wpListIn (FW ro) 0 P ops Q l a w
 | [],K,S,φ,h,w,s,a,hd,hs,hr,hv,hQ=>hQ _ _ ⟨s,h,S,φ,hv,hd,hs,hr,Ext.refl _ _ _ _⟩
 | o::rest,K,S,φ,h,w,s,a,hd,hs,hr,hv,hQ=>by
  refine wpListIn_step fun Kc hKc=>?_
  refine vcGuard_sound hT o hd hs hr hv ?_
  rintro a' w' ⟨s',h',S',φ',hv',hd',hs',hr',he⟩
  refine hKc _ _ (vcOps_sound hT rest hd' hs' hr' hv' ?_)
  rintro a'' w'' ⟨s'',h'',S'',φ'',hK'',hd'',hs'',hr'',he'⟩
  exact hQ _ _ ⟨s'',h'',S'',φ'',hK'',hd'',hs'',hr'',he.trans he'⟩
end
end Go.Abs
