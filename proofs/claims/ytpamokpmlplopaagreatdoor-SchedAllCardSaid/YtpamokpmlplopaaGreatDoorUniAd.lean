/-
  Tab, AbsQ: put together.
-/
import Derived.Test.YtpamokpmlplopaaGreatDoorUniAc
import Derived.Test.YtpamokpmlplopaaGreatDoorProg
import Derived.ChangeShapes
import Derived.ChangeSame
import Derived.Carry
import Derived.OpenShut
namespace Go.Proofs.YtpamokpmlplopaaGreatDoor
open Go.Abs
set_option maxHeartbeats 4000000
set_option maxRecDepth 100000
@[go_sem] def ti:Nat→TI
 | 2=>⟨.int .i64,1,8,[.int .i64 0]⟩
 | 3=>⟨.int .i64,1,8,[.int .i64 0]⟩
 | 4=>⟨.bool,1,1,[.bool false]⟩
 | 5=>⟨.int .u8,1,1,[.int .u8 0]⟩
 | 6=>⟨.int .u8,1,1,[.int .u8 0]⟩
 | 8=>⟨.struct [(0,2),(1,3),(2,4),(3,6)],4,24,[.int .i64 0,.int .i64 0,.bool false,.int .u8 0]⟩
 | 9=>⟨.string,1,16,[.string ⟨#[]⟩]⟩
 | 10=>⟨.string,1,16,[.string ⟨#[]⟩]⟩
 | 11=>⟨.string,1,16,[.string ⟨#[]⟩]⟩
 | 15=>⟨.flat,1,8,[.pointer none]⟩
 | 16=>⟨.flat,1,8,[.pointer none]⟩
 | 17=>⟨.flat,1,8,[.pointer none]⟩
 | 21=>⟨.int .i32,1,4,[.int .i32 0]⟩
 | 22=>⟨.slice 80,1,24,[.slice none 0 0]⟩
 | 23=>⟨.slice 68,1,24,[.slice none 0 0]⟩
 | 25=>⟨.struct [(0,22),(1,23)],2,48,[.slice none 0 0,.slice none 0 0]⟩
 | 28=>⟨.slice 37,1,24,[.slice none 0 0]⟩
 | 30=>⟨.struct [(0,22),(1,28)],2,48,[.slice none 0 0,.slice none 0 0]⟩
 | 34=>⟨.slice 45,1,24,[.slice none 0 0]⟩
 | 35=>⟨.slice 53,1,24,[.slice none 0 0]⟩
 | 37=>⟨.struct [(0,9),(1,34),(2,34),(3,34),(4,35)],5,112,[.string ⟨#[]⟩,.slice none 0 0,.slice none 0 0,.slice none 0 0,.slice none 0 0]⟩
 | 42=>⟨.struct [(0,3),(1,3),(2,3)],3,24,[.int .i64 0,.int .i64 0,.int .i64 0]⟩
 | 43=>⟨.slice 97,1,24,[.slice none 0 0]⟩
 | 45=>⟨.struct [(0,9),(1,42),(4,43)],5,64,[.string ⟨#[]⟩,.int .i64 0,.int .i64 0,.int .i64 0,.slice none 0 0]⟩
 | 46=>⟨.slice 9,1,24,[.slice none 0 0]⟩
 | 48=>⟨.slice 51,1,24,[.slice none 0 0]⟩
 | 49=>⟨.slice 2,1,24,[.slice none 0 0]⟩
 | 51=>⟨.struct [(0,9),(1,2)],2,24,[.string ⟨#[]⟩,.int .i64 0]⟩
 | 53=>⟨.struct [(0,3),(1,46),(2,3),(3,48),(4,49),(5,3),(6,4),(7,51),(9,43)],10,152,[.int .i64 0,.slice none 0 0,.int .i64 0,.slice none 0 0,.slice none 0 0,.int .i64 0,.bool false,.string ⟨#[]⟩,.int .i64 0,.slice none 0 0]⟩
 | 59=>⟨.int .i64,1,8,[.int .i64 0]⟩
 | 61=>⟨.struct [(0,3),(1,3),(2,59)],3,24,[.int .i64 0,.int .i64 0,.int .i64 0]⟩
 | 65=>⟨.slice 77,1,24,[.slice none 0 0]⟩
 | 66=>⟨.slice 74,1,24,[.slice none 0 0]⟩
 | 68=>⟨.struct [(0,9),(1,65),(2,65),(3,65),(4,66)],5,112,[.string ⟨#[]⟩,.slice none 0 0,.slice none 0 0,.slice none 0 0,.slice none 0 0]⟩
 | 70=>⟨.slice 72,1,24,[.slice none 0 0]⟩
 | 72=>⟨.struct [(0,3),(1,2),(2,9),(3,3),(4,46),(5,70)],6,88,[.int .i64 0,.int .i64 0,.string ⟨#[]⟩,.int .i64 0,.slice none 0 0,.slice none 0 0]⟩
 | 74=>⟨.struct [(0,46),(1,72)],7,112,[.slice none 0 0,.int .i64 0,.int .i64 0,.string ⟨#[]⟩,.int .i64 0,.slice none 0 0,.slice none 0 0]⟩
 | 75=>⟨.func,1,8,[.nilFunc]⟩
 | 77=>⟨.struct [(0,9),(1,42),(4,9),(5,9)],6,72,[.string ⟨#[]⟩,.int .i64 0,.int .i64 0,.int .i64 0,.string ⟨#[]⟩,.string ⟨#[]⟩]⟩
 | 80=>⟨.struct [(0,9),(1,46)],2,40,[.string ⟨#[]⟩,.slice none 0 0]⟩
 | 83=>⟨.flat,1,8,[.pointer none]⟩
 | 85=>⟨.struct [(0,25),(2,3),(3,9),(4,3),(5,37)],10,192,[.slice none 0 0,.slice none 0 0,.int .i64 0,.string ⟨#[]⟩,.int .i64 0,.string ⟨#[]⟩,.slice none 0 0,.slice none 0 0,.slice none 0 0,.slice none 0 0]⟩
 | 91=>⟨.func,1,8,[.nilFunc]⟩
 | 93=>⟨.func,1,8,[.nilFunc]⟩
 | 97=>⟨.struct [(0,9),(1,2)],2,24,[.string ⟨#[]⟩,.int .i64 0]⟩
 | 100=>⟨.func,1,8,[.nilFunc]⟩
 | 101=>⟨.slice 3,1,24,[.slice none 0 0]⟩
 | 111=>⟨.flat,1,8,[.pointer none]⟩
 | 112=>⟨.func,1,8,[.nilFunc]⟩
 | 114=>⟨.struct [(0,25),(2,3),(3,112),(4,37)],9,176,[.slice none 0 0,.slice none 0 0,.int .i64 0,.nilFunc,.string ⟨#[]⟩,.slice none 0 0,.slice none 0 0,.slice none 0 0,.slice none 0 0]⟩
 | 127=>⟨.func,1,8,[.nilFunc]⟩
 | 129=>⟨.func,1,8,[.nilFunc]⟩
 | 131=>⟨.slice 34,1,24,[.slice none 0 0]⟩
 | 133=>⟨.map 9 3,1,8,[.map none]⟩
 | 134=>⟨.map 9 3,1,8,[.map none]⟩
 | 136=>⟨.slice 4,1,24,[.slice none 0 0]⟩
 | 144=>⟨.struct [(0,4),(1,4)],2,2,[.bool false,.bool false]⟩
 | 149=>⟨.func,1,8,[.nilFunc]⟩
 | 163=>⟨.func,1,8,[.nilFunc]⟩
 | 169=>⟨.struct [(0,25),(2,3)],3,56,[.slice none 0 0,.slice none 0 0,.int .i64 0]⟩
 | 171=>⟨.map 3 46,1,8,[.map none]⟩
 | 173=>⟨.struct [(0,171),(1,133)],2,16,[.map none,.map none]⟩
 | 179=>⟨.func,1,8,[.nilFunc]⟩
 | 191=>⟨.slice 42,1,24,[.slice none 0 0]⟩
 | 196=>⟨.int .u64,1,8,[.int .u64 0]⟩
 | 197=>⟨.slice 5,1,24,[.slice none 0 0]⟩
 | 204=>⟨.struct [(0,25),(2,68)],7,160,[.slice none 0 0,.slice none 0 0,.string ⟨#[]⟩,.slice none 0 0,.slice none 0 0,.slice none 0 0,.slice none 0 0]⟩
 | 214=>⟨.func,1,8,[.nilFunc]⟩
 | 222=>⟨.func,1,8,[.nilFunc]⟩
 | 228=>⟨.func,1,8,[.nilFunc]⟩
 | 234=>⟨.flat,1,8,[.pointer none]⟩
 | 237=>⟨.slice 65,1,24,[.slice none 0 0]⟩
 | 241=>⟨.array 24 5,24,24,[.int .u8 0,.int .u8 0,.int .u8 0,.int .u8 0,.int .u8 0,.int .u8 0,.int .u8 0,.int .u8 0,.int .u8 0,.int .u8 0,.int .u8 0,.int .u8 0,.int .u8 0,.int .u8 0,.int .u8 0,.int .u8 0,.int .u8 0,.int .u8 0,.int .u8 0,.int .u8 0,.int .u8 0,.int .u8 0,.int .u8 0,.int .u8 0]⟩
 | 249=>⟨.struct [(0,4),(1,4),(2,4),(3,3),(4,3),(5,3)],6,32,[.bool false,.bool false,.bool false,.int .i64 0,.int .i64 0,.int .i64 0]⟩
 | 268=>⟨.struct [(0,25),(2,3),(3,133)],4,64,[.slice none 0 0,.slice none 0 0,.int .i64 0,.map none]⟩
 | 270=>⟨.func,1,8,[.nilFunc]⟩
 | 272=>⟨.func,1,8,[.nilFunc]⟩
 | 276=>⟨.array 20 196,20,160,[.int .u64 0,.int .u64 0,.int .u64 0,.int .u64 0,.int .u64 0,.int .u64 0,.int .u64 0,.int .u64 0,.int .u64 0,.int .u64 0,.int .u64 0,.int .u64 0,.int .u64 0,.int .u64 0,.int .u64 0,.int .u64 0,.int .u64 0,.int .u64 0,.int .u64 0,.int .u64 0]⟩
 | 277=>⟨.int .u32,1,4,[.int .u32 0]⟩
 | 279=>⟨.int .u64,1,8,[.int .u64 0]⟩
 | 284=>⟨.func,1,8,[.nilFunc]⟩
 | 286=>⟨.array 2 3,2,16,[.int .i64 0,.int .i64 0]⟩
 | 302=>⟨.func,1,8,[.nilFunc]⟩
 | 304=>⟨.func,1,8,[.nilFunc]⟩
 | 305=>⟨.func,1,8,[.nilFunc]⟩
 | 310=>⟨.func,1,8,[.nilFunc]⟩
 | 311=>⟨.array 32 5,32,32,[.int .u8 0,.int .u8 0,.int .u8 0,.int .u8 0,.int .u8 0,.int .u8 0,.int .u8 0,.int .u8 0,.int .u8 0,.int .u8 0,.int .u8 0,.int .u8 0,.int .u8 0,.int .u8 0,.int .u8 0,.int .u8 0,.int .u8 0,.int .u8 0,.int .u8 0,.int .u8 0,.int .u8 0,.int .u8 0,.int .u8 0,.int .u8 0,.int .u8 0,.int .u8 0,.int .u8 0,.int .u8 0,.int .u8 0,.int .u8 0,.int .u8 0,.int .u8 0]⟩
 | 312=>⟨.array 64 5,64,64,[.int .u8 0,.int .u8 0,.int .u8 0,.int .u8 0,.int .u8 0,.int .u8 0,.int .u8 0,.int .u8 0,.int .u8 0,.int .u8 0,.int .u8 0,.int .u8 0,.int .u8 0,.int .u8 0,.int .u8 0,.int .u8 0,.int .u8 0,.int .u8 0,.int .u8 0,.int .u8 0,.int .u8 0,.int .u8 0,.int .u8 0,.int .u8 0,.int .u8 0,.int .u8 0,.int .u8 0,.int .u8 0,.int .u8 0,.int .u8 0,.int .u8 0,.int .u8 0,.int .u8 0,.int .u8 0,.int .u8 0,.int .u8 0,.int .u8 0,.int .u8 0,.int .u8 0,.int .u8 0,.int .u8 0,.int .u8 0,.int .u8 0,.int .u8 0,.int .u8 0,.int .u8 0,.int .u8 0,.int .u8 0,.int .u8 0,.int .u8 0,.int .u8 0,.int .u8 0,.int .u8 0,.int .u8 0,.int .u8 0,.int .u8 0,.int .u8 0,.int .u8 0,.int .u8 0,.int .u8 0,.int .u8 0,.int .u8 0,.int .u8 0,.int .u8 0]⟩
 | 329=>⟨.struct [(0,5),(1,5)],2,2,[.int .u8 0,.int .u8 0]⟩
 | 330=>⟨.array 16 329,32,32,[.int .u8 0,.int .u8 0,.int .u8 0,.int .u8 0,.int .u8 0,.int .u8 0,.int .u8 0,.int .u8 0,.int .u8 0,.int .u8 0,.int .u8 0,.int .u8 0,.int .u8 0,.int .u8 0,.int .u8 0,.int .u8 0,.int .u8 0,.int .u8 0,.int .u8 0,.int .u8 0,.int .u8 0,.int .u8 0,.int .u8 0,.int .u8 0,.int .u8 0,.int .u8 0,.int .u8 0,.int .u8 0,.int .u8 0,.int .u8 0,.int .u8 0,.int .u8 0]⟩
 | 340=>⟨.int .u8,1,1,[.int .u8 0]⟩
 | _=>⟨.other,0,0,[]⟩
set_option maxRecDepth 100000 in
theorem ti_check:((List.range 348).all fun t=>tiCheck Tryz.prog t (ti t))=true:=by kernel_rfl
theorem tabOK:TabOK Tryz.prog ti:=by
 intro t
 by_cases h:t<348
 ·
  exact tiOK_of_check (List.all_eq_true.1 ti_check t (List.mem_range.2 h))
 ·
  left
  unfold ti
  split<;>first|rfl|exact absurd (by decide) h
attribute [go_sem] Nat.reduceAdd Nat.reduceSub Nat.reduceMul Nat.reduceLT Nat.reduceLeDiff Nat.reduceEqDiff Nat.reduceBEq Nat.reduceBNe Nat.reducePow Int.reduceEq Int.reduceNe Int.reduceLT Int.reduceLE Int.reduceGT Int.reduceGE Int.reduceAdd Int.reduceSub Int.reduceNeg Int.reduceMul not_true_eq_false not_false_eq_true true_and and_true Int.reduceToNat
end Go.Proofs.YtpamokpmlplopaaGreatDoor
namespace Go.Abs
open Go.RowKit
def mkT (x:TI) (cs:List AV):AV:=match x.agg with|true=>.agg cs|false=>cs.headD (.tup [])
def FieldsTy (Q:TypeId→List AV→Prop):List (Nat × TypeId)→List AV→Prop
 | [],cs=>cs=[]
 | f::fs,cs=>∃ a b,cs=a++b∧Q f.2 a∧FieldsTy Q fs b
def Ty (T:TypeId→TI):Nat→TypeId→List AV→Prop
 | 0,_,_=>False
 | n+1,t,cs=>match (T t).kind with
  | .bool=>∃ b,cs=[.raw (.bool b)]
  | .int k=>∃ m,cs=[.raw (.int k m)]∧(Lit.int k m).wf=true
  | .string=>∃ s:ByteArray,cs=[.raw (.string s)]∧s.size≤maxLen
  | .slice e=>∃ es:List (List AV),cs=[.lst (T e).size (es.map (mkT (T e))) none]∧es.length≤maxLen∧∀ x∈es,Ty T n e x
  | .struct fs=>FieldsTy (Ty T n) fs cs
  | .array m e=>∃ es:List (List AV),cs=es.flatten∧es.length=m∧∀ x∈es,Ty T n e x
  | _=>False
def rowOK (T:TypeId→TI):Nat→List (Nat × TypeId)→Nat→Bool
 | n,[],m=>decide (n=m)
 | n,f::fs,m=>decide (f.1=n)&&rowOK T (n+(T f.2).size) fs m
def closedT (T:TypeId→TI) (ts:List TypeId):Bool :=
 ts.all fun t=>match (T t).kind with
  | .bool|.int _|.string=>decide ((T t).size=1)
  | .slice e=>ts.contains e&&decide ((T t).size=1)
  | .struct fs=>fs.all (fun f=>ts.contains f.2)&&rowOK T 0 fs (T t).size
  | .array m e=>ts.contains e&&decide ((T t).size=m * (T e).size)
  | _=>false
theorem mapM_at {α β:Type} {f:α→Option β}:∀ {l:List α} {ys:List β},l.mapM f=some ys→l.length=ys.length∧∀(i:Nat) x,l[i]?=some x→∃ y,f x=some y:=by
 intro l
 induction l with
 | nil=>intro ys h;simp at h;subst h;exact⟨rfl,fun i x hx=>by simp at hx⟩
 | cons a l ih =>
  intro ys h
  rw[List.mapM_cons] at h
  cases ha:f a with
  | none=>simp[ha] at h
  | some b =>
   cases hl:l.mapM f with
   | none=>simp[ha,hl] at h
   | some bs =>
    simp[ha,hl] at h
    subst h
    obtain⟨h1,h2⟩:=ih hl
    refine⟨by simp[h1],fun i x hx=>?_⟩
    cases i with
    | zero=>simp at hx;subst hx;exact⟨b,ha⟩
    | succ i=>exact h2 i x (by simpa using hx)
section
variable {P:Program} {T:TypeId→TI} {H:Type} {enc:TypeId × Value→H} {w:World} {φ:Nat→Loc}
abbrev Old (w:World):Addr→Prop:=fun a=>a.block<w.heap.size
def CellsAre (w:World) (φ:Nat→Loc) (azs:List AV) (cs:List Value):Prop :=
 azs.length=cs.length∧∀(j:Nat) a v,azs[j]?=some a→cs[j]?=some v→C (Old w) w φ a v∧v.oneCell'=true
theorem CellsAre.nil:CellsAre w φ [] []:=⟨rfl,fun j a v h=>by simp at h⟩
theorem CellsAre.one {a:AV} {v:Value} (h:C (Old w) w φ a v) (h1:v.oneCell'=true):CellsAre w φ [a] [v]:=by
 refine⟨rfl,fun j b u hb hu=>?_⟩
 cases j with
 | zero=>simp at hb hu;subst hb;subst hu;exact⟨h,h1⟩
 | succ j=>simp at hb
theorem CellsAre.append {azs bs:List AV} {cs ds:List Value} (h:CellsAre w φ azs cs) (k:CellsAre w φ bs ds):CellsAre w φ (azs++bs) (cs++ds):=by
 refine⟨by simp[h.1,k.1],fun j a v ha hv=>?_⟩
 rw[List.getElem?_append] at ha hv
 rw[← h.1] at hv
 split at ha
 ·
  rename_i hj;rw[if_pos hj] at hv;exact h.2 j a v ha hv
 ·
  rename_i hj;rw[if_neg hj] at hv;exact k.2 _ a v ha hv
theorem cellsOf_eq (hT:TabOK P T) {t:TypeId} (hk:(T t).kind≠.other):P.cellsOf t=(T t).size:=by
 obtain⟨i,z,hi,hs,_⟩:=(hT t).known hk
 simp[Program.cellsOf,hi,hs]
theorem mkT_cells {n:Nat} {t:TypeId} {azs:List AV} (h:Ty T n t azs):(mkT (T t) azs).cells=azs:=by
 cases n with
 | zero=>exact h.elim
 | succ n =>
  unfold Ty at h
  unfold mkT TI.agg
  cases hk:(T t).kind<;>simp only[hk] at h ⊢
  case bool=>obtain⟨b,rfl⟩:=h;rfl
  case int=>obtain⟨b,rfl,_⟩:=h;rfl
  case string=>obtain⟨b,rfl,_⟩:=h;rfl
  case slice=>obtain⟨es,rfl,_⟩:=h;rfl
  case struct=>rfl
  case array=>rfl
theorem cells_of {w:World} {base:Nat} {a:Addr} {n:Nat} {cs:List Value} (h:w.cells? base a n=some cs):cs.length=n∧∀(j:Nat) v,cs[j]?=some v→w.cell? (a.add j)=some v:=by
 unfold World.cells? at h
 split at h
 ·
  have key:∀(l:List Nat) (cs:List Value),l.mapM (fun i=>w.cell? (a.add i))=some cs→cs.length=l.length∧∀(j:Nat) v,cs[j]?=some v→∃ i,l[j]?=some i∧w.cell? (a.add i)=some v:=by
   intro l
   induction l with
   | nil=>intro cs h;simp at h;subst h;exact⟨rfl,fun j v hv=>by simp at hv⟩
   | cons i l ih =>
    intro cs h
    rw[List.mapM_cons] at h
    cases hi:w.cell? (a.add i) with
    | none=>simp[hi] at h
    | some u =>
     cases hl:l.mapM (fun i=>w.cell? (a.add i)) with
     | none=>simp[hi,hl] at h
     | some us =>
      simp[hi,hl] at h
      subst h
      obtain⟨h1,h2⟩:=ih us hl
      refine⟨by simp[h1],fun j v hv=>?_⟩
      cases j with
      | zero=>simp at hv;subst hv;exact⟨i,rfl,hi⟩
      | succ j=>simpa using h2 j v (by simpa using hv)
  obtain⟨h1,h2⟩:=key _ _ h
  refine⟨by simpa using h1,fun j v hv=>?_⟩
  obtain⟨i,hi,hc⟩:=h2 j v hv
  have hlt:j<n:=by have:=(List.getElem?_eq_some_iff.1 hv).1;rw[h1] at this;simpa using this
  rw[List.getElem?_range hlt] at hi
  cases hi
  exact hc
 ·
  cases h
theorem cell_lt {w:World} {a:Addr} {v:Value} (h:w.cell? a=some v):a.block<w.heap.size:=by
 unfold World.cell? at h
 split at h
 ·
  rename_i c e f hb;exact(Array.getElem?_eq_some_iff.1 hb).1
 ·
  cases h
theorem exists_row {β:Type} {Q:Nat→β→Prop} (n:Nat) (h:∀ i,i<n→∃ y,Q i y):∃ ys:List β,ys.length=n∧∀(i:Nat) y,ys[i]?=some y→Q i y:=by
 induction n with
 | zero=>exact⟨[],rfl,fun i y hy=>by simp at hy⟩
 | succ n ih =>
  obtain⟨ys,h1,h2⟩:=ih fun i hi=>h i (by omega)
  obtain⟨y,hy⟩:=h n (by omega)
  refine⟨ys++[y],by simp[h1],fun i z hz=>?_⟩
  rw[List.getElem?_append] at hz
  split at hz
  ·
   exact h2 i z hz
  ·
   rename_i hi
   have:=(List.getElem?_eq_some_iff.1 hz).1
   simp at this
   have e:i=n:=by omega
   subst e
   simp[h1] at hz
   subst hz
   exact hy
theorem fields_trod {n:Nat} {ts:List TypeId} {R:TypeId→List Value→Option (DataW H × List MemPlace)}
  (ih:∀(t:TypeId) (cs:List Value) x,t∈ts→R t cs=some x→∃ azs,Ty T n t azs∧CellsAre w φ azs cs∧cs.length=(T t).size) :
  ∀(F:List Field) (off m:Nat) (cs:List Value) (ys:List (DataW H × List MemPlace)),(∀ f∈F,f.type∈ts∧P.cellsOf f.type=(T f.type).size)→rowOK T off (F.map fun f=>(f.offset,f.type)) m=true→cs.length=m →
   off≤m→F.mapM (fun f=>R f.type ((cs.drop f.offset).take (P.cellsOf f.type)))=some ys→∃ azs,FieldsTy (Ty T n) (F.map fun f=>(f.offset,f.type)) azs∧CellsAre w φ azs (cs.drop off):=by
 intro F
 induction F with
 | nil =>
  intro off m cs ys _ hr hl _ _
  simp only[List.map_nil,rowOK,decide_eq_true_eq] at hr
  refine⟨[],rfl,?_⟩
  rw[List.drop_of_length_le (by omega)]
  exact CellsAre.nil
 | cons f F ihF =>
  intro off m cs ys hf hr hl hom hm
  simp only[List.map_cons,rowOK,Bool.and_eq_true,decide_eq_true_eq] at hr
  obtain⟨hoff,hr⟩:=hr
  rw[List.mapM_cons] at hm
  obtain⟨hft,hfs⟩:=hf f (by simp)
  cases h0:R f.type ((cs.drop f.offset).take (P.cellsOf f.type)) with
  | none=>simp[h0] at hm
  | some y =>
   cases h1:F.mapM (fun f=>R f.type ((cs.drop f.offset).take (P.cellsOf f.type))) with
   | none=>simp[h0,h1] at hm
   | some ys' =>
    obtain⟨a,ha,hca,hla⟩:=ih _ _ _ hft h0
    rw[hfs,hoff,List.length_take,List.length_drop] at hla
    have hle:off+(T f.type).size≤m∨(T f.type).size=0:=by omega
    obtain⟨azs,has,hcas⟩:=ihF (off+(T f.type).size) m cs ys' (fun g hg=>hf g (by simp[hg])) hr hl (by omega) h1
    refine⟨a++azs,⟨a,azs,rfl,ha,has⟩,?_⟩
    have e:cs.drop off=(cs.drop off).take (T f.type).size++cs.drop (off+(T f.type).size):=by
     rw[← List.drop_drop,List.take_append_drop]
    rw[e]
    rw[hfs,hoff] at hca
    exact hca.append hcas
theorem CellsAre.cons2 {azs:List (List AV)} {m sz:Nat} {cs:List Value} (hl:azs.length=m) (hcs:cs.length=m * sz) (h:∀(i:Nat) a,azs[i]?=some a→a.length=sz∧CellsAre w φ a ((cs.drop (i * sz)).take sz)):CellsAre w φ azs.flatten cs:=by
 induction azs generalizing m cs with
 | nil=>simp at hl;subst hl;simp at hcs;subst hcs;exact CellsAre.nil
 | cons a azs ih =>
  simp only[List.flatten_cons]
  have h0:=h 0 a rfl
  simp only[Nat.zero_mul,List.drop_zero] at h0
  have e:cs=cs.take sz++cs.drop sz:=(List.take_append_drop _ _).symm
  rw[e]
  refine h0.2.append (ih (m:=m-1) (by simp at hl;omega) ?_ fun i b hb=>?_)
  ·
   rw[List.length_drop,hcs,Nat.sub_mul,Nat.one_mul]
  ·
   have:=h (i+1) b (by simpa using hb)
   rw[List.drop_drop]
   have e2:sz+i * sz=(i+1) * sz:=by rw[Nat.succ_mul];omega
   rw[e2]
   exact this
theorem flatten_flat {n:Nat} {t:TypeId}:∀ {es:List (List AV)},(∀ x∈es,Ty T n t x)→flat (es.map (mkT (T t)))=es.flatten
 | [],_=>rfl
 | x::es,h=>by
  simp only[List.map_cons,flat,List.flatMap_cons,List.flatten_cons]
  rw[mkT_cells (h x (by simp))]
  congr 1
  exact flatten_flat fun y hy=>h y (by simp[hy])
theorem trod_Ty (hT:TabOK P T) {ts:List TypeId} (hc:closedT T ts=true) {base:Nat} {sp:Nat→Bool} {hd:Bool}:∀(n:Nat) (t:TypeId) (cs:List Value) (x:DataW H × List MemPlace),
  t∈ts→DataW.trod enc P w base sp hd n t cs=some x→∃ azs,Ty T n t azs∧CellsAre w φ azs cs∧cs.length=(T t).size:=by
 have hnoT:∀ t∈ts,(T t).kind≠.other:=by
  intro t ht e
  have hct:=List.all_eq_true.1 hc t ht
  simp[e] at hct
 intro n
 induction n with
 | zero=>intro t cs x _ h;simp[DataW.trod] at h
 | succ n ih =>
  intro t cs x ht h
  have hct:=List.all_eq_true.1 hc t ht
  have hno:=hnoT t ht
  obtain⟨i,z,hi,hsz,_,hz,hzc,hzz,hza,_,hzl,hK⟩:=(hT t).known hno
  unfold Ty
  cases hk:(T t).kind<;>simp only[hk] at hct hK ⊢<;>try contradiction
  case bool =>
   simp only[KindOK] at hK
   have hct:=of_decide_eq_true hct
   simp only[DataW.trod,hK] at h
   match cs,h with
   | [.bool b],_=>exact⟨_,⟨b,rfl⟩,.one (.raw _) rfl,hct.symm⟩
  case int k =>
   simp only[KindOK] at hK
   have hct:=of_decide_eq_true hct
   simp only[DataW.trod,hK] at h
   match cs,h with
   | [.int k' m],h =>
    simp only at h
    split at h
    ·
     rename_i hh
     obtain⟨rfl,hw⟩:=hh
     exact⟨_,⟨m,rfl,hw⟩,.one (.raw _) rfl,hct.symm⟩
    ·
     cases h
  case string =>
   simp only[KindOK] at hK
   have hct:=of_decide_eq_true hct
   simp only[DataW.trod,hK] at h
   match cs,h with
   | [.string b],h =>
    simp only at h
    split at h
    ·
     rename_i hh
     exact⟨_,⟨b,rfl,hh⟩,.one (.raw _) rfl,hct.symm⟩
    ·
     cases h
  case slice e =>
   simp only[KindOK] at hK
   simp only[Bool.and_eq_true,List.contains_iff_mem,decide_eq_true_eq] at hct
   obtain⟨hes,hct⟩:=hct
   simp only[DataW.trod,hK] at h
   have hsz:=cellsOf_eq hT (hnoT e hes)
   match cs,h with
   | [.slice none 0 0],_=>exact⟨_,⟨[],rfl,by simp,by simp⟩,.one (.lstnil _ _ trivial) rfl,hct.symm⟩
   | [.slice (some a) len cap],h =>
    simp only at h
    split at h
    ·
     rename_i hh
     obtain⟨_,hcap,hmax⟩:=hh
     simp only[Option.bind_eq_some_iff] at h
     obtain⟨elems,hel,_⟩:=h
     obtain⟨hlen,hat⟩:=mapM_at hel
     simp only[List.length_range] at hlen
     have key:∀ i,i<len→∃ azs,Ty T n e azs∧∃ vs,w.cells? base (a.add (i * P.cellsOf e)) (P.cellsOf e)=some vs∧CellsAre w φ azs vs:=by
      intro i hi
      obtain⟨y,hy⟩:=hat i i (List.getElem?_range hi)
      simp only[Option.bind_eq_some_iff] at hy
      obtain⟨vs,hvs,hy⟩:=hy
      obtain⟨azs,h1,h2,_⟩:=ih e vs y hes hy
      exact⟨azs,h1,vs,hvs,h2⟩
     obtain⟨es,hesl,hee⟩:=exists_row len key
     have hty:∀ x∈es,Ty T n e x:=by
      intro x hx
      obtain⟨j,hj,rfl⟩:=List.getElem_of_mem hx
      exact(hee j _ (List.getElem?_eq_getElem hj)).1
     have hflat:=flatten_flat hty
     have hcl:∀ x∈es.map (mkT (T e)),x.cells.length=(T e).size:=by
      intro x hx
      obtain⟨y,hy,rfl⟩:=List.mem_map.1 hx
      rw[mkT_cells (hty y hy)]
      obtain⟨j,hj,rfl⟩:=List.getElem_of_mem hy
      obtain⟨_,vs,hvs,hca⟩:=hee j _ (List.getElem?_eq_getElem hj)
      rw[hca.1,(cells_of hvs).1,hsz]
     have hcells:∀(j:Nat) c,(flat (es.map (mkT (T e))))[j]?=some c→∃ u,w.cell? (a.add j)=some u∧C (Old w) w φ c u∧u.oneCell'=true:=by
      intro j c hj
      have hjl:j<(flat (es.map (mkT (T e)))).length:=(List.getElem?_eq_some_iff.1 hj).1
      rw[flat_length hcl,List.length_map,hesl] at hjl
      have hpos:0<(T e).size:=by
       rcases Nat.eq_zero_or_pos (T e).size with h0|h0
       ·
        rw[h0] at hjl;simp at hjl
       ·
        exact h0
      have hil:j / (T e).size<len:=by rw[Nat.div_lt_iff_lt_mul hpos];exact hjl
      have hdm:j / (T e).size * (T e).size+j % (T e).size=j:=by rw[Nat.mul_comm];exact Nat.div_add_mod _ _
      have hx:es[j / (T e).size]?=some (es[j / (T e).size]'(by rw[hesl];exact hil)):=List.getElem?_eq_getElem _
      obtain⟨ht',vs,hvs,hca⟩:=hee _ _ hx
      obtain⟨hvl,hva⟩:=cells_of hvs
      rw[hsz] at hvs hvl hva
      have hxm:(es.map (mkT (T e)))[j / (T e).size]?=some (mkT (T e) (es[j / (T e).size]'(by rw[hesl];exact hil))):=by rw[List.getElem?_map,hx];rfl
      have hml:j % (T e).size<(es[j / (T e).size]'(by rw[hesl];exact hil)).length:=by rw[hca.1,hvl];exact Nat.mod_lt _ hpos
      have hcc:=flat_at hcl hxm (j:=j % (T e).size) (c:=(es[j / (T e).size]'(by rw[hesl];exact hil))[j % (T e).size]) (by rw[mkT_cells ht'];exact List.getElem?_eq_getElem _)
      rw[hdm,hj] at hcc
      have hvj:vs[j % (T e).size]?=some (vs[j % (T e).size]'(by rw[hvl];exact Nat.mod_lt _ hpos)):=List.getElem?_eq_getElem _
      refine⟨vs[j % (T e).size]'(by rw[hvl];exact Nat.mod_lt _ hpos),?_,?_⟩
      ·
       have:=hva _ _ hvj
       rw[add_add,hdm] at this
       exact this
      ·
       have:=hca.2 _ _ _ (List.getElem?_eq_getElem hml) hvj
       cases hcc
       exact this
     obtain⟨us,hul,hu⟩:=exists_vals (Q:=fun j c u=>w.cell? (a.add j)=some u∧C (Old w) w φ c u∧u.oneCell'=true) _ hcells
     have hget:∀(j:Nat) c,(flat (es.map (mkT (T e))))[j]?=some c→us[j]?=some (us.getD j undef):=by
      intro j c hj
      have hj':j<us.length:=by rw[hul];exact(List.getElem?_eq_some_iff.1 hj).1
      rw[List.getD_eq_getElem?_getD,List.getElem?_eq_getElem hj'];rfl
     refine⟨_,⟨es,rfl,by omega,hty⟩,.one ?_ rfl,hct.symm⟩
     refine .lst _ _ _ a len cap (fun j=>us.getD j undef) (by simp[hesl]) hcap hmax hcl (fun j c hj=>?_) (fun j c hj=>?_) (fun j c hj=>?_) trivial
     ·
      have:=hu j c _ hj (hget j c hj)
      exact⟨this.1,by have:=cell_lt this.1;unfold Addr.add at this ⊢;split<;>simpa[*] using this⟩
     ·
      exact(hu j c _ hj (hget j c hj)).2.1
     ·
      exact(hu j c _ hj (hget j c hj)).2.2
    ·
     cases h
  case struct fs =>
   obtain⟨F,hu,hF,_,_⟩:=hK
   simp only[Bool.and_eq_true,List.all_eq_true,List.contains_iff_mem] at hct
   obtain⟨hfs,hrow⟩:=hct
   have hco:=cellsOf_eq hT hno
   subst hF
   simp only[DataW.trod,hu] at h
   split at h
   ·
    rename_i hl
    simp only[Option.map_eq_some_iff] at h
    obtain⟨ys,hys,_⟩:=h
    obtain⟨azs,h1,h2⟩:=fields_trod (P:=P) (T:=T) (H:=H) (w:=w) (φ:=φ) (n:=n) (ts:=ts) (R:=fun t cs=>DataW.trod enc P w base sp hd n t cs) (fun t cs x ht hx=>ih t cs x ht hx) F.toList 0 (T t).size cs ys
     (fun f hf=>by
      have:=hfs (f.offset,f.type) (List.mem_map.2 ⟨f,hf,rfl⟩)
      exact⟨this,cellsOf_eq hT (hnoT _ this)⟩) hrow (by rw[hl,hco]) (Nat.zero_le _) hys
    exact⟨azs,h1,h2,by rw[hl,hco]⟩
   ·
    cases h
  case array m e =>
   simp only[KindOK] at hK
   simp only[Bool.and_eq_true,List.contains_iff_mem,decide_eq_true_eq] at hct
   obtain⟨hes,hct⟩:=hct
   have hco:=cellsOf_eq hT hno
   have hsz:=cellsOf_eq hT (hnoT e hes)
   have hu:=hK.1
   simp only[DataW.trod,hu] at h
   split at h
   ·
    rename_i hl
    simp only[Option.map_eq_some_iff] at h
    obtain⟨ys,hys,_⟩:=h
    obtain⟨_,hat⟩:=mapM_at hys
    have key:∀ i,i<m→∃ azs,Ty T n e azs∧CellsAre w φ azs ((cs.drop (i * (T e).size)).take (T e).size)∧azs.length=(T e).size:=by
     intro i hi
     obtain⟨y,hy⟩:=hat i i (List.getElem?_range hi)
     obtain⟨azs,h1,h2,h3⟩:=ih e _ y hes hy
     rw[hsz] at h2 h3
     exact⟨azs,h1,h2,by rw[h2.1,h3]⟩
    obtain⟨es,hesl,hee⟩:=exists_row m key
    refine⟨es.flatten,⟨es,rfl,hesl,fun x hx=>?_⟩,?_,by rw[hl,hco]⟩
    ·
     obtain⟨j,hj,rfl⟩:=List.getElem_of_mem hx
     exact(hee j _ (List.getElem?_eq_getElem hj)).1
    ·
     exact CellsAre.cons2 hesl (by rw[hl,hco,hct]) fun i a ha=>⟨(hee i a ha).2.2,(hee i a ha).2.1⟩
   ·
    cases h
theorem trod_val (hT:TabOK P T) {ts:List TypeId} (hc:closedT T ts=true) {base b':Nat} {sp:Nat→Bool} {hd:Bool} {rc:Reach} {t:TypeId} {v:Value} {d:DataW H} {ps:List MemPlace} (ht:t∈ts)
  (hf:Value.okWide P w rc b' t v) (h:DataW.Trod enc P w base sp hd t v d ps):∃ n azs,Ty T n t azs∧C (Old w) w φ (mkT (T t) azs) v:=by
 obtain⟨n,hn⟩:=h
 obtain⟨azs,h1,h2,h3⟩:=trod_Ty (w:=w) (φ:=φ) hT hc n t _ _ ht hn
 refine⟨n,azs,h1,?_⟩
 have hct:=List.all_eq_true.1 hc t ht
 have hno:(T t).kind≠.other:=by intro e;simp[e] at hct
 obtain⟨i,z,hi,hsz,_,hz,hzc,hzz,hza,_,hzl,hK⟩:=(hT t).known hno
 have scalar:∀ u,v=u→u.cells=#[u]→(∃ a,azs=[a])→C (Old w) w φ (azs.headD (.tup [])) v:=by
  rintro u rfl hu ⟨a,rfl⟩
  rw[hu] at h2
  exact(h2.2 0 a v rfl rfl).1
 have agg:∀ cs,v=.agg cs→C (Old w) w φ (.agg azs) v:=by
  rintro cs rfl
  refine .agg azs cs (by have:=h2.1;simpa[Value.cells] using this.symm) (fun i a v ha hv=>(h2.2 i a v ha (by simpa[Value.cells] using hv)).1) (fun v hv=>?_)
  obtain⟨k,hk,rfl⟩:=List.getElem_of_mem hv
  have hkl:k<azs.length:=by rw[h2.1];simpa[Value.cells] using hk
  exact(h2.2 k _ _ (List.getElem?_eq_getElem hkl) (by simp[Value.cells])).2
 cases n with
 | zero=>exact h1.elim
 | succ n =>
 unfold Ty at h1
 unfold mkT TI.agg
 cases hk:(T t).kind<;>simp only[hk] at hct hK h1 ⊢<;>try contradiction
 case bool =>
  simp only[KindOK] at hK
  obtain⟨b,rfl⟩:=WideShapes.okWide_bool hK hf
  obtain⟨b',rfl⟩:=h1
  exact scalar _ rfl rfl ⟨_,rfl⟩
 case int k =>
  simp only[KindOK] at hK
  obtain⟨b,rfl⟩:=WideShapes.okWide_int hK hf
  obtain⟨b',rfl,_⟩:=h1
  exact scalar _ rfl rfl ⟨_,rfl⟩
 case string =>
  simp only[KindOK] at hK
  obtain⟨b,rfl⟩:=WideShapes.okWide_string hK hf
  obtain⟨b',rfl,_⟩:=h1
  exact scalar _ rfl rfl ⟨_,rfl⟩
 case slice e =>
  simp only[KindOK] at hK
  obtain⟨a,l,c,rfl⟩:=WideShapes.okWide_slice hK hf
  obtain⟨b',rfl,_⟩:=h1
  exact scalar _ rfl rfl ⟨_,rfl⟩
 case struct fs =>
  obtain⟨F,hu,_⟩:=hK
  simp only[Value.okWide,hu] at hf
  obtain⟨cs,rfl,_⟩:=hf
  exact agg _ rfl
 case array m e =>
  simp only[KindOK] at hK
  simp only[Value.okWide,hK.1] at hf
  obtain⟨cs,rfl,_⟩:=hf
  exact agg _ rfl
def TyAll (T:TypeId→TI):List TypeId→List AV→Prop
 | [],azs=>azs=[]
 | t::ts,azs=>∃ n a r,azs=mkT (T t) a::r∧Ty T n t a∧TyAll T ts r
theorem trodAll_vals (hT:TabOK P T) {ts:List TypeId} (hc:closedT T ts=true) {base b':Nat} {sp:Nat→Bool} {hd:Bool} {rc:Reach}:∀ {us:List TypeId} {vs:List Value} {ds:List (DataW H)} {ps:List MemPlace},(∀ t∈us,t∈ts) →
  (∀(j:Nat) t v,us[j]?=some t→vs[j]?=some v→Value.okWide P w rc b' t v)→DataW.TrodAll enc P w base sp hd us vs ds ps→∃ azs,TyAll T us azs∧CAll (Old w) w φ azs vs.toArray∧ds.length=us.length
 | [],vs,ds,ps,_,_,h=>by
  obtain⟨rfl,rfl,rfl⟩:=ChangeShapes.trodAll_nil h
  exact⟨[],rfl,CAll.nil,rfl⟩
 | t::us,vs,ds,ps,hm,hv,h=>by
  obtain⟨v,vs1,d,ds1,a,b,rfl,rfl,rfl,h1,h2⟩:=ChangeShapes.trodAll_cons h
  obtain⟨azs,k1,k2,k3⟩:=trodAll_vals hT hc (fun t ht=>hm t (by simp[ht])) (fun j t v hj hjv=>hv (j+1) t v (by simpa using hj) (by simpa using hjv)) h2
  obtain⟨n,x,q1,q2⟩:=trod_val (φ:=φ) hT hc (hm t (by simp)) (hv 0 t v rfl rfl) h1
  exact⟨_::azs,⟨n,x,azs,rfl,q1,k1⟩,CAll.cons q2 k2,by simp[k3]⟩
theorem args_stay (hl:laidOutB P=true) {W W':World} (hb:Below W.heap.size W W'):∀ {us:List TypeId} {vs:List Value} {ds:List (DataW H)} {ps:List MemPlace},(∀ t∈us,P.readableRec t=true∧t<P.types.size) →
  (∀ p∈ps,p.block<W.heap.size)→DataW.TrodAll enc P W 0 (fun _=>true) true us vs ds ps→DataW.TrodAll enc P W' 0 (fun b=>decide (b<W.heap.size)) true us vs ds ps
 | [],vs,ds,ps,_,_,h=>by
  obtain⟨rfl,rfl,rfl⟩:=ChangeShapes.trodAll_nil h
  exact ChangeShapes.trodAll_mk0
 | t::us,vs,ds,ps,hm,hp,h=>by
  obtain⟨v,vs1,d,ds1,a,b,rfl,rfl,rfl,h1,h2⟩:=ChangeShapes.trodAll_cons h
  exact⟨a,b,Below.trod hl (hm t (by simp)).1 (hm t (by simp)).2 h1 hb (fun x hx=>hp x (by simp[hx])),args_stay hl hb (fun t ht=>hm t (by simp[ht])) (fun x hx=>hp x (by simp[hx])) h2,rfl⟩
theorem law_contract {f:FuncId} {fn:Func} {s:ChangeSpec} {tb:TypeId} {ts:List TypeId} (hT:TabOK P T) (hc:closedT T ts=true) (hl:laidOutB P=true) (hpar:fn.params.toList.all (fun t=>ts.contains t&&P.readableRec t&&decide (t<P.types.size))=true)
  (hres:fn.resultTypes=#[tb]) (htb:P.underlying tb=some .bool) (hsv:s.vars=[]) (hs:∀ ds:List (DataW H),ds.length=fn.params.toList.length→(s.fn H ds).results=[.lit (.bool true)]∧(s.fn H ds).args=ds∧(s.fn H ds).vars=[])
  (hcall:∀ azs,TyAll T fn.params.toList azs→PCall P f azs (.raw (.bool true)))
  (W:World) (base:Nat) (args:Array Value) (ds gs:List (DataW H)) (before:List MemPlace) (hval:∀(j:Nat) t v,fn.params[j]?=some t→args[j]?=some v→Value.okWide P W .any base t v)
  (hW:DataW.Whole enc P fn.params.toList s.vars false W args.toList ds gs before) (htab:∀ x∈tabL,∃ cs t l,W.heap[x.1]?=some (.cells cs t l)∧x.2 cs) :
  Calls P f args W fun e W'=>∃ v,e=.returned v∧s.post enc P fn false true false false W args v W':=by
 have hW':=hW
 obtain⟨p,q,hA,hV,rfl,hfz,hnd⟩:=hW
 rw[hsv] at hV
 have hg:gs=[]∧q=[]:=by
  cases gs with
  | nil=>exact⟨rfl,hV⟩
  | cons g gs=>exact hV.elim
 obtain⟨rfl,rfl⟩:=hg
 have hm:∀ t∈fn.params.toList,t∈ts∧P.readableRec t=true∧t<P.types.size:=by
  intro t ht
  have:=List.all_eq_true.1 hpar t ht
  simp only[Bool.and_eq_true,List.contains_iff_mem,decide_eq_true_eq] at this
  exact⟨this.1.1,this.1.2,this.2⟩
 obtain⟨azs,k1,k2,k3⟩:=trodAll_vals (φ:=fun _=>.no) hT hc (fun t ht=>(hm t ht).1) (fun j t v hj hv=>hval j t v (by simpa using hj) (by simpa using hv)) hA
 obtain⟨_,_,h3⟩:=hcall azs k1
 obtain⟨_,hcalls⟩:=h3 (Old W) W args (fun a ha=>ha) (fun x hx=>⟨htab x hx,no_owns⟩) k2
 refine Calls.mono hcalls ?_
 rintro e W' ⟨v,S',rfl,hcv,hr,hx⟩
 cases hcv
 have hb:Below W.heap.size W W':=⟨hx.os,hx.tape,hx.output,hx.size,fun k hk=>hx.keep k hk no_owns⟩
 obtain⟨e1,e2,e3⟩:=hs ds k3
 refine⟨_,rfl,ds,[],_,[],p,[],hW',?_,?_,?_,hb.frame _,fun h=>by cases h⟩
 ·
  rw[List.append_nil,e1,hres]
  exact ChangeShapes.trodAll_mk1 (shut_bool htb true)
 ·
  rw[List.append_nil,e2]
  exact args_stay hl hb (fun t ht=>(hm t ht).2) (fun x hx=>hW'.lt x (by simp[hx])) hA
 ·
  rw[List.append_nil,e3,hsv]
  rfl
end
end Go.Abs
