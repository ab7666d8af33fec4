/-
  AbsN: put together.
-/
import Derived.Test.YtpamokpmlplopaaGreatDoorUniAb
import Derived.RangeFuncLeaves
import Derived.RangeFuncRecord
import Derived.RangeFuncSeq
namespace Go.Abs
open Go.RowKit
abbrev Post:=AExit→List AV→List Blk→Prop
def condSet (s:List AV) (c:Operand) (b:Bool):List AV :=
 match c with
 | .tmp t=>s.set t (.raw (.bool b))
 | _=>s
def Ghost (s:List AV) (h:List Blk) (s':List AV) (h':List Blk):Prop :=
 ∀ S φ w vs,CAll S w φ s vs→R S φ h w→∃ S' φ',CAll S' w φ' s' vs∧R S' φ' h' w∧Ext S φ h w S' φ' h' w
theorem Ghost.refl (s:List AV) (h:List Blk):Ghost s h s h:=fun S φ _ _ hs hr=>⟨S,φ,hs,hr,Ext.refl _ _ _ _⟩
theorem Ghost.trans {s s' s'':List AV} {h h' h'':List Blk} (g:Ghost s h s' h') (k:Ghost s' h' s'' h''):Ghost s h s'' h'':=by
 intro S φ w vs hs hr
 obtain⟨S',φ',h1,h2,h3⟩:=g S φ w vs hs hr
 obtain⟨S'',φ'',k1,k2,k3⟩:=k S' φ' w vs h1 h2
 exact⟨S'',φ'',k1,k2,h3.trans k3⟩
def noR:Code→Bool
 | .seq x y=>noR x&&noR y
 | .cond _ x y=>noR x&&noR y
 | .block _ c=>noR c
 | .loop c=>noR c
 | .scope c=>noR c
 | .rangeFunc _ _ _ _=>false
 | _=>true
def loopEnd (Q:Post) (s:List AV) (k:Nat) (h:List Blk):Prop :=
 match h[k]? with
 | some (.lp _ .ready none _ _ _ _)=>Q .normal s (h.set k .dead)
 | some (.lp _ .done (some .ret) _ _ _ _)=>Q .ret s (h.set k .dead)
 | some (.lp _ .done (some (.exit id)) _ _ _ _)=>Q (.exit id) s (h.set k .dead)
 | _=>False
def RangeK (P:Program) (g:Operand) (ps:Array Tmp) (x y:Code) (Q:Post) (s:List AV) (h:List Blk):Prop :=
 match opd s g with
 | .fn (.func gf) [] captured=>∀ l:Nat,ACall P gf (.fn (.yield l) [] []::captured) (h++[.lp l .ready none ps x y s]) fun _ h'=>loopEnd Q s h.length h'
 | _=>False
def vc (P:Program) (T:TypeId→TI):Code→Post→List AV→List Blk→Prop
 | .skip,Q,s,h=>Q .normal s h
 | .region _ ops false,Q,s,h=>vcOps P T ops ops.toList s h (Q .normal)
 | .region _ ops true,Q,s,h=>DrawK P T ops s h (Q .normal)
 | .seq x y,Q,s,h=>vc P T x (fun e s h=>match e with
  | .normal=>vc P T y Q s h
  | .exit i=>Q (.exit i) s h
  | .ret=>Q .ret s h
  | .goto l=>Q (.goto l) s h) s h
 | .cond c x y,Q,s,h=>match opd s c with
  | .raw (.bool b)=>match b with
   | true=>vc P T x Q (condSet s c true) h
   | false=>vc P T y Q (condSet s c false) h
  | _=>False
 | .block id c,Q,s,h=>vc P T c (fun e s h=>match e with
  | .normal=>Q .normal s h
  | .exit i=>match decide (i=id) with
   | true=>Q .normal s h
   | false=>Q (.exit i) s h
  | .ret=>Q .ret s h
  | .goto l=>Q (.goto l) s h) s h
 | .loop c,Q,s,h=>∃ s' h',Ghost s h s' h'∧∃ n,LoopN (fun Q' s h=>vc P T c Q' s h) Q n s' h'
 | .exit id,Q,s,h=>Q (.exit id) s h
 | .ret,Q,s,h=>Q .ret s h
 | .label _,Q,s,h=>Q .normal s h
 | .scope c,Q,s,h=>vc P T c (fun e s h=>match e with
  | .normal=>Q .normal s h
  | .exit i=>Q (.exit i) s h
  | .ret=>Q .ret s h
  | .goto _=>False) s h
 | .goto l,Q,s,h=>Q (.goto l) s h
 | .rangeFunc g ps x y,Q,s,h=>RangeK P g ps x y Q s h
 | _,_,_,_=>False
def exitOf:Exit→Option AExit
 | .normal=>some .normal
 | .exit i=>some (.exit i)
 | .ret=>some .ret
 | .goto l=>some (.goto l)
 | _=>none
def ConcX (n0:Nat) (Q:Post) (S:Addr→Prop) (φ:Nat→Loc) (h:List Blk) (w:World) (e:Exit) (a':Act) (w':World):Prop :=
 ∃ x,exitOf e=some x∧Conc n0 (Q x) S φ h w a' w'
section
variable {P:Program} {T:TypeId→TI} {S S':Addr→Prop} {φ φ':Nat→Loc} {h h':List Blk} {w w':World} {s s':List AV} {a a':Act} {n0:Nat}
theorem Conc.trans {K:List AV→List Blk→Prop} {a'':Act} {w'':World} (he:Ext S φ h w S' φ' h' w') (k:Conc n0 K S' φ' h' w' a'' w''):Conc n0 K S φ h w a'' w'':=by
 obtain⟨s'',h'',S'',φ'',hK'',hd'',hs'',hr'',he'⟩:=k
 exact⟨s'',h'',S'',φ'',hK'',hd'',hs'',hr'',he.trans he'⟩
theorem ConcX.trans {Q:Post} {e:Exit} {a'':Act} {w'':World} (he:Ext S φ h w S' φ' h' w') (k:ConcX n0 Q S' φ' h' w' e a'' w''):ConcX n0 Q S φ h w e a'' w'':=by
 obtain⟨x,hx,k⟩:=k
 exact⟨x,hx,k.trans he⟩
theorem exists_least {p:Nat→Prop} (h:∃ n,p n):∃ n,p n∧∀ m,p m→n≤m:=by
 obtain⟨n,hn⟩:=h
 induction n using Nat.strongRecOn with
 | _ n ih =>
  by_cases hm:∃ m,m<n∧p m
  ·
   obtain⟨m,hlt,hpm⟩:=hm
   exact ih m hlt hpm
  ·
   exact⟨n,hn,fun m hpm=>Nat.le_of_not_lt fun hlt=>hm ⟨m,hlt,hpm⟩⟩
theorem condSet_same {c:Operand} {b:Bool} (hs:CAll S w φ s a.tmps) (hb:opd s c=.raw (.bool b)):CAll S w φ (condSet s c b) a.tmps:=by
 cases c with
 | tmp t=>exact set_same_bool hs hb
 | _=>exact hs
def LoopIn (n0:Nat) (P:Program) (T:TypeId→TI) (c:Code) (Q:Post) (S:Addr→Prop) (φ:Nat→Loc) (h:List Blk) (w:World) (a':Act) (w':World) (n:Nat):Prop :=
 ∃ s' h' S' φ',LoopN (fun Q' s h=>vc P T c Q' s h) Q n s' h'∧MK n0 S' φ' h' w' a'.defers∧CAll S' w' φ' s' a'.tmps∧R S' φ' h' w'∧Ext S φ h w S' φ' h' w'
theorem wpIn_scope_fw {ro:Option Nat} {c:Code} {Q:Exit→Act→World→Prop} {a:Act} {w:World} (h:c.wpIn (FW ro) 0 P (Exit.noGoto Q) a w):(Code.scope c).wpIn (FW ro) 0 P Q a w:=by
 intro b k cs hro hb hr
 have st:∀ {a:Act} {w:World} {k:List Item} {c:Code},step P (lone (b.atR a (.code (.scope c)::k)) cs w)=.next (lone (b.atR a (.code c::.inScope c::k)) cs w):=step_lone_go (by simp[stepG,stepG.exec,Frame.atR])
 have si:∀ {a:Act} {w:World} {k:List Item} {c:Code},step P (lone (b.atR a (.inScope c::k)) cs w)=.next (lone (b.atR a k) cs w):=step_lone_go (by simp[stepG,stepG.exec,Frame.atR])
 have h0:(lone (b.atR a (.code (.scope c)::k)) cs w).fenced P (FW ro):=fenced_calm hb hr rfl
 obtain⟨e,a₁,w₁,hq,harr⟩:=h b (.inScope c::k) cs hro hb hr
 cases e with
 | normal=>exact⟨.normal,a₁,w₁,hq,.head h0 st (StepsIn.trans harr (.one (fenced_calm hb hr rfl) si))⟩
 | exit id =>
  have hx:exitTo id (.inScope c::k)=exitTo id k:=by simp[exitTo]
  exact⟨.exit id,a₁,w₁,hq,fun k' hk=>.head h0 st (harr.1 k' (by rw[hx];exact hk)),
   fun hr' hk=>let ⟨k₁,h1,h2⟩:=harr.2 hr' (by rw[hx];exact hk);⟨k₁,h1,.head h0 st h2⟩⟩
 | goto l=>exact hq.elim
 | ret=>exact⟨_,a₁,w₁,hq,.of_steps (.one h0 st) harr⟩
 | panic ch=>exact⟨_,a₁,w₁,hq,.of_steps (.one h0 st) harr⟩
 | outgrown=>exact⟨_,a₁,w₁,hq,.of_steps (.one h0 st) harr⟩
set_option maxHeartbeats 1000000 in
theorem range_sound {g:Operand} {ps:Array Tmp} {x y:Code} {Q:Post} (hv:RangeK P g ps x y Q s h) (hd:MK n0 S φ h w a.defers) (hs:CAll S w φ s a.tmps) (hr:R S φ h w) :
  (Code.rangeFunc g ps x y).wpIn (FW none) 0 P (ConcX n0 Q S φ h w) a w:=by
 unfold RangeK at hv
 have hg:=C.opd hs g
 split at hv
 ·
  rename_i gf captured hge
  rw[hge] at hg
  generalize hvg:a.eval g=vg at hg
  cases hg with
  | fn _ _ _ vs us hl hl' hc1 hc2 =>
   have hvs:vs=#[]:=Array.eq_empty_of_size_eq_zero hl
   subst hvs
   refine wpIn_rangeFunc ?_
   intro fn _
   obtain⟨rec,hrec⟩:∃ rec:Loop,rec={ state:=.ready,pending:=none,fn,tmps:=a.tmps,params:=ps,assign:=x,body:=y,defers:=w.heap.size }:=⟨_,rfl⟩
   have hd0:n0≤w.heap.size:=hd.1
   obtain⟨W1,hW1⟩:∃ W1,(w.alloc (.deferred (some []))).alloc (.loop rec)=W1:=⟨_,rfl⟩
   have hsz1:W1.heap.size=w.heap.size+2:=by rw[← hW1];simp
   have hL1:W1.heap[w.heap.size+1]?=some (.loop rec):=by
    rw[← hW1];have:=World.alloc_heap_new (w.alloc (.deferred (some []))) (.loop rec);rwa[World.size_alloc] at this
   have hK1:W1.heap[w.heap.size]?=some (.deferred (some [])):=by
    rw[← hW1];exact(Below.heap_alloc _ _ _ (by simp)).trans (World.alloc_heap_new w _)
   have hold:∀ b,b<w.heap.size→W1.heap[b]?=w.heap[b]?:=fun b hb=>by
    rw[← hW1];exact(Below.heap_alloc _ _ _ (by simp;omega)).trans (Below.heap_alloc _ _ _ hb)
   have hcell:∀ c,S c→W1.cell? c=w.cell? c:=fun c hc=>cell_of_heap (hold c.block (hr.bnd c hc))
   obtain⟨l,hlD⟩:∃ l,l=w.heap.size+1:=⟨_,rfl⟩
   have hle2:∀ k,(φ k).le (upd φ h.length (.obj l) k):=fun k=>by
    by_cases e:k=h.length
    ·
     subst e;rw[hr.fresh _ (Nat.le_refl _)];trivial
    ·
     rw[upd_other _ e];exact Loc.le_refl _
   have hos:W1.os=w.os∧W1.tape=w.tape∧W1.output=w.output:=by rw[← hW1];exact⟨rfl,rfl,rfl⟩
   obtain⟨k1,k2⟩:=hr.push (l:=.obj l) (x:=.lp l .ready none ps x y s) (S':=S) (w':=W1) hos.1 hos.2.1 hos.2.2 (by omega) hold (fun _ h=>h) (fun _ h=>.inl h) (fun c hc=>by have:=hr.bnd c hc;omega)
    ⟨upd_same _ _ _,fn,a.tmps,w.heap.size,by rw[hlD,hL1,hrec],hs.mono (fun _ h=>h) hcell hle2,fun c hc e=>by have:=hr.bnd c hc;omega⟩ (fun b hb=>by cases hb;omega)
   have hargs:CAll S W1 (upd φ h.length (.obj l)) (.fn (.yield l) [] []::captured) (#[.func (.yield l) #[] #[]]++us):=by
    have q1:CAll S W1 (upd φ h.length (.obj l)) [.fn (.yield l) [] []] #[.func (.yield l) #[] #[]] :=
     ⟨rfl,fun i u v hu hv=>by
      cases i with
      | zero=>cases hu;cases hv;exact .fn _ _ _ _ _ rfl rfl (fun i a v h=>by simp at h) (fun i a v h=>by simp at h)
      | succ i=>simp at hu⟩
    have q2:CAll S W1 (upd φ h.length (.obj l)) captured us:=CAll.mono (S:=S) (w:=w) (φ:=φ) (fun _ h=>h) hcell hle2 ⟨hl',hc2⟩
    exact q1.append q2
   obtain⟨henter,hcalls⟩:=hv l S (upd φ h.length (.obj l)) W1 _ k1 hargs
   have hnoD:¬ Owns (upd φ h.length (.obj l)) (h++[.lp l .ready none ps x y s]) w.heap.size:=fun ho=>by
    obtain⟨j,z,hj,hb⟩:=ho
    rcases Nat.lt_or_ge j h.length with g|g
    ·
     rw[List.getElem?_append_left g] at hj
     rw[upd_other _ (by omega)] at hb
     exact absurd (owned_lt (hr.blk j z hj) hb) (by omega)
    ·
     rw[List.getElem?_append_right g] at hj
     have e0:j-h.length=0:=by
      rcases Nat.eq_zero_or_pos (j-h.length) with q|q
      ·
       exact q
      ·
       rw[List.getElem?_eq_none (by simp;omega)] at hj;cases hj
     rw[e0] at hj
     have ej:j=h.length:=by omega
     subst ej
     simp at hj
     subst hj
     rw[upd_same] at hb
     cases hb
     omega
   have hd1:MK n0 S (upd φ h.length (.obj l)) (h++[.lp l .ready none ps x y s]) W1 ({ target:=.collected w.heap.size,args:=#[] }::a.defers):=by
    obtain⟨_,Ds,p1,p2,p3⟩:=hd
    refine⟨by omega,w.heap.size::Ds,by rw[p1];rfl,List.nodup_cons.2 ⟨fun hm=>?_,p2⟩,fun D hm=>?_⟩
    ·
     have:=(Array.getElem?_eq_some_iff.1 (p3 _ hm).2.1).1
     omega
    ·
     rcases List.mem_cons.1 hm with rfl|hm
     ·
      exact⟨by have:=hd0;omega,hK1,hnoD,fun c hc e=>by have:=hr.bnd c hc;omega⟩
     ·
      exact mk_ext k2 p3 D hm
   refine⟨l,[{ target:=.collected w.heap.size,args:=#[] }],W1,{ target:=.fn (.func gf) us,args:=#[.func (.yield l) #[] #[]] },W1,gf,#[.func (.yield l) #[] #[]]++us,W1,?_,?_,fun _ _=>trivial,?_,fun h=>(by cases h),?_⟩
   ·
    rw[hlD,← hW1,hrec];exact run_enterLoop_outer _ _ _ _ _
   ·
    simp only[resolve,hvg]
    simp[go_sem]
   ·
    simp only[invoke]
    exact henter
   ·
    refine callsIn_fw.2 (Calls.mono hcalls ?_)
    rintro e W3 ⟨v,r,h',S',φ',rfl,hK,_,hr3,he3⟩
    unfold loopEnd at hK
    have hφk:φ' h.length=.obj l:=by have:=he3.loc h.length;rw[upd_same] at this;exact this
    have hs3:CAll S' W3 φ' s a.tmps:=he3.CAll (k2.CAll hs)
    have hd3:=hd1.ext he3
    have step:∀ {l':Nat} {st:LoopState} {pe:Option Code} {ps':Array Tmp} {x' y':Code} {s':List AV},h'[h.length]?=some (.lp l' st pe ps' x' y' s')→st≠.busy →
      ∃ w4,(Instr.endLoop l).run P W3=.ok pe w4∧MK n0 S' (upd φ' h.length (.obj l)) (h'.set h.length .dead) w4 ({ target:=.collected w.heap.size,args:=#[] }::a.defers)∧CAll S' w4 (upd φ' h.length (.obj l)) s a.tmps ∧
       R S' (upd φ' h.length (.obj l)) (h'.set h.length .dead) w4∧Ext S φ h w S' (upd φ' h.length (.obj l)) (h'.set h.length .dead) w4:=by
     intro l' st pe ps' x' y' s' hb hst
     obtain⟨g1,fn',tmps',D',g2,g3,g4⟩:=hr3.blk _ _ hb
     rw[hφk] at g1
     cases g1
     have hend:=run_endLoop (P:=P) g2 hst
     have hlt:=(Array.getElem?_eq_some_iff.1 g2).1
     have hown:blockOf (φ' h.length) (.lp l st pe ps' x' y' s')=some l:=by rw[hφk];rfl
     have hoth:∀(o:Obj) b,b≠l→(W3.putObj l o).heap[b]?=W3.heap[b]?:=fun o b hb=>World.putObj_heap_other hb
     obtain⟨m1,m2⟩:=hr3.put (k:=h.length) (x:=.dead) (l:=.obj l) (S':=S') (w':=W3.putObj l (.loop { state:=.exhausted,pending:=pe,fn:=fn',tmps:=tmps',params:=ps',assign:=x',body:=y',defers:=D' })) hb rfl rfl rfl (by simp)
      (fun b _ hne=>hoth _ b (fun e=>hne (by rw[hown,e]))) (fun _ h=>h) (fun c hc=>cell_of_heap (hoth _ c.block (g4 c hc))) (fun _ h=>.inl h) (fun c hc=>by have:=hr3.bnd c hc;simpa using this) (by rw[hφk];rfl) trivial (fun b hb=>by cases hb)
     exact⟨_,hend,hd3.ext m2,m2.CAll hs3,m1,(k2.trans he3).trans m2⟩
    split at hK
    ·
     rename_i hb
     obtain⟨w4,e1,e2,e3,e4,e5⟩:=step hb (by simp)
     exact⟨none,w4,e1,.normal,rfl,s,_,S',_,hK,e2,e3,e4,e5⟩
    ·
     rename_i hb
     obtain⟨w4,e1,e2,e3,e4,e5⟩:=step hb (by simp)
     exact⟨some .ret,w4,e1,wpIn_ret ⟨.ret,rfl,s,_,S',_,hK,e2,e3,e4,e5⟩⟩
    ·
     rename_i id _ _ _ _ hb
     obtain⟨w4,e1,e2,e3,e4,e5⟩:=step hb (by simp)
     exact⟨some (.exit id),w4,e1,wpIn_exit ⟨.exit id,rfl,s,_,S',_,hK,e2,e3,e4,e5⟩⟩
    ·
     exact hK.elim
 ·
  exact hv.elim
theorem vc_soundIn (hT:TabOK P T) {ro:Option Nat} (c:Code):(ro.isSome=true→noR c=true)→∀ {Q:Post} {S φ h w s a},vc P T c Q s h→MK n0 S φ h w a.defers→CAll S w φ s a.tmps→R S φ h w→c.wpIn (FW ro) 0 P (ConcX n0 Q S φ h w) a w:=by
 induction c with
 | skip=>intro hro Q S φ h w s a hv hd hs hr;exact wpIn_skip ⟨.normal,rfl,s,h,S,φ,hv,hd,hs,hr,Ext.refl _ _ _ _⟩
 | region id ops draw =>
  intro hro Q S φ h w s a hv hd hs hr
  cases draw with
  | true=>exact drawK_sound hT hd hs hr hv fun a' w' k=>⟨.normal,rfl,k⟩
  | false=>exact wpIn_region_list (vcOps_sound hT ops.toList hd hs hr hv fun a' w' k=>⟨.normal,rfl,k⟩)
 | seq x y ihx ihy =>
  intro hro Q S φ h w s a hv hd hs hr
  refine wpIn_seq (wpIn_mono (ihx (fun e=>(Bool.and_eq_true_iff.1 (hro e)).1) hv hd hs hr) ?_)
  rintro e a' w' ⟨x',hx,s',h',S',φ',hK,hd',hs',hr',he⟩
  cases e<;>simp only[exitOf] at hx<;>cases hx
  ·
   exact wpIn_mono (ihy (fun e=>(Bool.and_eq_true_iff.1 (hro e)).2) hK hd' hs' hr') fun e a'' w'' k=>k.trans he
  ·
   exact⟨_,rfl,s',h',S',φ',hK,hd',hs',hr',he⟩
  ·
   exact⟨_,rfl,s',h',S',φ',hK,hd',hs',hr',he⟩
  ·
   exact⟨_,rfl,s',h',S',φ',hK,hd',hs',hr',he⟩
 | cond c x y ihx ihy =>
  intro hro Q S φ h w s a hv hd hs hr
  simp only[vc] at hv
  have hc:=C.opd hs c
  split at hv
  ·
   rename_i b hb
   rw[hb] at hc
   generalize hvc:a.eval c=v at hc
   cases hc
   cases b with
   | true=>exact wpIn_cond_true hvc (ihx (fun e=>(Bool.and_eq_true_iff.1 (hro e)).1) hv hd (condSet_same hs hb) hr)
   | false=>exact wpIn_cond_false hvc (ihy (fun e=>(Bool.and_eq_true_iff.1 (hro e)).2) hv hd (condSet_same hs hb) hr)
  ·
   exact hv.elim
 | block id c ih =>
  intro hro Q S φ h w s a hv hd hs hr
  refine wpIn_block (wpIn_mono (ih hro hv hd hs hr) ?_)
  rintro e a' w' ⟨x',hx,s',h',S',φ',hK,hd',hs',hr',he⟩
  cases e<;>simp only[exitOf] at hx<;>cases hx
  ·
   exact⟨_,rfl,s',h',S',φ',hK,hd',hs',hr',he⟩
  ·
   rename_i i
   dsimp only at hK
   simp only[Exit.inBlock]
   by_cases e:i=id
   ·
    rw[if_pos e]
    rw[decide_eq_true e] at hK
    exact⟨_,rfl,s',h',S',φ',hK,hd',hs',hr',he⟩
   ·
    rw[if_neg e]
    rw[decide_eq_false e] at hK
    exact⟨_,rfl,s',h',S',φ',hK,hd',hs',hr',he⟩
  ·
   exact⟨_,rfl,s',h',S',φ',hK,hd',hs',hr',he⟩
  ·
   exact⟨_,rfl,s',h',S',φ',hK,hd',hs',hr',he⟩
 | loop c ih =>
  intro hro Q S φ h w s a hv hd hs hr
  obtain⟨s0,h0,hg,n,hn⟩:=hv
  obtain⟨S0,φ0,hs0,hr0,he0⟩:=hg S φ w a.tmps hs hr
  have hle:∀ a' w',(∃ n,LoopIn n0 P T c Q S φ h w a' w' n)→∃ n,LoopIn n0 P T c Q S φ h w a' w' n∧∀ m,LoopIn n0 P T c Q S φ h w a' w' m→n≤m:=fun a' w' hx=>exists_least hx
  classical
  refine wpIn_loop (I:=fun a' w'=>∃ n,LoopIn n0 P T c Q S φ h w a' w' n) (μ:=fun a' w'=>if hx:∃ n,LoopIn n0 P T c Q S φ h w a' w' n then Classical.choose (hle a' w' hx) else 0) ⟨n,s0,h0,S0,φ0,hn,hd.ext he0,hs0,hr0,he0⟩ ?_
  intro a₁ w₁ hx
  obtain⟨hm,hmin⟩:=Classical.choose_spec (hle a₁ w₁ hx)
  rw[dif_pos hx]
  generalize Classical.choose (hle a₁ w₁ hx)=m at hm hmin
  obtain⟨s₁,h₁,S₁,φ₁,hL,hd₁,hs₁,hr₁,he₁⟩:=hm
  cases m with
  | zero=>exact hL.elim
  | succ m =>
   refine wpIn_mono (ih hro hL hd₁ hs₁ hr₁) ?_
   rintro e a' w' ⟨x',hx',s',h',S',φ',hK,hd',hs',hr',he⟩
   cases e<;>simp only[exitOf] at hx'<;>cases hx'
   ·
    have hin:LoopIn n0 P T c Q S φ h w a' w' m:=⟨s',h',S',φ',hK,hd',hs',hr',he₁.trans he⟩
    refine⟨⟨m,hin⟩,?_⟩
    rw[dif_pos ⟨m,hin⟩]
    have:=(Classical.choose_spec (hle a' w' ⟨m,hin⟩)).2 m hin
    omega
   ·
    exact⟨_,rfl,s',h',S',φ',hK,hd',hs',hr',he₁.trans he⟩
   ·
    exact⟨_,rfl,s',h',S',φ',hK,hd',hs',hr',he₁.trans he⟩
   ·
    exact⟨_,rfl,s',h',S',φ',hK,hd',hs',hr',he₁.trans he⟩
 | exit id=>intro hro Q S φ h w s a hv hd hs hr;exact wpIn_exit ⟨_,rfl,s,h,S,φ,hv,hd,hs,hr,Ext.refl _ _ _ _⟩
 | ret=>intro hro Q S φ h w s a hv hd hs hr;exact wpIn_ret ⟨_,rfl,s,h,S,φ,hv,hd,hs,hr,Ext.refl _ _ _ _⟩
 | label l=>intro hro Q S φ h w s a hv hd hs hr;exact wpIn_label ⟨_,rfl,s,h,S,φ,hv,hd,hs,hr,Ext.refl _ _ _ _⟩
 | goto l=>intro hro Q S φ h w s a hv hd hs hr;exact wpIn_goto ⟨_,rfl,s,h,S,φ,hv,hd,hs,hr,Ext.refl _ _ _ _⟩
 | scope c ih =>
  intro hro Q S φ h w s a hv hd hs hr
  refine wpIn_scope_fw (wpIn_mono (ih hro hv hd hs hr) ?_)
  rintro e a' w' ⟨x',hx,s',h',S',φ',hK,hd',hs',hr',he⟩
  cases e<;>simp only[exitOf] at hx<;>cases hx
  ·
   exact⟨_,rfl,s',h',S',φ',hK,hd',hs',hr',he⟩
  ·
   exact⟨_,rfl,s',h',S',φ',hK,hd',hs',hr',he⟩
  ·
   exact hK.elim
  ·
   exact⟨_,rfl,s',h',S',φ',hK,hd',hs',hr',he⟩
 | rangeFunc f ps x y _ _ =>
  intro hro Q S φ h w s a hv hd hs hr
  cases ro with
  | some l=>exact absurd (hro rfl) (by simp[noR])
  | none=>exact range_sound hv hd hs hr
 | refuse why=>intro hro Q S φ h w s a hv;exact hv.elim
theorem R.free {D:Nat} {o o':Obj} {h0:List Blk} {S0:Addr→Prop} {φ0:Nat→Loc} {w0:World} (hr:R S φ h w) (hD:w.heap[D]?=some o) (hoc:∀ cs t l,o≠.cells cs t l) (hno:¬ Owns φ h D) (hS:∀ a,S a→a.block≠D) (hlt:w0.heap.size≤D) (he:Ext S0 φ0 h0 w0 S φ h w) :
  R S φ h (w.putObj D o')∧Ext S0 φ0 h0 w0 S φ h (w.putObj D o')∧(∀ a,S a→(w.putObj D o').cell? a=w.cell? a):=by
 have hsz:(w.putObj D o').heap.size=w.heap.size:=by simp
 have hoth:∀ b,b≠D→(w.putObj D o').heap[b]?=w.heap[b]?:=fun b hb=>World.putObj_heap_other hb
 have hcell:∀ a,S a→(w.putObj D o').cell? a=w.cell? a:=fun a ha=>cell_of_heap (hoth a.block (hS a ha))
 refine⟨⟨fun k x hx=>?_,hr.inj,fun a ha=>by rw[hsz];exact hr.bnd a ha,hr.fresh,fun x hx=>⟨by
  obtain⟨cs,t,l,h1,h2⟩:=(hr.tab x hx).1
  exact⟨cs,t,l,by rw[hoth _ (fun e=>by rw[e,hD] at h1;exact hoc _ _ _ (Option.some.inj h1))];exact h1,h2⟩,(hr.tab x hx).2⟩⟩,⟨he.os,he.tape,he.output,by rw[hsz];exact he.size,fun b hb hn=>?_,he.sub,fun a ha=>(hcell a (he.sub a ha)).trans (he.cell a ha),he.loc,he.new,he.own⟩,hcell⟩
 ·
  refine(hr.blk k x hx).keep (fun b hb hbo=>hoth b (fun e=>hno ⟨k,x,hx,by rw[hbo,e]⟩)) (fun _ h=>h) hcell (fun _=>Loc.le_refl _) rfl (fun a ha=>.inl ha)
 ·
  rw[hoth b (by omega)];exact he.keep b hb hn
theorem leaves_marks {fn:Func} {tmps:Array Value} {Rr:Ending→World→Prop} {s:List AV} {h0:List Blk} {S0:Addr→Prop} {φ0:Nat→Loc} {w0:World}
  (hfin:∀ w',CAll S w' φ s tmps→R S φ h w'→Ext S0 φ0 h0 w0 S φ h w'→∃ v,(results fn tmps).run P w'=.ok v w'∧Rr (.returned v) w') :
  ∀(Ds:List Nat) (w:World),Ds.Nodup→(∀ D∈Ds,w0.heap.size≤D∧w.heap[D]?=some (.deferred (some []))∧¬ Owns φ h D∧∀ a,S a→a.block≠D)→CAll S w φ s tmps→R S φ h w→Ext S0 φ0 h0 w0 S φ h w →
  LeavesInM Fence.wide 0 P fn tmps Rr (Ds.map fun D=>{ target:=.collected D,args:=#[] }) .returning w
 | [],w,_,_,hs,hr,he=>hfin w hs hr he
 | D::Ds,w,hn,hD,hs,hr,he=>by
  obtain⟨h0',h1,h2,h3⟩:=hD D List.mem_cons_self
  obtain⟨k1,k2,k3⟩:=R.free (o':=.deferred none) hr h1 (fun _ _ _=>by simp) h2 h3 h0' he
  refine⟨by simp,.inl ⟨D,_,rfl,run_takeDeferred h1,?_⟩⟩
  refine leaves_marks hfin Ds _ (List.nodup_cons.1 hn).2 (fun D' hD'=>?_) (hs.mono (fun _ h=>h) k3 (fun _=>Loc.le_refl _)) k1 k2
  obtain⟨g0,g1,g2,g3⟩:=hD D' (List.mem_cons_of_mem _ hD')
  have hne:D'≠D:=fun e=>(List.nodup_cons.1 hn).1 (e▸hD')
  exact⟨g0,(World.putObj_heap_other hne).trans g1,g2,g3⟩
theorem calls_of_vc (hT:TabOK P T) {f:FuncId} {fn:Func} {c:Code} (hf:P.funcs[f]?=some fn) (hb:fn.body=some c) {vs:Array Value} {G:List AV→List Blk→Prop} {Rr:Ending→World→Prop}
  (hv:vc P T c (fun e s h=>match e with|.normal=>G s h|.ret=>G s h|_=>False) s h) (hs:CAll S w φ s (vs++Array.replicate (fn.ntmps-vs.size) undef)) (hr:R S φ h w)
  (hfin:∀ tmps s' h' S' φ' w',G s' h'→CAll S' w' φ' s' tmps→R S' φ' h' w'→Ext S φ h w S' φ' h' w'→∃ v,(results fn tmps).run P w'=.ok v w'∧Rr (.returned v) w'):Calls P f vs w Rr:=by
 refine(callsIn_wide (n:=0)).1 (callsIn_of_wp_marks hf hb trivial ?_)
 refine wpIn_mono (vc_soundIn (ro:=none) (n0:=w.heap.size) hT c (fun e=>by cases e) hv (a:={ tmps:=vs++Array.replicate (fn.ntmps-vs.size) undef,defers:=[] }) (MK.nil (Nat.le_refl _)) hs hr) ?_
 rintro e a' w' ⟨x,hx,s',h',S',φ',hK,⟨_,Ds,hds,hn,hD⟩,hs',hr',he⟩
 have fin:G s' h'→LeavesInM Fence.wide 0 P fn a'.tmps Rr a'.defers .returning w':=fun hG=>by
  rw[hds]
  exact leaves_marks (S:=S') (φ:=φ') (h:=h') (s:=s') (fun w'' q1 q2 q3=>hfin _ _ _ _ _ _ hG q1 q2 q3) Ds w' hn hD hs' hr' he
 cases e<;>simp only[exitOf] at hx<;>cases hx
 ·
  exact fin hK
 ·
  exact hK.elim
 ·
  exact hK.elim
 ·
  exact fin hK
def resAV (T:TypeId→TI) (s:List AV) (h:List Blk):List ResultVar→Option (List AV)
 | []=>some []
 | .tmp t::r=>match resAV T s h r with|some l=>some (opd s (.tmp t)::l)|none=>none
 | .cell t ty::r=>match resAV T s h r with
  | none=>none
  | some l=>match (T ty).kind with
   | .other=>none
   | _=>match opd s (.tmp t) with
    | .ptr k off=>match blkCells h k with
     | some cs=>match loadAV (T ty) (cs.drop off) with
      | .ok v=>some (v::l)
      | _=>none
     | none=>none
    | _=>none
def frz (h:List Blk):AV→AV
 | .own sz k n=>match h[k]? with
  | some (.own _ sz' es)=>match decide (sz'=sz),decide (es.length=n) with
   | true,true=>.lst sz es none
   | _,_=>.own sz k n
  | _=>.own sz k n
 | .sl sz k off n=>match h[k]? with
  | some (.cells _ cs)=>match decide (sz=1),decide (off+n≤cs.length),cs.all AV.one with
   | true,true,true=>.lst 1 ((cs.drop off).take n) none
   | _,_,_=>.sl sz k off n
  | _=>.sl sz k off n
 | a=>a
def Blk.still:Blk→Bool
 | .own _ _ _|.cells _ _=>true
 | _=>false
def ownS (S:Addr→Prop) (φ:Nat→Loc) (h:List Blk):Addr→Prop:=fun a=>S a∨(∃ k x,h[k]?=some x∧x.still=true∧blockOf (φ k) x=some a.block)
theorem one_cells {x:AV} (h:x.one=true):x.cells=[x]:=by
 cases x with
 | agg cs=>cases h
 | tup cs=>cases h
 | raw v=>cases v<;>first|rfl|cases h
 | _=>rfl
theorem frz_sound {S:Addr→Prop} {φ:Nat→Loc} {h:List Blk} {w:World} (hr:R S φ h w) {a:AV} {v:Value} (hc:C S w φ a v):C (ownS S φ h) w φ (frz h a) v:=by
 have up:∀ {a:AV} {v:Value},C S w φ a v→C (ownS S φ h) w φ a v:=fun hc=>hc.mono (fun _ h=>.inl h) (fun _ _=>rfl) (fun _=>Loc.le_refl _)
 cases a with
 | own sz k n =>
  simp only[frz]
  split
  ·
   rename_i e sz' es hk
   split
   ·
    rename_i h1 h2
    have h1:=of_decide_eq_true h1
    have h2:=of_decide_eq_true h2
    subst h1;subst h2
    cases hc with
    | own _ _ _ ad cap hcap hmax ht =>
    obtain⟨u,g1,g2,g3⟩:=hr.blk k _ hk
    obtain⟨n',u',e1,_,e3⟩:=ht
    rw[g1] at e1
    cases e1
    have e3:=e3 rfl
    rcases g3 with ⟨rfl,rfl⟩|⟨b,cap',vs,q1,q2,rfl,q4,q5,q6,q7⟩
    ·
     cases e3;exact .lstnil _ _ trivial
    ·
     cases e3
     obtain⟨us,hul,hu⟩:=exists_vals (flat es) q6
     have key:∀(j:Nat) c,(flat es)[j]?=some c→vs[j]?=some (us.getD j undef)∧C S w φ c (us.getD j undef)∧(us.getD j undef).oneCell'=true:=by
      intro j c hj
      have hj':j<us.length:=by rw[hul];exact lookupD hj
      have e0:us[j]?=some (us.getD j undef):=by rw[List.getD_eq_getElem?_getD,List.getElem?_eq_getElem hj'];rfl
      exact hu j c _ hj e0
     have hadd:∀ j,(⟨b,0,none⟩:Addr).add j=⟨b,j,none⟩:=fun j=>by unfold Addr.add;split<;>simp_all
     refine .lst _ _ _ _ _ _ (fun j=>us.getD j undef) rfl q1 q2 g2 (fun j c hj=>⟨?_,.inr ⟨k,_,hk,rfl,?_⟩⟩) (fun j c hj=>up (key j c hj).2.1) (fun j c hj=>(key j c hj).2.2) trivial
     ·
      rw[hadd];simp only[World.cell?,q4];simpa using (key j c hj).1
     ·
      rw[hadd,g1];rfl
   ·
    exact up hc
  ·
   exact up hc
 | sl sz k off n =>
  simp only[frz]
  split
  ·
   rename_i t cs hk
   split
   ·
    rename_i h1 h2 h3
    have h1:=of_decide_eq_true h1
    have h2:=of_decide_eq_true h2
    subst h1
    cases hc with
    | sl _ _ _ _ b cap hφ hcap hmax =>
    obtain⟨b',vs,g1,g2,g3,g4,g5⟩:=hr.blk k _ hk
    rw[hφ] at g1
    cases g1
    have hone:∀ x∈cs,x.one=true:=List.all_eq_true.1 h3
    have hcl:∀ x∈(cs.drop off).take n,x.cells=[x]:=fun x hx=>one_cells (hone x (List.mem_of_mem_drop (List.mem_of_mem_take hx)))
    have hfl:flat ((cs.drop off).take n)=(cs.drop off).take n:=by
     have:∀ l:List AV,(∀ x∈l,x.cells=[x])→flat l=l:=by
      intro l
      induction l with
      | nil=>intro _;rfl
      | cons x l ih =>
       intro hx
       show x.cells++flat l=_
       rw[hx x (by simp),ih fun y hy=>hx y (by simp[hy])]
       rfl
     exact this _ hcl
    have hadd:∀ j,(⟨b,off,none⟩:Addr).add j=⟨b,off+j,none⟩:=fun j=>by unfold Addr.add;split<;>simp_all
    have hat:∀(j:Nat) c,(flat ((cs.drop off).take n))[j]?=some c→cs[off+j]?=some c:=fun j c hj=>by
     rw[hfl,List.getElem?_take] at hj
     split at hj
     ·
      rwa[List.getElem?_drop] at hj
     ·
      cases hj
    refine .lst _ _ _ _ _ _ (fun j=>vs.getD (off+j) undef) (by simp;omega) hcap hmax (fun x hx=>by rw[hcl x hx];rfl) (fun j c hj=>⟨?_,.inr ⟨k,_,hk,rfl,?_⟩⟩) (fun j c hj=>up ?_) (fun j c hj=>?_) trivial
    ·
     obtain⟨v,hv,_⟩:=g3.at (hat j c hj)
     rw[hadd];simp only[World.cell?,g2]
     simp[Array.getD_eq_getD_getElem?,hv]
    ·
     rw[hadd,hφ];rfl
    ·
     obtain⟨v,hv,hcv⟩:=g3.at (hat j c hj)
     simpa[Array.getD_eq_getD_getElem?,hv] using hcv
    ·
     obtain⟨v,hv,hcv⟩:=g3.at (hat j c hj)
     have:v.oneCell'=true:=g4 v (by rw[← Array.getElem?_toList] at hv;exact List.mem_of_getElem? hv)
     simpa[Array.getD_eq_getD_getElem?,hv] using this
   ·
    exact up hc
  ·
   exact up hc
 | _=>exact up hc
theorem frz_all {S:Addr→Prop} {φ:Nat→Loc} {h:List Blk} {w:World} (hr:R S φ h w) {azs:List AV} {vs:Array Value} (hc:CAll S w φ azs vs) (b:Bool):CAll (ownS S φ h) w φ (bif b then azs.map (frz h) else azs) vs:=by
 cases b with
 | false=>exact hc.mono (fun _ h=>.inl h) (fun _ _=>rfl) (fun _=>Loc.le_refl _)
 | true =>
  refine⟨by simp[hc.1],fun i a v ha hv=>?_⟩
  simp only[cond_true,List.getElem?_map,Option.map_eq_some_iff] at ha
  obtain⟨x,hx,rfl⟩:=ha
  exact frz_sound hr (hc.2 i x v hx hv)
def oneOrTup:List AV→AV
 | [v]=>v
 | l=>.tup l
inductive Weak:AV→AV→Prop where
 | refl (a:AV):Weak a a
 | tok (sz:Nat) (es:List AV) (k:Option Nat):Weak (.lst sz es k) (.lst sz es none)
 | nil (sz:Nat):Weak (.raw (.slice none 0 0)) (.lst sz [] none)
 | agg (cs ds:List AV) (hl:cs.length=ds.length) (h:∀(i:Nat) c d,cs[i]?=some c→ds[i]?=some d→Weak c d):Weak (.agg cs) (.agg ds)
 | tup (cs ds:List AV) (hl:cs.length=ds.length) (h:∀(i:Nat) c d,cs[i]?=some c→ds[i]?=some d→Weak c d):Weak (.tup cs) (.tup ds)
 | lst (sz:Nat) (es ds:List AV) (k:Option Nat) (hl:es.length=ds.length) (hsz:∀ e∈ds,e.cells.length=sz) (hf:(flat es).length=(flat ds).length) (h:∀(i:Nat) c d,(flat es)[i]?=some c→(flat ds)[i]?=some d→Weak c d):Weak (.lst sz es k) (.lst sz ds none)
theorem C.weak {x y:AV} (hw:Weak x y):∀ {v:Value},C S w φ x v→C S w φ y v:=by
 induction hw with
 | refl a=>intro v hc;exact hc
 | tok sz es k =>
  intro v hc
  cases hc with
  | lst _ _ _ a len cap u hlen hcap hmax hsz hm hc h1 ht=>exact .lst _ _ _ a len cap u hlen hcap hmax hsz hm hc h1 trivial
  | lstnil _ _ ht=>exact .lstnil _ _ trivial
 | nil sz=>intro v hc;cases hc;exact .lstnil _ _ trivial
 | agg cs ds hl h ih =>
  intro v hc
  cases hc with
  | agg _ vs hl' hc h1 =>
   refine .agg ds vs (by rw[hl',hl]) (fun i d v hd hv=>?_) h1
   have hi:i<cs.length:=by rw[hl];exact lookupD hd
   exact ih i _ d (List.getElem?_eq_getElem hi) hd (hc i _ v (List.getElem?_eq_getElem hi) hv)
 | tup cs ds hl h ih =>
  intro v hc
  cases hc with
  | tup _ vs hl' hc =>
   refine .tup ds vs (by rw[hl',hl]) (fun i d v hd hv=>?_)
   have hi:i<cs.length:=by rw[hl];exact lookupD hd
   exact ih i _ d (List.getElem?_eq_getElem hi) hd (hc i _ v (List.getElem?_eq_getElem hi) hv)
 | lst sz es ds k hl hsz hf h ih =>
  intro v hc
  cases hc with
  | lst _ _ _ a len cap u hlen hcap hmax hsz' hm hc h1 ht =>
   have at':∀(j:Nat) d,(flat ds)[j]?=some d→∃ c,(flat es)[j]?=some c:=fun j d hd=>by
    have hi:j<(flat es).length:=by rw[hf];exact lookupD hd
    exact⟨_,List.getElem?_eq_getElem hi⟩
   refine .lst _ _ _ a len cap u (by rw[← hl,hlen]) hcap hmax hsz (fun j d hd=>?_) (fun j d hd=>?_) (fun j d hd=>?_) trivial
   ·
    obtain⟨c,hj⟩:=at' j d hd;exact hm j c hj
   ·
    obtain⟨c,hj⟩:=at' j d hd;exact ih j c d hj hd (hc j c hj)
   ·
    obtain⟨c,hj⟩:=at' j d hd;exact h1 j c hj
  | lstnil _ _ ht =>
   have:ds=[]:=by cases ds with|nil=>rfl|cons d l=>simp at hl
   subst this
   exact .lstnil _ _ trivial
def WeakL:List AV→List AV→Prop
 | [],[]=>True
 | a::azs,b::bs=>Weak a b∧WeakL azs bs
 | _,_=>False
theorem WeakL.at:∀ {azs bs:List AV},WeakL azs bs→azs.length=bs.length∧∀(i:Nat) c d,azs[i]?=some c→bs[i]?=some d→Weak c d
 | [],[],_=>⟨rfl,fun i c d h=>by simp at h⟩
 | a::azs,b::bs,h=>by
  obtain⟨h1,h2⟩:=WeakL.at h.2
  refine⟨by simp[h1],fun i c d hc hd=>?_⟩
  cases i with
  | zero=>simp at hc hd;subst hc;subst hd;exact h.1
  | succ i=>exact h2 i c d hc hd
 | [],_::_,h=>h.elim
 | _::_,[],h=>h.elim
theorem Weak.aggs {cs ds:List AV} (h:WeakL cs ds):Weak (.agg cs) (.agg ds):=.agg cs ds h.at.1 h.at.2
theorem Weak.lsts {sz:Nat} {es ds:List AV} {k:Option Nat} (hl:es.length=ds.length) (hsz:∀ e∈ds,e.cells.length=sz) (h:WeakL (flat es) (flat ds)):Weak (.lst sz es k) (.lst sz ds none):=.lst sz es ds k hl hsz h.at.1 h.at.2
theorem CAll.weak {azs bs:List AV} {vs:Array Value} (hw:WeakL azs bs) (hc:CAll S w φ azs vs):CAll S w φ bs vs:=by
 obtain⟨h1,h2⟩:=hw.at
 refine⟨by rw[hc.1,h1],fun i b v hb hv=>?_⟩
 have hi:i<azs.length:=by rw[h1];exact lookupD hb
 exact(hc.2 i _ v (List.getElem?_eq_getElem hi) hv).weak (h2 i _ b (List.getElem?_eq_getElem hi) hb)
theorem PCall.callW {f:FuncId} {azs args:List AV} {r:AV} {K:AV→List Blk→Prop} (hp:PCall P f args r) (hw:WeakL azs args) (hk:K r h):ACall P f azs h K:=by
 intro S φ w vs hr hargs
 exact PCall.call hp hk S φ w vs hr (hargs.weak hw)
def resSem (tmps:Array Value) (r:ResultVar):Sem Value :=
 match r with
 | .tmp t=>pure (tmps.getD t undef)
 | .cell a t=>do loadVar t (← asAddr (tmps.getD a undef))
theorem resAV_sound (hT:TabOK P T) (hs:CAll S w φ s a.tmps) (hr:R S φ h w):∀(rs:List ResultVar) (l:List AV),resAV T s h rs=some l→∃ vs:List Value,(rs.mapM (resSem a.tmps)).run P w=.ok vs w∧CAll S w φ l vs.toArray
 | [],l,hl=>by
  simp only[resAV] at hl
  cases hl
  exact⟨[],rfl,CAll.nil⟩
 | .tmp t::r,l,hl=>by
  simp only[resAV] at hl
  split at hl
  ·
   rename_i l' hl'
   cases hl
   obtain⟨vs,h1,h2⟩:=resAV_sound hT hs hr r l' hl'
   refine⟨a.eval (.tmp t)::vs,?_,CAll.cons (C.opd hs (.tmp t)) h2⟩
   rw[List.mapM_cons]
   simp only[resSem,Sem.run_bind,Sem.run_pure,Result.andThen_ok,h1]
   rfl
  ·
   cases hl
 | .cell t ty::r,l,hl=>by
  simp only[resAV] at hl
  split at hl
  ·
   cases hl
  ·
   rename_i l' hl'
   split at hl
   ·
    cases hl
   ·
    rename_i hne
    have hc:=C.opd hs (.tmp t)
    split at hl
    ·
     rename_i k off hp
     rw[hp] at hc
     split at hl
     ·
      rename_i cs hb
      split at hl
      ·
       rename_i v hv
       cases hl
       obtain⟨vs,h1,h2⟩:=resAV_sound hT hs hr r l' hl'
       obtain⟨b,e,hlies⟩:=LiesAt.of_ptr hr hc hb
       have hload:=loadAV_sound (P:=P) (hT ty) hne hlies
       rw[hv] at hload
       obtain⟨u,hu,hcu⟩:=hload
       have hu':(loadVar ty ⟨b,off,none⟩).run P w=.ok u w:=by
        simp only[Instr.loadAt,Instr.sureAddr,Sem.run_bind,Sem.run_pure,Result.andThen_ok,asNext] at hu
        generalize (loadVar ty ⟨b,off,none⟩).run P w=res at hu
        cases res with
        | ok v' w''=>simp only[Result.andThen_ok,Result.ok.injEq,Next.value.injEq] at hu;obtain⟨rfl,rfl⟩:=hu;rfl
        | halt x w''=>simp[Result.andThen] at hu
       refine⟨u::vs,?_,CAll.cons hcu h2⟩
       rw[List.mapM_cons]
       have e':a.tmps.getD t undef=.pointer (some ⟨b,off,none⟩):=e
       simp only[resSem,e',asAddr,Sem.run_bind,Sem.run_pure,Result.andThen_ok,hu',h1]
      ·
       cases hl
     ·
      cases hl
    ·
     cases hl
theorem results_sound (hT:TabOK P T) (hs:CAll S w φ s a.tmps) (hr:R S φ h w) {fn:Func} {l:List AV} (hl:resAV T s h fn.results.toList=some l) (fz:Bool):∃ v,(results fn a.tmps).run P w=.ok v w∧C (ownS S φ h) w φ (oneOrTup (bif fz then l.map (frz h) else l)) v:=by
 obtain⟨vs,h1,h2⟩:=resAV_sound hT hs hr _ _ hl
 have hm:(fn.results.mapM (resSem a.tmps)).run P w=.ok vs.toArray w:=by
  rw[Array.mapM_eq_mapM_toList]
  simp[h1]
 have hres:(results fn a.tmps).run P w=.ok (if h:vs.toArray.size=1 then vs.toArray[0] else .tuple vs.toArray) w:=by
  have e:results fn a.tmps=(do let vs ← fn.results.mapM (resSem a.tmps);pure (if h:vs.size=1 then vs[0] else .tuple vs)):=by
   unfold results
   congr 1
  rw[e,Sem.run_bind,hm]
  rfl
 refine⟨_,hres,?_⟩
 have h2:=frz_all hr h2 fz
 generalize (bif fz then l.map (frz h) else l)=l at h2 ⊢
 have hlen:vs.length=l.length:=by simpa using h2.1
 clear h1 hm hres hl
 match l,vs,hlen,h2 with
 | [],[],_,_=>exact .tup [] #[] rfl (fun i a v h=>by simp at h)
 | [x],[v],_,h2=>exact h2.2 0 x v rfl rfl
 | x::y::l,v::u::vs,_,h2 =>
  rw[dif_neg (by simp)]
  exact .tup _ _ h2.1 h2.2
theorem results_plain (hT:TabOK P T) (hs:CAll S w φ s a.tmps) (hr:R S φ h w) {fn:Func} {l:List AV} (hl:resAV T s h fn.results.toList=some l):∃ v,(results fn a.tmps).run P w=.ok v w∧C S w φ (oneOrTup l) v:=by
 obtain⟨vs,h1,h2⟩:=resAV_sound hT hs hr _ _ hl
 have hm:(fn.results.mapM (resSem a.tmps)).run P w=.ok vs.toArray w:=by
  rw[Array.mapM_eq_mapM_toList]
  simp[h1]
 have hres:(results fn a.tmps).run P w=.ok (if h:vs.toArray.size=1 then vs.toArray[0] else .tuple vs.toArray) w:=by
  have e:results fn a.tmps=(do let vs ← fn.results.mapM (resSem a.tmps);pure (if h:vs.size=1 then vs[0] else .tuple vs)):=by
   unfold results
   congr 1
  rw[e,Sem.run_bind,hm]
  rfl
 refine⟨_,hres,?_⟩
 have hlen:vs.length=l.length:=by simpa using h2.1
 clear h1 hm hres hl
 match l,vs,hlen,h2 with
 | [],[],_,_=>exact .tup [] #[] rfl (fun i a v h=>by simp at h)
 | [x],[v],_,h2=>exact h2.2 0 x v rfl rfl
 | x::y::l,v::u::vs,_,h2 =>
  rw[dif_neg (by simp)]
  exact .tup _ _ h2.1 h2.2
theorem own_frame {S₁:Addr→Prop} {φ₁:Nat→Loc} {h₁:List Blk} {w₁:World} (hr:R S₁ φ₁ h₁ w₁) (he:Ext S (fun _=>.no) [] w S₁ φ₁ h₁ w₁) :
  R (ownS S₁ φ₁ h₁) (fun _=>.no) [] w₁∧Ext S (fun _=>.no) [] w (ownS S₁ φ₁ h₁) (fun _=>.no) [] w₁:=by
 refine⟨R.nil (fun a ha=>?_) hr.tab.bare,⟨he.os,he.tape,he.output,he.size,he.keep,fun a ha=>.inl (he.sub a ha),he.cell,fun k=>trivial,fun a ha=>?_,fun b hb=>absurd hb no_owns⟩⟩
 ·
  rcases ha with ha|⟨k,x,hk,_,hb⟩
  ·
   exact hr.bnd a ha
  ·
   exact owned_lt (hr.blk k _ hk) hb
 ·
  rcases ha with ha|⟨k,x,hk,_,hb⟩
  ·
   exact he.new a ha
  ·
   rcases he.own a.block ⟨k,_,hk,hb⟩ with g|g
   ·
    exact absurd g no_owns
   ·
    exact .inr (.inl g)
def Fin (T:TypeId→TI) (rs:List ResultVar) (r:AV) (s:List AV) (h:List Blk):Prop:=∃ l,resAV T s h rs=some l∧∃ fz:Bool,Weak (oneOrTup (bif fz then l.map (frz h) else l)) r
def finPost (K:List AV→List Blk→Prop):Post:=fun e s h=>match e with
 | .normal=>K s h
 | .ret=>K s h
 | _=>False
theorem run_callFunc {f : FuncId} {fn : Func} (hf : P.funcs[f]? = some fn) (hname : (fn.name == "runtime.NumGoroutine") = false) (hb : fn.body.isNone = false) (args : Array Value) (w : World) : (callFunc f args).run P w = .ok (.enter f args) w := by
 simp only[callFunc,Sem.run_bind,run_program,Result.andThen_ok,hf,hname,hb,Bool.false_eq_true,if_false,Sem.run_pure]
theorem pcall_of_vc (hT : TabOK P T) {f : FuncId} {fn : Func} {c : Code} (hf : P.funcs[f]? = some fn) (hname : (fn.name == "runtime.NumGoroutine") = false) (hb : fn.body = some c) {args : List AV} {r : AV} (hpa : ∀ x ∈ args, Pure x) (hpr : Pure r)
  {n:Nat} (hn:fn.ntmps=n) {rs:List ResultVar} (hrs:fn.results.toList=rs)
  (hv:vc P T c (finPost (Fin T rs r)) (args++List.replicate (n-args.length) (.tup [])) []):PCall P f args r:=by
 refine⟨hpa,hpr,fun S w vs hbnd htab hargs=>⟨run_callFunc hf hname (by rw[hb];rfl) vs w,?_⟩⟩
 have htmps:CAll S w (fun _=>.no) (args++List.replicate (n-args.length) (.tup [])) (vs++Array.replicate (fn.ntmps-vs.size) undef):=by
  refine hargs.append ⟨by rw[Array.size_replicate,List.length_replicate,hn,hargs.1],fun i x v hx hv=>?_⟩
  rw[List.getElem?_replicate] at hx
  rw[Array.getElem?_replicate] at hv
  split at hx
  ·
   split at hv
   ·
    cases hx;cases hv;exact C.undef_
   ·
    cases hv
  ·
   cases hx
 refine calls_of_vc hT hf hb hv htmps (R.nil hbnd htab) ?_
 intro tmps s' h' S' φ' w' hG hs' hr' he
 revert hG
 rintro⟨l,hl,fz,hwk⟩
 obtain⟨v,h1,h2⟩:=results_sound hT hs' hr' (fn:=fn) (a:={ tmps:=tmps,defers:=[] }) (by rw[hrs];exact hl) fz
 obtain⟨k1,k2⟩:=own_frame hr' he
 exact⟨v,h1,v,_,rfl,(h2.weak hwk).pure _ hpr,k1,k2⟩
def PCallE (P:Program) (f:FuncId) (args:List AV) (K:AV→Prop):Prop :=
 (∀ x∈args,Pure x)∧∀ S w vs,(∀ a,S a→a.block<w.heap.size)→TabF (fun _=>.no) [] w→CAll S w (fun _=>.no) args vs→(callFunc f vs).run P w=.ok (.enter f vs) w ∧
  Calls P f vs w fun e w'=>∃ v r S',e=.returned v∧K r∧Pure r∧C S' w' (fun _=>.no) r v∧R S' (fun _=>.no) [] w'∧Ext S (fun _=>.no) [] w S' (fun _=>.no) [] w'
theorem PCallE.call {f:FuncId} {args:List AV} {Kr:AV→Prop} {K:AV→List Blk→Prop} (hp:PCallE P f args Kr) (hk:∀ r,Kr r→K r h):ACall P f args h K:=by
 obtain⟨h1,h3⟩:=hp
 intro S φ w vs hr hargs
 obtain⟨henter,hcalls⟩:=h3 S w vs hr.bnd hr.tab.bare (hargs.pure _ h1)
 refine⟨henter,Calls.mono hcalls ?_⟩
 rintro e w' ⟨v,r,S',rfl,hKr,h2,hc,hr',he⟩
 obtain⟨k1,k2⟩:=hr.over he hr'.bnd
 exact⟨v,r,h,S',φ,rfl,hk r hKr,hc.pure φ h2,k1,k2⟩
theorem PCallE.callW {f:FuncId} {azs args:List AV} {Kr:AV→Prop} {K:AV→List Blk→Prop} (hp:PCallE P f args Kr) (hw:WeakL azs args) (hk:∀ r,Kr r→K r h):ACall P f azs h K:=by
 intro S φ w vs hr hargs
 exact PCallE.call hp hk S φ w vs hr (hargs.weak hw)
def BCall (P:Program) (f:FuncId) (args:List AV):Prop:=PCallE P f args fun r=>∃ b:Bool,r=.raw (.bool b)
theorem BCall.call {f:FuncId} {args:List AV} {K:AV→List Blk→Prop} (hp:BCall P f args) (hk:∀ b:Bool,K (.raw (.bool b)) h):ACall P f args h K :=
 PCallE.call hp fun r hr=>by obtain⟨b,rfl⟩:=hr;exact hk b
def FinE (T:TypeId→TI) (rs:List ResultVar) (Kr:AV→Prop) (s:List AV) (h:List Blk):Prop:=∃ l,resAV T s h rs=some l∧∃(fz:Bool) (r:AV),Weak (oneOrTup (bif fz then l.map (frz h) else l)) r∧Pure r∧Kr r
theorem pcallE_of_vc (hT : TabOK P T) {f : FuncId} {fn : Func} {c : Code} (hf : P.funcs[f]? = some fn) (hname : (fn.name == "runtime.NumGoroutine") = false) (hb : fn.body = some c) {args : List AV} {Kr : AV → Prop} (hpa : ∀ x ∈ args, Pure x)
  {n:Nat} (hn:fn.ntmps=n) {rs:List ResultVar} (hrs:fn.results.toList=rs)
  (hv:vc P T c (finPost (FinE T rs Kr)) (args++List.replicate (n-args.length) (.tup [])) []):PCallE P f args Kr:=by
 refine⟨hpa,fun S w vs hbnd htab hargs=>⟨run_callFunc hf hname (by rw[hb];rfl) vs w,?_⟩⟩
 have htmps:CAll S w (fun _=>.no) (args++List.replicate (n-args.length) (.tup [])) (vs++Array.replicate (fn.ntmps-vs.size) undef):=by
  refine hargs.append ⟨by rw[Array.size_replicate,List.length_replicate,hn,hargs.1],fun i x v hx hv=>?_⟩
  rw[List.getElem?_replicate] at hx
  rw[Array.getElem?_replicate] at hv
  split at hx
  ·
   split at hv
   ·
    cases hx;cases hv;exact C.undef_
   ·
    cases hv
  ·
   cases hx
 refine calls_of_vc hT hf hb hv htmps (R.nil hbnd htab) ?_
 intro tmps s' h' S' φ' w' hG hs' hr' he
 revert hG
 rintro⟨l,hl,fz,r,hwk,hpr,hKr⟩
 obtain⟨v,h1,h2⟩:=results_sound hT hs' hr' (fn:=fn) (a:={ tmps:=tmps,defers:=[] }) (by rw[hrs];exact hl) fz
 obtain⟨k1,k2⟩:=own_frame hr' he
 exact⟨v,h1,v,r,_,rfl,hKr,hpr,(h2.weak hwk).pure _ hpr,k1,k2⟩
end
end Go.Abs
