/-
  Data, SmallPr, Slices1, Concat, Lib1, NmI: put together.
-/
import Derived.Test.YtpamokpmlplopaaGreatDoorUniAd
import Derived.Test.YtpamokpmlplopaaGreatDoorUniAf
import Derived.Test.YtpamokpmlplopaaGreatDoorUniAg
import Derived.Test.YtpamokpmlplopaaGreatDoorUniAh
import Derived.WalkKit
import Derived.Shelf.Strings.Search1
import Derived.Shelf.Strings.Count
namespace Go.Proofs.YtpamokpmlplopaaGreatDoor
open Go.Abs
set_option maxRecDepth 20000
set_option linter.unusedSimpArgs false
set_option linter.unusedVariables false
set_option maxHeartbeats 1000000
attribute [local irreducible] vc vcOps vcStep vcGuard prK hrK gK gsK brK callK ElemK SeqK BlockK ScopeK OpsK CallK LoopK LoopGo finPost ACall PCall PCallE BCall vqOps vqStep vqGuard qrK heK pcK gqK gqsK QOpsK qcallK DrawK
theorem ty_list {α:Type} {enc:α→AV} {n:Nat} {t:TypeId} {q:α→Prop} (h:∀ cs,Ty ti n t cs→∃ x:α,mkT (ti t) cs=enc x∧q x):∀ {es:List (List AV)},(∀ x∈es,Ty ti n t x)→∃ l:List α,es.map (mkT (ti t))=l.map enc∧∀ x∈l,q x
 | [],_=>⟨[],rfl,by simp⟩
 | x::es,hx=>by
  obtain⟨y,hy,hq⟩:=h x (hx x (by simp))
  obtain⟨l,hl,hql⟩:=ty_list h (es:=es) fun z hz=>hx z (by simp[hz])
  exact⟨y::l,by simp[hy,hl],by simp only[List.mem_cons];rintro z (rfl|hz);exact hq;exact hql z hz⟩
theorem ty_slice {α:Type} {enc:α→AV} {t e sz:Nat} (hk:(ti t).kind=.slice e) (hs:(ti e).size=sz) {n:Nat} {q:α→Prop} (h:∀ n' cs,n'<n→Ty ti n' e cs→∃ x:α,mkT (ti e) cs=enc x∧q x) {cs:List AV} (hc:Ty ti n t cs):∃ l:List α,cs=[.lst sz (l.map enc) none]∧∀ x∈l,q x:=by
 cases n with
 | zero=>exact hc.elim
 | succ n =>
  unfold Ty at hc
  simp only[hk] at hc
  obtain⟨es,rfl,_,hes⟩:=hc
  obtain⟨l,hl,hq⟩:=ty_list (enc:=enc) (t:=e) (fun cs hcs=>h n cs (by omega) hcs) hes
  exact⟨l,by rw[hl,hs],hq⟩
theorem ty_iK {t:Nat} (hk:(ti t).kind=.int .i64) {n:Nat} {cs:List AV} (h:Ty ti n t cs):∃ k:Int,cs=[.i k]∧I64 k:=by
 cases n with
 | zero=>exact h.elim
 | succ n =>
  unfold Ty at h
  simp only[hk] at h
  obtain⟨k,rfl,hw⟩:=h
  simp only[Lit.wf,Bool.and_eq_true,decide_eq_true_eq] at hw
  exact⟨k,rfl,(hw:(IntKind.i64.min:Int)≤k∧k≤IntKind.i64.max)⟩
theorem ty_sK {t:Nat} (hk:(ti t).kind=.string) {n:Nat} {cs:List AV} (h:Ty ti n t cs):∃ k:ByteArray,cs=[.s k]∧S47 k:=by
 cases n with
 | zero=>exact h.elim
 | succ n=>unfold Ty at h;simp only[hk] at h;obtain⟨k,rfl,hw⟩:=h;exact⟨k,rfl,hw⟩
theorem ty_bK {t:Nat} (hk:(ti t).kind=.bool) {n:Nat} {cs:List AV} (h:Ty ti n t cs):∃ k:Bool,cs=[.b k]:=by
 cases n with
 | zero=>exact h.elim
 | succ n=>unfold Ty at h;simp only[hk] at h;obtain⟨k,rfl⟩:=h;exact⟨k,rfl⟩
theorem ty_i {n:Nat} {cs:List AV} (h:Ty ti n 3 cs):∃ k:Int,cs=[.i k]∧I64 k:=ty_iK rfl h
theorem ty_l {n:Nat} {cs:List AV} (h:Ty ti n 2 cs):∃ k:Int,cs=[.i k]∧I64 k:=ty_iK rfl h
theorem ty_s {n:Nat} {cs:List AV} (h:Ty ti n 9 cs):∃ k:ByteArray,cs=[.s k]∧S47 k:=ty_sK rfl h
theorem ty_b {n:Nat} {cs:List AV} (h:Ty ti n 4 cs):∃ k:Bool,cs=[.b k]:=ty_bK rfl h
theorem ty_ss {n:Nat} {cs:List AV} (h:Ty ti n 46 cs):∃ l:List ByteArray,cs=[.lst 1 (l.map AV.s) none]∧∀ y∈l,S47 y:=ty_slice (e:=9) rfl rfl (fun _ _ _ hc=>by obtain⟨s,rfl,hs⟩:=ty_s hc;exact⟨s,rfl,hs⟩) h
theorem ty_il {n:Nat} {cs:List AV} (h:Ty ti n 49 cs):∃ l:List Int,cs=[.lst 1 (l.map AV.i) none]∧∀ y∈l,I64 y:=ty_slice (e:=2) rfl rfl (fun _ _ _ hc=>by obtain⟨s,rfl,hs⟩:=ty_l hc;exact⟨s,rfl,hs⟩) h
theorem ty_ex:∀ {n:Nat} {cs:List AV},Ty ti n 72 cs→∃ e:Ex,.agg cs=e.enc∧e.ok:=by
 intro n
 induction n using Nat.strongRecOn with
 | _ n ih =>
 intro cs h
 cases n with
 | zero=>exact h.elim
 | succ n =>
  simp only[Ty,ti,FieldsTy] at h
  obtain⟨a1,b1,rfl,h1,a2,b2,rfl,h2,a3,b3,rfl,h3,a4,b4,rfl,h4,a5,b5,rfl,h5,a6,b6,rfl,h6,rfl⟩:=h
  obtain⟨k,rfl,q1⟩:=ty_i h1
  obtain⟨m,rfl,q2⟩:=ty_l h2
  obtain⟨nm,rfl,q3⟩:=ty_s h3
  obtain⟨op,rfl,q4⟩:=ty_i h4
  obtain⟨arms,rfl,q5⟩:=ty_ss h5
  obtain⟨subs,rfl,q6⟩:=ty_slice (enc:=Ex.enc) (t:=70) (e:=72) (sz:=6) rfl rfl (fun n' cs' hn hc=>ih n' (by omega) hc) h6
  exact⟨.mk k m nm op arms subs,by rw[Go.Abs.enc_eq];rfl,(Ex.ok_eq _).2 ⟨q1,q2,q3,q4,q5,q6⟩⟩
theorem ty_DTy {n:Nat} {cs:List AV} (h:Ty ti n 42 cs):∃ x:DTy,.agg cs=x.enc∧x.ok:=by
 cases n with
 | zero=>exact h.elim
 | succ n =>
  simp only[Ty,ti,FieldsTy] at h
  obtain⟨a0,b0,rfl,h0,a1,b1,rfl,h1,a2,b2,rfl,h2,rfl⟩:=h
  obtain⟨x0,rfl,q0⟩:=ty_iK rfl h0
  obtain⟨x1,rfl,q1⟩:=ty_iK rfl h1
  obtain⟨x2,rfl,q2⟩:=ty_iK rfl h2
  exact⟨⟨x0,x1,x2⟩,by rw[DTy.enc_eq];rfl,⟨q0,q1,q2⟩⟩
theorem ty_DEnum {n:Nat} {cs:List AV} (h:Ty ti n 80 cs):∃ x:DEnum,.agg cs=x.enc∧x.ok:=by
 cases n with
 | zero=>exact h.elim
 | succ n =>
  simp only[Ty,ti,FieldsTy] at h
  obtain⟨a0,b0,rfl,h0,a1,b1,rfl,h1,rfl⟩:=h
  obtain⟨x0,rfl,q0⟩:=ty_s h0
  obtain⟨x1,rfl,q1⟩:=ty_ss h1
  exact⟨⟨x0,x1⟩,by rw[DEnum.enc_eq];rfl,⟨q0,q1⟩⟩
theorem tys_DEnum {n:Nat} {cs:List AV} (h:Ty ti n 22 cs):∃ l:List DEnum,cs=[.lst 2 (l.map DEnum.enc) none]∧∀ x∈l,x.ok:=ty_slice (e:=80) rfl rfl (fun _ _ _ hc=>ty_DEnum hc) h
theorem ty_DDecl {n:Nat} {cs:List AV} (h:Ty ti n 77 cs):∃ x:DDecl,.agg cs=x.enc∧x.ok:=by
 cases n with
 | zero=>exact h.elim
 | succ n =>
  simp only[Ty,ti,FieldsTy] at h
  obtain⟨a0,b0,rfl,h0,a1,b1,rfl,h1,a2,b2,rfl,h2,a3,b3,rfl,h3,rfl⟩:=h
  obtain⟨x0,rfl,q0⟩:=ty_s h0
  obtain⟨x1,e1,q1⟩:=ty_DTy h1
  obtain⟨x2,rfl,q2⟩:=ty_s h2
  obtain⟨x3,rfl,q3⟩:=ty_s h3
  rw[DTy.enc_eq] at e1
  cases e1
  exact⟨⟨x0,x1,x2,x3⟩,by rw[DDecl.enc_eq];rfl,⟨q0,q1,q2,q3⟩⟩
theorem tys_DDecl {n:Nat} {cs:List AV} (h:Ty ti n 65 cs):∃ l:List DDecl,cs=[.lst 6 (l.map DDecl.enc) none]∧∀ x∈l,x.ok:=ty_slice (e:=77) rfl rfl (fun _ _ _ hc=>ty_DDecl hc) h
theorem ty_DEq {n:Nat} {cs:List AV} (h:Ty ti n 74 cs):∃ x:DEq,.agg cs=x.enc∧x.ok:=by
 cases n with
 | zero=>exact h.elim
 | succ n =>
  simp only[Ty,ti,FieldsTy] at h
  obtain⟨a0,b0,rfl,h0,a1,b1,rfl,h1,rfl⟩:=h
  obtain⟨x0,rfl,q0⟩:=ty_ss h0
  obtain⟨x1,e1,q1⟩:=ty_ex h1
  rw[Go.Abs.enc_eq] at e1
  cases e1
  exact⟨⟨x0,x1⟩,by rw[DEq.enc_eq];rfl,⟨q0,q1⟩⟩
theorem tys_DEq {n:Nat} {cs:List AV} (h:Ty ti n 66 cs):∃ l:List DEq,cs=[.lst 7 (l.map DEq.enc) none]∧∀ x∈l,x.ok:=ty_slice (e:=74) rfl rfl (fun _ _ _ hc=>ty_DEq hc) h
theorem ty_DNode {n:Nat} {cs:List AV} (h:Ty ti n 68 cs):∃ x:DNode,.agg cs=x.enc∧x.ok:=by
 cases n with
 | zero=>exact h.elim
 | succ n =>
  simp only[Ty,ti,FieldsTy] at h
  obtain⟨a0,b0,rfl,h0,a1,b1,rfl,h1,a2,b2,rfl,h2,a3,b3,rfl,h3,a4,b4,rfl,h4,rfl⟩:=h
  obtain⟨x0,rfl,q0⟩:=ty_s h0
  obtain⟨x1,rfl,q1⟩:=tys_DDecl h1
  obtain⟨x2,rfl,q2⟩:=tys_DDecl h2
  obtain⟨x3,rfl,q3⟩:=tys_DDecl h3
  obtain⟨x4,rfl,q4⟩:=tys_DEq h4
  exact⟨⟨x0,x1,x2,x3,x4⟩,by rw[DNode.enc_eq];rfl,⟨q0,q1,q2,q3,q4⟩⟩
theorem tys_DNode {n:Nat} {cs:List AV} (h:Ty ti n 23 cs):∃ l:List DNode,cs=[.lst 5 (l.map DNode.enc) none]∧∀ x∈l,x.ok:=ty_slice (e:=68) rfl rfl (fun _ _ _ hc=>ty_DNode hc) h
theorem ty_DProg {n:Nat} {cs:List AV} (h:Ty ti n 25 cs):∃ x:DProg,.agg cs=x.enc∧x.ok:=by
 cases n with
 | zero=>exact h.elim
 | succ n =>
  simp only[Ty,ti,FieldsTy] at h
  obtain⟨a0,b0,rfl,h0,a1,b1,rfl,h1,rfl⟩:=h
  obtain⟨x0,rfl,q0⟩:=tys_DEnum h0
  obtain⟨x1,rfl,q1⟩:=tys_DNode h1
  exact⟨⟨x0,x1⟩,by rw[DProg.enc_eq];rfl,⟨q0,q1⟩⟩
theorem ty_DCond {n:Nat} {cs:List AV} (h:Ty ti n 97 cs):∃ x:DCond,.agg cs=x.enc∧x.ok:=by
 cases n with
 | zero=>exact h.elim
 | succ n =>
  simp only[Ty,ti,FieldsTy] at h
  obtain⟨a0,b0,rfl,h0,a1,b1,rfl,h1,rfl⟩:=h
  obtain⟨x0,rfl,q0⟩:=ty_s h0
  obtain⟨x1,rfl,q1⟩:=ty_iK rfl h1
  exact⟨⟨x0,x1⟩,by rw[DCond.enc_eq];rfl,⟨q0,q1⟩⟩
theorem tys_DCond {n:Nat} {cs:List AV} (h:Ty ti n 43 cs):∃ l:List DCond,cs=[.lst 2 (l.map DCond.enc) none]∧∀ x∈l,x.ok:=ty_slice (e:=97) rfl rfl (fun _ _ _ hc=>ty_DCond hc) h
theorem ty_DAtom {n:Nat} {cs:List AV} (h:Ty ti n 51 cs):∃ x:DAtom,.agg cs=x.enc∧x.ok:=by
 cases n with
 | zero=>exact h.elim
 | succ n =>
  simp only[Ty,ti,FieldsTy] at h
  obtain⟨a0,b0,rfl,h0,a1,b1,rfl,h1,rfl⟩:=h
  obtain⟨x0,rfl,q0⟩:=ty_s h0
  obtain⟨x1,rfl,q1⟩:=ty_iK rfl h1
  exact⟨⟨x0,x1⟩,by rw[DAtom.enc_eq];rfl,⟨q0,q1⟩⟩
theorem tys_DAtom {n:Nat} {cs:List AV} (h:Ty ti n 48 cs):∃ l:List DAtom,cs=[.lst 2 (l.map DAtom.enc) none]∧∀ x∈l,x.ok:=ty_slice (e:=51) rfl rfl (fun _ _ _ hc=>ty_DAtom hc) h
theorem ty_DPlain {n:Nat} {cs:List AV} (h:Ty ti n 53 cs):∃ x:DPlain,.agg cs=x.enc∧x.ok:=by
 cases n with
 | zero=>exact h.elim
 | succ n =>
  simp only[Ty,ti,FieldsTy] at h
  obtain⟨a0,b0,rfl,h0,a1,b1,rfl,h1,a2,b2,rfl,h2,a3,b3,rfl,h3,a4,b4,rfl,h4,a5,b5,rfl,h5,a6,b6,rfl,h6,a7,b7,rfl,h7,a8,b8,rfl,h8,rfl⟩:=h
  obtain⟨x0,rfl,q0⟩:=ty_iK rfl h0
  obtain⟨x1,rfl,q1⟩:=ty_ss h1
  obtain⟨x2,rfl,q2⟩:=ty_iK rfl h2
  obtain⟨x3,rfl,q3⟩:=tys_DAtom h3
  obtain⟨x4,rfl,q4⟩:=ty_il h4
  obtain⟨x5,rfl,q5⟩:=ty_iK rfl h5
  obtain⟨x6,rfl⟩:=ty_b h6
  obtain⟨x7,e7,q7⟩:=ty_DAtom h7
  obtain⟨x8,rfl,q8⟩:=tys_DCond h8
  rw[DAtom.enc_eq] at e7
  cases e7
  exact⟨⟨x0,x1,x2,x3,x4,x5,x6,x7,x8⟩,by rw[DPlain.enc_eq];rfl,⟨q0,q1,q2,q3,q4,q5,q7,q8⟩⟩
theorem tys_DPlain {n:Nat} {cs:List AV} (h:Ty ti n 35 cs):∃ l:List DPlain,cs=[.lst 10 (l.map DPlain.enc) none]∧∀ x∈l,x.ok:=ty_slice (e:=53) rfl rfl (fun _ _ _ hc=>ty_DPlain hc) h
theorem ty_DVar {n:Nat} {cs:List AV} (h:Ty ti n 45 cs):∃ x:DVar,.agg cs=x.enc∧x.ok:=by
 cases n with
 | zero=>exact h.elim
 | succ n =>
  simp only[Ty,ti,FieldsTy] at h
  obtain⟨a0,b0,rfl,h0,a1,b1,rfl,h1,a2,b2,rfl,h2,rfl⟩:=h
  obtain⟨x0,rfl,q0⟩:=ty_s h0
  obtain⟨x1,e1,q1⟩:=ty_DTy h1
  obtain⟨x2,rfl,q2⟩:=tys_DCond h2
  rw[DTy.enc_eq] at e1
  cases e1
  exact⟨⟨x0,x1,x2⟩,by rw[DVar.enc_eq];rfl,⟨q0,q1,q2⟩⟩
theorem tys_DVar {n:Nat} {cs:List AV} (h:Ty ti n 34 cs):∃ l:List DVar,cs=[.lst 5 (l.map DVar.enc) none]∧∀ x∈l,x.ok:=ty_slice (e:=45) rfl rfl (fun _ _ _ hc=>ty_DVar hc) h
theorem ty_DFlow {n:Nat} {cs:List AV} (h:Ty ti n 37 cs):∃ x:DFlow,.agg cs=x.enc∧x.ok:=by
 cases n with
 | zero=>exact h.elim
 | succ n =>
  simp only[Ty,ti,FieldsTy] at h
  obtain⟨a0,b0,rfl,h0,a1,b1,rfl,h1,a2,b2,rfl,h2,a3,b3,rfl,h3,a4,b4,rfl,h4,rfl⟩:=h
  obtain⟨x0,rfl,q0⟩:=ty_s h0
  obtain⟨x1,rfl,q1⟩:=tys_DVar h1
  obtain⟨x2,rfl,q2⟩:=tys_DVar h2
  obtain⟨x3,rfl,q3⟩:=tys_DVar h3
  obtain⟨x4,rfl,q4⟩:=tys_DPlain h4
  exact⟨⟨x0,x1,x2,x3,x4⟩,by rw[DFlow.enc_eq];rfl,⟨q0,q1,q2,q3,q4⟩⟩
theorem eqv_DTy (x y:DTy):eqV ti 6 42 (.agg x.enc.cells) (.agg y.enc.cells)=some (decide (x=y)):=by
 obtain⟨xKind,xEnum,xLen⟩:=x
 obtain⟨yKind,yEnum,yLen⟩:=y
 rw[DTy.enc_cells,DTy.enc_cells]
 simp[eqV,eqFs,ti,loadAV,takeN,kEq,TI.agg,str_beq,int_beq]
theorem eql_DTy (x y:DTy):structAV ti 42 .eql x.enc y.enc=.ok (.raw (.bool (decide (x=y)))):=by
 unfold structAV
 rw[DTy.isAgg,DTy.isAgg,eqv_DTy]
theorem neq_DTy (x y:DTy):structAV ti 42 .neq x.enc y.enc=.ok (.raw (.bool (decide (¬ x=y)))):=by
 unfold structAV
 rw[DTy.isAgg,DTy.isAgg,eqv_DTy]
 simp
attribute [go_sem] eql_DTy neq_DTy
theorem eqv_DDecl (x y:DDecl):eqV ti 6 77 (.agg x.enc.cells) (.agg y.enc.cells)=some (decide (x=y)):=by
 obtain⟨xName,⟨xTyKind,xTyEnum,xTyLen⟩,xOn,xCtor⟩:=x
 obtain⟨yName,⟨yTyKind,yTyEnum,yTyLen⟩,yOn,yCtor⟩:=y
 rw[DDecl.enc_cells,DDecl.enc_cells]
 simp[eqV,eqFs,ti,loadAV,takeN,kEq,TI.agg,str_beq,int_beq]
theorem eql_DDecl (x y:DDecl):structAV ti 77 .eql x.enc y.enc=.ok (.raw (.bool (decide (x=y)))):=by
 unfold structAV
 rw[DDecl.isAgg,DDecl.isAgg,eqv_DDecl]
theorem neq_DDecl (x y:DDecl):structAV ti 77 .neq x.enc y.enc=.ok (.raw (.bool (decide (¬ x=y)))):=by
 unfold structAV
 rw[DDecl.isAgg,DDecl.isAgg,eqv_DDecl]
 simp
attribute [go_sem] eql_DDecl neq_DDecl
theorem eqv_DCond (x y:DCond):eqV ti 6 97 (.agg x.enc.cells) (.agg y.enc.cells)=some (decide (x=y)):=by
 obtain⟨xVar,xVal⟩:=x
 obtain⟨yVar,yVal⟩:=y
 rw[DCond.enc_cells,DCond.enc_cells]
 simp[eqV,eqFs,ti,loadAV,takeN,kEq,TI.agg,str_beq,int_beq]
theorem eql_DCond (x y:DCond):structAV ti 97 .eql x.enc y.enc=.ok (.raw (.bool (decide (x=y)))):=by
 unfold structAV
 rw[DCond.isAgg,DCond.isAgg,eqv_DCond]
theorem neq_DCond (x y:DCond):structAV ti 97 .neq x.enc y.enc=.ok (.raw (.bool (decide (¬ x=y)))):=by
 unfold structAV
 rw[DCond.isAgg,DCond.isAgg,eqv_DCond]
 simp
attribute [go_sem] eql_DCond neq_DCond
theorem eqv_DAtom (x y:DAtom):eqV ti 6 51 (.agg x.enc.cells) (.agg y.enc.cells)=some (decide (x=y)):=by
 obtain⟨xVar,xN⟩:=x
 obtain⟨yVar,yN⟩:=y
 rw[DAtom.enc_cells,DAtom.enc_cells]
 simp[eqV,eqFs,ti,loadAV,takeN,kEq,TI.agg,str_beq,int_beq]
theorem eql_DAtom (x y:DAtom):structAV ti 51 .eql x.enc y.enc=.ok (.raw (.bool (decide (x=y)))):=by
 unfold structAV
 rw[DAtom.isAgg,DAtom.isAgg,eqv_DAtom]
theorem neq_DAtom (x y:DAtom):structAV ti 51 .neq x.enc y.enc=.ok (.raw (.bool (decide (¬ x=y)))):=by
 unfold structAV
 rw[DAtom.isAgg,DAtom.isAgg,eqv_DAtom]
 simp
attribute [go_sem] eql_DAtom neq_DAtom
theorem eqv_DFault (x y:DFault):eqV ti 6 61 (.agg x.enc.cells) (.agg y.enc.cells)=some (decide (x=y)):=by
 obtain⟨xNode,xEq,xErr⟩:=x
 obtain⟨yNode,yEq,yErr⟩:=y
 rw[DFault.enc_cells,DFault.enc_cells]
 simp[eqV,eqFs,ti,loadAV,takeN,kEq,TI.agg,str_beq,int_beq]
theorem eql_DFault (x y:DFault):structAV ti 61 .eql x.enc y.enc=.ok (.raw (.bool (decide (x=y)))):=by
 unfold structAV
 rw[DFault.isAgg,DFault.isAgg,eqv_DFault]
theorem neq_DFault (x y:DFault):structAV ti 61 .neq x.enc y.enc=.ok (.raw (.bool (decide (¬ x=y)))):=by
 unfold structAV
 rw[DFault.isAgg,DFault.isAgg,eqv_DFault]
 simp
attribute [go_sem] eql_DFault neq_DFault
abbrev dataTypes:List TypeId:=[2,3,4,5,9,22,23,25,28,30,34,35,37,42,43,45,46,48,49,51,53,59,61,65,66,68,70,72,74,77,80,97,191,197]
theorem dataClosed:closedT ti dataTypes=true:=by kernel_rfl
abbrev fewD (l:List DDecl):Prop:=l.length≤20∧∀ d∈l,d.Name.size≤100∧d.On.size≤100∧d.Ctor.size≤100
abbrev okEnum (e:DEnum):Prop:=e.Ctors.length≤12∧e.Name.size≤100∧∀ c∈e.Ctors,c.size≤100
abbrev okEnums (l:List DEnum):Prop:=l.length≤8∧∀ e∈l,okEnum e
abbrev okEq (x:DEq):Prop:=x.Names.length≤20∧okE x.E∧∀ s∈x.Names,s.size≤100
abbrev okNode (n:DNode):Prop:=fewD n.Ins∧fewD n.Outs∧fewD n.Vars∧n.Eqs.length≤30∧n.Name.size≤100∧∀ x∈n.Eqs,okEq x
abbrev okProg (p:DProg):Prop:=okEnums p.Enums∧p.Nodes.length≤10∧∀ n∈p.Nodes,okNode n
theorem few_d (l:List DDecl):PCallE Tryz.prog 28 [.lst 6 (l.map DDecl.enc) none] (fun r=>∃ b:Bool,r=.b b∧(b=true→fewD l)):=by
 refine pcallE_of_vc tabOK Tryz.func28 (by kernel_rfl) rfl pureL (n:=38) rfl (rs:=[.tmp 2]) rfl ?_
 repeat' first
  | exact finB rfl
  | exact finI rfl
  | exact finP rfl
  | exact absurd rfl (by assumption)
  | simp only[go_sem]
  | (intro _)
  | refine brK_dec (fun _=>?_) (fun _=>?_)
  | refine brK_any ?_ ?_
  | refine gK_dec (fun _=>?_) (fun _=>?_)
  | refine gK_any ?_ ?_
  | refine gqK_dec (fun _=>?_) (fun _=>?_)
  | refine⟨by omega,?_⟩
  | refine elemHave (by omega) (by assumption) ?_
  | refine elemMap (by omega) (by omega) (fun x hx=>?_)
  | refine drawK mo (by kernel_rfl) ?_
  | (exact finBk (K:=fun b=>b=true→fewD l) rfl (fun h=>Bool.noConfusion h))
  | (exact finBk (K:=fun b=>b=true→fewD l) rfl (fun hb=>⟨by have:=of_decide_eq_true hb;omega,take_full hpi (by omega)⟩))
  | exact loopFrH _ (by omega) ⟨i+1,by omega,rfl,take_all hpi (by assumption) ⟨by omega,by omega,by omega⟩,rfl⟩ (.next rfl (by omega) .nil) rfl
  | (refine loop_frH [2,3,4,5,6,7,8,9,10,11,12,13,14,15,16,17,18,19,20,21,22,23,24,25,26,27,28,29,30,31,32,33,34] (fun mm_ CC_=>∃(i:Nat),i≤l.length∧mm_=l.length-i∧(∀ d∈l.take i,d.Name.size≤100∧d.On.size≤100∧d.Ctor.size≤100)∧CC_=[(3,.raw (.int .i64 ((i:Nat):Int)))]) (l.length) _ ⟨0,by omega,by omega,by simp,rfl⟩ (.cons rfl .nil) ?_;rintro mm_ CC_ ji ⟨i,hi,rfl,hpi,rfl⟩)
theorem small_en (l:List DEnum):PCallE Tryz.prog 27 [.lst 2 (l.map DEnum.enc) none] (fun r=>∃ b:Bool,r=.b b∧(b=true→okEnums l)):=by
 refine pcallE_of_vc tabOK Tryz.func27 (by kernel_rfl) rfl pureL (n:=50) rfl (rs:=[.tmp 2]) rfl ?_
 repeat' first
  | exact finB rfl
  | exact finI rfl
  | exact finP rfl
  | exact absurd rfl (by assumption)
  | simp only[go_sem]
  | (intro _)
  | refine brK_dec (fun _=>?_) (fun _=>?_)
  | refine brK_any ?_ ?_
  | refine gK_dec (fun _=>?_) (fun _=>?_)
  | refine gK_any ?_ ?_
  | refine gqK_dec (fun _=>?_) (fun _=>?_)
  | refine⟨by omega,?_⟩
  | refine elemHave (by omega) (by assumption) ?_
  | refine elemMap (by omega) (by omega) (fun x hx=>?_)
  | refine drawK mo (by kernel_rfl) ?_
  | (exact finBk (K:=fun b=>b=true→okEnums l) rfl (fun h=>Bool.noConfusion h))
  | (exact finBk (K:=fun b=>b=true→okEnums l) rfl (fun hb=>⟨by omega,take_full hpi (by omega)⟩))
  | exact loopFrH _ (by omega) ⟨k+1,by omega,rfl,take_all hpk (by assumption) (by omega),rfl⟩ (.next rfl (by omega) .nil) rfl
  | (refine loop_frH [2,4,30,31,32,33,34,35,36,37,38,39,40,41,42,43,44,45,46,47,48,49] (fun mm_ CC_=>∃(k:Nat),k≤x.Ctors.length∧mm_=x.Ctors.length-k∧(∀ c∈x.Ctors.take k,c.size≤100)∧CC_=[(4,.raw (.int .i64 ((k:Nat):Int)))]) (x.Ctors.length) _ ⟨0,by omega,by omega,by simp,rfl⟩ (.cons rfl .nil) ?_;rintro mm_ CC_ jk ⟨k,hk,rfl,hpk,rfl⟩)
  | exact loopFrH _ (by omega) ⟨i+1,by omega,rfl,take_all hpi (by assumption) ⟨by omega,by omega,take_full hpk (by omega)⟩,rfl⟩ (.next rfl (by omega) .nil) rfl
  | (refine loop_frH [2,3,4,8,9,10,11,12,13,14,15,16,17,18,19,20,21,22,23,24,25,26,27,28,29,30,31,32,33,34,35,36,37,38,39,40,41,42,43,44,45,46,47,48,49] (fun mm_ CC_=>∃(i:Nat),i≤l.length∧mm_=l.length-i∧(∀ e∈l.take i,okEnum e)∧CC_=[(3,.raw (.int .i64 ((i:Nat):Int)))]) (l.length) _ ⟨0,by omega,by omega,by simp,rfl⟩ (.cons rfl .nil) ?_;rintro mm_ CC_ ji ⟨i,hi,rfl,hpi,rfl⟩)
theorem small_p (p:DProg):PCallE Tryz.prog 8 [p.enc] (fun r=>∃ b:Bool,r=.b b∧(b=true→okProg p)):=by
 refine pcallE_of_vc tabOK Tryz.func8 (by kernel_rfl) rfl pureL (n:=94) rfl (rs:=[.tmp 2]) rfl ?_
 repeat' first
  | exact finB rfl
  | exact finI rfl
  | exact finP rfl
  | exact absurd rfl (by assumption)
  | simp only[go_sem]
  | (intro _)
  | refine brK_dec (fun _=>?_) (fun _=>?_)
  | refine brK_any ?_ ?_
  | refine gK_dec (fun _=>?_) (fun _=>?_)
  | refine gK_any ?_ ?_
  | refine gqK_dec (fun _=>?_) (fun _=>?_)
  | refine⟨by omega,?_⟩
  | refine elemHave (by omega) (by assumption) ?_
  | refine elemMap (by omega) (by omega) (fun x hx=>?_)
  | refine drawK mo (by kernel_rfl) ?_
  | (exact finBk (K:=fun b=>b=true→okProg p) rfl (fun hb=>⟨hbe,by omega,take_full hpi (by omega)⟩))
  | (exact finBk (K:=fun b=>b=true→okProg p) rfl (fun h=>Bool.noConfusion h))
  | (refine PCallE.call (small_en _) (fun r hr=>?_);obtain⟨b,rfl,hbe⟩:=hr;cases b<;>(try replace hbe:=hbe rfl))
  | (refine PCallE.call (few_d _) (fun r hr=>?_);obtain⟨b,rfl,hbd⟩:=hr;cases b<;>(try replace hbd:=hbd rfl))
  | (refine PCallE.call (small_e _) (fun r hr=>?_);obtain⟨b,rfl,hbx⟩:=hr;cases b<;>(try replace hbx:=hbx rfl))
  | exact loopFrH _ (by omega) ⟨j+1,by omega,rfl,take_all hpj (by assumption) (by omega),rfl⟩ (.next rfl (by omega) .nil) rfl
  | (refine loop_frH [2,7,80,81,82,83,84,85,86,87,88,89,90,91,92,93] (fun mm_ CC_=>∃(j:Nat),j≤x.Names.length∧mm_=x.Names.length-j∧(∀ s∈x.Names.take j,s.size≤100)∧CC_=[(7,.raw (.int .i64 ((j:Nat):Int)))]) (x.Names.length) _ ⟨0,by omega,by omega,by simp,rfl⟩ (.cons rfl .nil) ?_;rintro mm_ CC_ jj ⟨j,hj,rfl,hpj,rfl⟩)
  | exact loopFrX _ (by omega) _ ⟨k+1,by omega,rfl,take_all hpk (by assumption) ⟨by omega,by assumption,take_full hpj (by omega)⟩,rfl⟩ (.next rfl (by omega) .nil) rfl (by first|rfl|(simp only[List.append_assoc,List.cons_append,List.nil_append];rfl))
  | (refine loop_frX [2,5,6,7,58,59,60,61,62,63,64,65,66,67,68,69,70,71,72,73,74,75,76,77,78,79,80,81,82,83,84,85,86,87,88,89,90,91,92,93] (fun mm_ CC_=>∃(k:Nat),k≤x.Eqs.length∧mm_=x.Eqs.length-k∧(∀ q∈x.Eqs.take k,okEq q)∧CC_=[(5,.raw (.int .i64 ((k:Nat):Int)))]) (x.Eqs.length) _ ⟨0,by omega,by omega,by simp,rfl⟩ (.cons rfl .nil) ?_;rintro mm_ CC_ jk rk ⟨k,hk,rfl,hpk,rfl⟩)
  | exact loopFrX _ (by omega) _ ⟨i+1,by omega,rfl,take_all hpi (by assumption) ⟨by assumption,by assumption,by assumption,by omega,by omega,take_full hpk (by omega)⟩,rfl⟩ (.next rfl (by omega) .nil) rfl (by first|rfl|(simp only[List.append_assoc,List.cons_append,List.nil_append];rfl))
  | (refine loop_frX [2,3,4,5,6,7,18,19,20,21,22,23,24,25,26,27,28,29,30,31,32,33,34,35,36,37,38,39,40,41,42,43,44,45,46,47,48,49,50,51,52,53,54,55,56,57,58,59,60,61,62,63,64,65,66,67,68,69,70,71,72,73,74,75,76,77,78,79,80,81,82,83,84,85,86,87,88,89,90,91,92,93] (fun mm_ CC_=>∃(i:Nat),i≤p.Nodes.length∧mm_=p.Nodes.length-i∧(∀ n∈p.Nodes.take i,okNode n)∧CC_=[(3,.raw (.int .i64 ((i:Nat):Int)))]) (p.Nodes.length) _ ⟨0,by omega,by omega,by simp,rfl⟩ (.cons rfl .nil) ?_;rintro mm_ CC_ ji ri ⟨i,hi,rfl,hpi,rfl⟩)
theorem indexNode {l:List DNode} {p:DNode→Bool} {g:Nat} {first capt:List AV} {h:List Blk} {K:AV→List Blk→Prop} (hp:∀ x∈l,∀ K:AV→List Blk→Prop,K (.b (p x)) h→ACall Tryz.prog g (first++DNode.enc x::capt) h K)
  (hK:K (.i (idxOf p l)) h):ACall Tryz.prog 175 [.lst 5 (l.map (DNode.enc)) none,.fn (.func g) first capt] h K:=by
 refine acall_of_vc tabOK Tryz.func175 (by kernel_rfl) rfl (n:=19) rfl (rs:=[.tmp 4]) rfl ?_
 simp only[go_sem]
 intro hlen
 refine loop_frH [5,8,9,10,11,12,13,14,15,16,18] (fun n C=>∃(i:Nat),i≤l.length∧n=l.length-i∧(∀ x∈l.take i,p x=false)∧C=[(8,.raw (.int .i64 (i:Nat)))]) l.length _ ⟨0,by omega,by omega,by simp,rfl⟩ (.cons rfl .nil) ?_
 rintro n C j ⟨i,hi,rfl,hp0,rfl⟩
 simp only[go_sem]
 refine brK_dec (fun hlt=>?_) (fun hge=>?_)
 ·
  simp only[go_sem]
  refine elemMap (by omega) (by omega) (fun x hx=>?_)
  simp only[go_sem]
  refine hp x (List.mem_of_getElem? hx) _ ?_
  simp only[go_sem]
  cases hb:p x with
  | true =>
   simp only[go_sem]
   rw[idxOf_at hp0 hx hb] at hK
   exact finH1 rfl (.raw _) hK
  | false =>
   simp only[go_sem]
   exact loopFrH (l.length-(i+1)) (by omega) ⟨i+1,by omega,rfl,take_all hp0 (by rw[Int.toNat_natCast] at hx;exact hx) hb,rfl⟩ (.next rfl (by omega) .nil) rfl
 ·
  simp only[go_sem]
  rw[idxOf_none (take_full hp0 (by omega))] at hK
  exact finH1 rfl (.raw _) hK
theorem indexDecl {l:List DDecl} {p:DDecl→Bool} {g:Nat} {first capt:List AV} {h:List Blk} {K:AV→List Blk→Prop} (hp:∀ x∈l,∀ K:AV→List Blk→Prop,K (.b (p x)) h→ACall Tryz.prog g (first++DDecl.enc x::capt) h K)
  (hK:K (.i (idxOf p l)) h):ACall Tryz.prog 259 [.lst 6 (l.map (DDecl.enc)) none,.fn (.func g) first capt] h K:=by
 refine acall_of_vc tabOK Tryz.func259 (by kernel_rfl) rfl (n:=19) rfl (rs:=[.tmp 4]) rfl ?_
 simp only[go_sem]
 intro hlen
 refine loop_frH [5,8,9,10,11,12,13,14,15,16,18] (fun n C=>∃(i:Nat),i≤l.length∧n=l.length-i∧(∀ x∈l.take i,p x=false)∧C=[(8,.raw (.int .i64 (i:Nat)))]) l.length _ ⟨0,by omega,by omega,by simp,rfl⟩ (.cons rfl .nil) ?_
 rintro n C j ⟨i,hi,rfl,hp0,rfl⟩
 simp only[go_sem]
 refine brK_dec (fun hlt=>?_) (fun hge=>?_)
 ·
  simp only[go_sem]
  refine elemMap (by omega) (by omega) (fun x hx=>?_)
  simp only[go_sem]
  refine hp x (List.mem_of_getElem? hx) _ ?_
  simp only[go_sem]
  cases hb:p x with
  | true =>
   simp only[go_sem]
   rw[idxOf_at hp0 hx hb] at hK
   exact finH1 rfl (.raw _) hK
  | false =>
   simp only[go_sem]
   exact loopFrH (l.length-(i+1)) (by omega) ⟨i+1,by omega,rfl,take_all hp0 (by rw[Int.toNat_natCast] at hx;exact hx) hb,rfl⟩ (.next rfl (by omega) .nil) rfl
 ·
  simp only[go_sem]
  rw[idxOf_none (take_full hp0 (by omega))] at hK
  exact finH1 rfl (.raw _) hK
theorem indexStr {l:List ByteArray} {p:ByteArray→Bool} {g:Nat} {first capt:List AV} {h:List Blk} {K:AV→List Blk→Prop} (hp:∀ x∈l,∀ K:AV→List Blk→Prop,K (.b (p x)) h→ACall Tryz.prog g (first++AV.s x::capt) h K)
  (hK:K (.i (idxOf p l)) h):ACall Tryz.prog 148 [.lst 1 (l.map (AV.s)) none,.fn (.func g) first capt] h K:=by
 refine acall_of_vc tabOK Tryz.func148 (by kernel_rfl) rfl (n:=19) rfl (rs:=[.tmp 4]) rfl ?_
 simp only[go_sem]
 intro hlen
 refine loop_frH [5,8,9,10,11,12,13,14,15,16,18] (fun n C=>∃(i:Nat),i≤l.length∧n=l.length-i∧(∀ x∈l.take i,p x=false)∧C=[(8,.raw (.int .i64 (i:Nat)))]) l.length _ ⟨0,by omega,by omega,by simp,rfl⟩ (.cons rfl .nil) ?_
 rintro n C j ⟨i,hi,rfl,hp0,rfl⟩
 simp only[go_sem]
 refine brK_dec (fun hlt=>?_) (fun hge=>?_)
 ·
  simp only[go_sem]
  refine elemMap (by omega) (by omega) (fun x hx=>?_)
  simp only[go_sem]
  refine hp x (List.mem_of_getElem? hx) _ ?_
  simp only[go_sem]
  cases hb:p x with
  | true =>
   simp only[go_sem]
   rw[idxOf_at hp0 hx hb] at hK
   exact finH1 rfl (.raw _) hK
  | false =>
   simp only[go_sem]
   exact loopFrH (l.length-(i+1)) (by omega) ⟨i+1,by omega,rfl,take_all hp0 (by rw[Int.toNat_natCast] at hx;exact hx) hb,rfl⟩ (.next rfl (by omega) .nil) rfl
 ·
  simp only[go_sem]
  rw[idxOf_none (take_full hp0 (by omega))] at hK
  exact finH1 rfl (.raw _) hK
theorem indexEx {l:List Ex} {p:Ex→Bool} {g:Nat} {first capt:List AV} {h:List Blk} {K:AV→List Blk→Prop} (hp:∀ x∈l,∀ K:AV→List Blk→Prop,K (.b (p x)) h→ACall Tryz.prog g (first++Ex.enc x::capt) h K)
  (hK:K (.i (idxOf p l)) h):ACall Tryz.prog 217 [.lst 6 (l.map (Ex.enc)) none,.fn (.func g) first capt] h K:=by
 refine acall_of_vc tabOK Tryz.func217 (by kernel_rfl) rfl (n:=19) rfl (rs:=[.tmp 4]) rfl ?_
 simp only[go_sem]
 intro hlen
 refine loop_frH [5,8,9,10,11,12,13,14,15,16,18] (fun n C=>∃(i:Nat),i≤l.length∧n=l.length-i∧(∀ x∈l.take i,p x=false)∧C=[(8,.raw (.int .i64 (i:Nat)))]) l.length _ ⟨0,by omega,by omega,by simp,rfl⟩ (.cons rfl .nil) ?_
 rintro n C j ⟨i,hi,rfl,hp0,rfl⟩
 simp only[go_sem]
 refine brK_dec (fun hlt=>?_) (fun hge=>?_)
 ·
  simp only[go_sem]
  refine elemMap (by omega) (by omega) (fun x hx=>?_)
  simp only[go_sem]
  refine hp x (List.mem_of_getElem? hx) _ ?_
  simp only[go_sem]
  cases hb:p x with
  | true =>
   simp only[go_sem]
   rw[idxOf_at hp0 hx hb] at hK
   exact finH1 rfl (.raw _) hK
  | false =>
   simp only[go_sem]
   exact loopFrH (l.length-(i+1)) (by omega) ⟨i+1,by omega,rfl,take_all hp0 (by rw[Int.toNat_natCast] at hx;exact hx) hb,rfl⟩ (.next rfl (by omega) .nil) rfl
 ·
  simp only[go_sem]
  rw[idxOf_none (take_full hp0 (by omega))] at hK
  exact finH1 rfl (.raw _) hK
section
open Go.RowKit
def growPostD (n:Nat) (w:World) (e:Ending) (w':World):Prop :=
 ∃(cap:Nat) (vs:Array Value),e=.returned (.slice (some ⟨w.heap.size,0,none⟩) 0 cap)∧n≤cap∧cap≤maxLen∧vs.size=cap * 6∧w'=(w.alloc (.cells vs 77)).drew
theorem grow_walkD (n:Nat) (h0:0<n) (hn:n≤4294967296) (w:World):Calls Tryz.prog 199 #[.slice none 0 0,.int .i64 (n:Int)] w (growPostD n w):=by
 have hb:Tryz.t77.bytes=72:=by kernel_rfl
 have hns:=nextslicecap_zero h0
 go_enter Tryz.func199,Tryz.ntmps199
 go_wp2
 all_goals first
  | (exfalso;simp only[hb,hns] at *;omega)
  | (go_ret
     have hge:=grownCap_ge w n 0 77
     have hcm:=grownCap_le_maxLen w n 0 77 (by simp only[maxLen];omega)
     exact⟨_,_,rfl,hge,hcm,by simp only[Array.size_append,zeroCells_size];show n * 6+(grownCap w n 0 77-n) * 6=grownCap w n 0 77 * 6;omega,rfl⟩)
theorem grow0_walkD (w:World):Calls Tryz.prog 199 #[.slice none 0 0,.int .i64 0] w fun e w'=>e=.returned (.slice none 0 0)∧w'=w:=by
 go_enter Tryz.func199,Tryz.ntmps199
 go_wp2
 go_ret
 exact⟨rfl,rfl⟩
theorem grow_callD {n:Nat} (hn:n≤4294967296) {h:List Blk} {K:AV→List Blk→Prop} (hK:K (.lst 6 [] (some h.length)) (h++[.tok 77 6 0])):ACall Tryz.prog 199 [.raw (.slice none 0 0),.i n] h K:=by
 refine acall_of fun S φ w vs hr hargs=>?_
 have hvs:vs=#[.slice none 0 0,.int .i64 n]:=by
  obtain⟨v0,h0,c0⟩:=hargs.at (i:=0) rfl
  obtain⟨v1,h1,c1⟩:=hargs.at (i:=1) rfl
  cases c0;cases c1
  have hl:=hargs.1
  apply Array.ext_getElem?
  intro i
  match i with
  | 0=>exact h0
  | 1=>exact h1
  | i+2=>simp at hl ⊢;omega
 subst hvs
 refine⟨run_callFunc Tryz.func199 (by kernel_rfl) rfl _ w,?_⟩
 rcases Nat.eq_zero_or_pos n with rfl|h0
 ·
  refine Calls.mono (grow0_walkD w) ?_
  rintro e w' ⟨rfl,rfl⟩
  obtain⟨k1,k2⟩:=hr.push (l:=.tok 0 (.slice none 0 0)) (x:=.tok 77 6 0) (S':=S) (w':=w') rfl rfl rfl (Nat.le_refl _) (fun _ _=>rfl) (fun _ h=>h) (fun _ h=>.inl h) hr.bnd
   ⟨_,upd_same _ _ _,.inl ⟨rfl,rfl⟩⟩ (fun b hb=>by simp[blockOf] at hb)
  exact⟨_,_,_,S,_,rfl,hK,.lstnil _ _ ⟨_,_,upd_same _ _ _,Nat.le_refl _,fun _=>rfl⟩,k1,k2⟩
 ·
  refine Calls.mono (grow_walkD n h0 hn w) ?_
  rintro e w' ⟨cap,us,rfl,hc,hm,hus,rfl⟩
  obtain⟨k1,k2⟩:=hr.push (l:=.tok 0 (.slice (some ⟨w.heap.size,0,none⟩) 0 cap)) (x:=.tok 77 6 0) (S':=S) (w':=(w.alloc (.cells us 77)).drew) rfl rfl rfl (by show _≤(w.heap.push _).size;simp) (fun b hb=>alloc_heap w _ _ hb) (fun _ h=>h) (fun _ h=>.inl h)
   (fun a ha=>by have:=hr.bnd a ha;show _<(w.heap.push _).size;simp;omega)
   ⟨_,upd_same _ _ _,.inr (.inr ⟨w.heap.size,cap,us,by omega,hm,rfl,heap_alloc_new w _,hus,fun a ha e=>by have:=hr.bnd a ha;omega⟩)⟩
   (fun b hb=>by simp only[blockOf] at hb;split at hb;cases hb;cases hb;exact Nat.le_refl _)
  refine⟨_,_,_,S,_,rfl,hK,?_,k1,k2⟩
  exact .lst _ [] _ _ _ _ (fun _=>undef) rfl (Nat.zero_le _) hm (by simp) (fun j c hj=>by simp[flat] at hj) (fun j c hj=>by simp[flat] at hj) (fun j c hj=>by simp[flat] at hj) ⟨_,_,upd_same _ _ _,Nat.le_refl _,fun _=>rfl⟩
def encsD (l:List DDecl):AV:=.lst 6 (l.map (DDecl.enc)) none
theorem encsD_eq (l:List DDecl):encsD l=.lst 6 (l.map (DDecl.enc)) none:=rfl
instance (ls:List (List DDecl)):PureI (.lst 1 (ls.map encsD) none):=⟨pure_list (fun x=>DDecl.pures x) _⟩
attribute [go_sem] encsD_eq
def lensD (ls:List (List DDecl)):Nat:=ls.flatten.length
theorem concatD (ls:List (List DDecl)) (hl:lensD ls≤4294967296):PCall Tryz.prog 157 [.lst 1 (ls.map encsD) none] (.lst 6 (ls.flatten.map (DDecl.enc)) none):=by
 refine pcall_of_vc tabOK Tryz.func157 (by kernel_rfl) rfl pureL pureI (n:=36) rfl (rs:=[.tmp 2]) rfl ?_
 simp only[go_sem]
 intro hlen
 refine loop_frH [5,11,12,13,14,15,16,17,18,3,19,20,21,22] (fun n C=>∃(i:Nat),i≤ls.length∧n=ls.length-i∧C=[(11,.raw (.int .i64 (i:Nat))),(3,.i (lensD (ls.take i)))]) ls.length _ ⟨0,by omega,by omega,rfl⟩ (.cons rfl (.cons rfl .nil)) ?_
 rintro n C j ⟨i,hi,rfl,rfl⟩
 simp only[go_sem]
 refine brK_dec (fun hlt=>?_) (fun hge=>?_)
 ·
  simp only[go_sem]
  refine elemMap (by omega) (by omega) (fun x hx=>?_)
  rw[Int.toNat_natCast] at hx
  have ht:lensD (ls.take (i+1))=lensD (ls.take i)+x.length:=by
   unfold lensD
   rw[List.take_add_one,hx]
   simp
  have hle:lensD (ls.take (i+1))≤lensD ls:=take_flatten_le _ _
  simp only[go_sem]
  intro hxl
  rw[wrap_in _ (by omega) (by omega)]
  refine brK_dec (fun hneg=>?_) (fun _=>?_)
  ·
   omega
  ·
   simp only[go_sem]
   exact loopFrH (ls.length-(i+1)) (by omega) ⟨i+1,by omega,rfl,rfl⟩ (.next rfl (by omega) (.cons (by rw[ht];rfl) .nil)) rfl
 ·
  simp only[go_sem]
  rw[List.take_of_length_le (by omega)]
  refine grow_callD hl ?_
  simp only[go_sem]
  intro _
  refine loop_fr [8,27,28,29,30,31,32,33,6,34] (fun n C h=>∃(i:Nat),i≤ls.length∧n=ls.length-i∧C=[(27,.raw (.int .i64 (i:Nat))),(6,.lst 6 ((ls.take i).flatten.map (DDecl.enc)) (some 0))]∧h=[.tok 77 6 (lensD (ls.take i))]) ls.length _ ⟨0,by omega,by omega,rfl,rfl⟩ (.cons rfl (.cons rfl .nil)) ?_
  rintro n C j' h ⟨i,hi,rfl,rfl,rfl⟩
  simp only[go_sem]
  refine brK_dec (fun hlt=>?_) (fun hge=>?_)
  ·
   simp only[go_sem]
   refine elemMap (by omega) (by omega) (fun x hx=>?_)
   rw[Int.toNat_natCast] at hx
   have ht:(ls.take (i+1)).flatten=(ls.take i).flatten++x:=by
    rw[List.take_add_one,hx]
    simp
   have hle:lensD (ls.take (i+1))≤lensD ls:=take_flatten_le _ _
   have hle':(ls.take i).flatten.length+x.length≤4294967296:=by
    have:lensD (ls.take (i+1))=(ls.take i).flatten.length+x.length:=by unfold lensD;rw[ht];simp
    omega
   simp only[go_sem]
   refine⟨⟨rfl,hle'⟩,?_⟩
   exact loopFr (ls.length-(i+1)) (by omega) ⟨i+1,by omega,rfl,rfl,by simp[lensD,ht]⟩ (.next rfl (by omega) (.cons (by rw[ht,List.map_append];rfl) .nil)) rfl
  ·
   simp only[go_sem]
   rw[List.take_of_length_le (by omega)]
   exact⟨_,rfl,false,.tok _ _ _⟩
end
def layS_ren:Go.Shelf.Ren:=⟨fun|217=>338|266=>342|138=>330|143=>331|195=>333|218=>335|219=>336|224=>340|225=>339|267=>341|314=>343|n=>n,
 fun|3=>3|4=>4|5=>5|9=>9|46=>279|51=>277|0=>0|146=>331|n=>n,fun|1=>3|n=>n⟩
theorem layS_g1 : Tryz.prog.globals.findIdx? (·.name == "internal/bytealg.MaxLen") = some 3 := by kernel_rfl
theorem layS:Go.Proofs.Lays.n138 Tryz.prog layS_ren:={
 mixed:=by kernel_rfl
 f138:=Tryz.func330.trans (congrArg some (by kernel_rfl))
 f143:=Tryz.func331.trans (congrArg some (by kernel_rfl))
 f195:=Tryz.func333.trans (congrArg some (by kernel_rfl))
 f217:=Tryz.func338.trans (congrArg some (by kernel_rfl))
 f218:=Tryz.func335.trans (congrArg some (by kernel_rfl))
 f219:=Tryz.func336.trans (congrArg some (by kernel_rfl))
 f224:=Tryz.func340.trans (congrArg some (by kernel_rfl))
 f225:=Tryz.func339.trans (congrArg some (by kernel_rfl))
 f266:=Tryz.func342.trans (congrArg some (by kernel_rfl))
 f267:=Tryz.func341.trans (congrArg some (by kernel_rfl))
 f314:=Tryz.func343.trans (congrArg some (by kernel_rfl))
 t0:=Tryz.underlying0
 a0:=Tryz.isAgg0
 z0:=Tryz.sizeOf0
 v0:=Tryz.zeroValue0
 t3:=Tryz.underlying3
 a3:=Tryz.isAgg3
 z3:=Tryz.sizeOf3
 v3:=Tryz.zeroValue3
 t4:=Tryz.underlying4
 a4:=Tryz.isAgg4
 z4:=Tryz.sizeOf4
 v4:=Tryz.zeroValue4
 t5:=Tryz.underlying5
 a5:=Tryz.isAgg5
 z5:=Tryz.sizeOf5
 v5:=Tryz.zeroValue5
 t9:=Tryz.underlying9
 a9:=Tryz.isAgg9
 z9:=Tryz.sizeOf9
 v9:=Tryz.zeroValue9
 t46:=Tryz.underlying279
 a46:=Tryz.isAgg279
 z46:=Tryz.sizeOf279
 v46:=Tryz.zeroValue279
 t51:=Tryz.underlying277
 a51:=Tryz.isAgg277
 z51:=Tryz.sizeOf277
 v51:=Tryz.zeroValue277
 t146:=Tryz.underlying331
 a146:=Tryz.isAgg331
 z146:=Tryz.sizeOf331
 v146:=Tryz.zeroValue331
 g1:=layS_g1 }
theorem finSqN {T:TypeId→TI} {rs:List ResultVar} {s:List AV} {h:List Blk} {a b:ByteArray} (hr:resAV T s h rs=some [.s a]) (he:a=b):Go.Abs.Fin T rs (.s b) s h:=he▸⟨_,hr,false,.refl _⟩
theorem digN_size (j:Nat) (h:j<100):(digB (j:Int)).size≤21:=by
 have key:∀ k:Fin 100,(digB (k.val:Int)).size≤21:=by decide +kernel
 exact key ⟨j,h⟩
theorem small204 (n:Nat) (h:n<100):PCall Tryz.prog 204 [.i (n:Int)] (.s (digB (n:Int))):=by
 refine pcall_of_vc tabOK Tryz.func204 (by kernel_rfl) rfl pureL pureI (n:=15) rfl (rs:=[.tmp 2]) rfl ?_
 by_cases hn:n<10
 ·
  have hw:IntKind.i64.wrap ((n:Int)+1)=((n+1:Nat):Int):=by rw[wrap_in _ (by omega) (by omega)];omega
  repeat' first
   | simp only[go_sem,hw]
   | refine brK_dec (fun _=>?_) (fun _=>?_)
   | (exfalso;omega)
   | refine And.intro (by first|omega|(simp<;>omega)) ?_
  refine finSqN rfl ?_
  rw[Int.toNat_natCast,Int.toNat_natCast]
  exact(fun(key:∀ k:_root_.Fin 10,ByteArray.extract _ k.val (k.val+1)=digB (k.val:Int))=>key ⟨n,hn⟩) (by decide +kernel)
 ·
  have hw:IntKind.i64.wrap ((n:Int) * 2)=((n * 2:Nat):Int):=by rw[wrap_in _ (by omega) (by omega)];omega
  have hw2:IntKind.i64.wrap (((n * 2:Nat):Int)+2)=((n * 2+2:Nat):Int):=by rw[wrap_in _ (by omega) (by omega)];omega
  repeat' first
   | simp only[go_sem,hw,hw2]
   | refine brK_dec (fun _=>?_) (fun _=>?_)
   | (exfalso;omega)
   | refine And.intro (by first|omega|(simp<;>omega)) ?_
  refine finSqN rfl ?_
  rw[Int.toNat_natCast,Int.toNat_natCast]
  exact(fun(key:∀ k:_root_.Fin 100,10≤k.val→ByteArray.extract _ (k.val * 2) (k.val * 2+2)=digB (k.val:Int))=>key ⟨n,h⟩ (by show 10≤n;omega)) (by decide +kernel)
theorem fmtN (n:Nat) (h:n<100):PCall Tryz.prog 161 [.i (n:Int),.i 10] (.s (digB (n:Int))):=by
 refine pcall_of_vc tabOK Tryz.func161 (by kernel_rfl) rfl pureL pureI (n:=54) rfl (rs:=[.tmp 4]) rfl ?_
 repeat' first
  | simp only[go_sem]
  | refine brK_dec (fun _=>?_) (fun _=>?_)
  | refine gK_dec (fun _=>?_) (fun _=>?_)
  | (exfalso;omega)
  | refine PCall.call (small204 n h) ?_
  | exact⟨_,rfl,false,.refl _⟩
theorem itoaN28 (n:Nat) (h:n<100):PCall Tryz.prog 129 [.i (n:Int)] (.s (digB (n:Int))):=by
 refine pcall_of_vc tabOK Tryz.func129 (by kernel_rfl) rfl pureL pureI (n:=5) rfl (rs:=[.tmp 2]) rfl ?_
 simp only[go_sem]
 refine PCall.call (fmtN n h) ?_
 simp only[go_sem]
 exact⟨_,rfl,false,.refl _⟩
theorem itoaN (n:Nat) (h:n<100):PCall Tryz.prog 89 [.i (n:Int)] (.s (digB (n:Int))):=by
 refine pcall_of_vc tabOK Tryz.func89 (by kernel_rfl) rfl pureL pureI (n:=5) rfl (rs:=[.tmp 2]) rfl ?_
 simp only[go_sem]
 refine PCall.call (itoaN28 n h) ?_
 simp only[go_sem]
 exact⟨_,rfl,false,.refl _⟩
end Go.Proofs.YtpamokpmlplopaaGreatDoor
