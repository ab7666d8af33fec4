/-
  AbsY, AbsZ, AbsI, AbsJ, AbsK, DigD: put together.
-/
import Derived.Test.YtpamokpmlplopaaGreatDoorUniAd
import Derived.Test.YtpamokpmlplopaaGreatDoorUniAf
import Derived.Lib.Bytealg
import Derived.Below
import Derived.Lib.LaidTab
import Derived.Lib.ItoaLen
namespace Go.Abs
open Go.RowKit
abbrev AV.u8 (n:Int):AV:=.raw (.int .u8 n)
@[go_sem] theorem u8sAV_u8 (l:List Int):u8sAV (l.map AV.u8)=some (l.map fun n=>UInt8.ofNat n.toNat):=u8sAV_map l
abbrev AV.il (l:List Int):AV:=.lst 1 (l.map AV.i) none
theorem flat_of {α:Type} {f:α→AV} (h:∀ x,(f x).cells=[f x]) (l:List α):flat (l.map f)=l.map f:=by
 induction l with
 | nil=>rfl
 | cons x l ih=>simp only[flat,List.map_cons,List.flatMap_cons] at ih ⊢;rw[ih,h];rfl
theorem pure_ints (l:List Int):Pure (.lst 1 (l.map AV.i) none):=by
 refine .lst _ _ fun c hc=>?_
 rw[flat_of (fun _=>rfl)] at hc
 obtain⟨x,_,rfl⟩:=List.mem_map.1 hc
 exact .raw _
theorem pure_u8s (l:List Int):Pure (.lst 1 (l.map AV.u8) none):=by
 refine .lst _ _ fun c hc=>?_
 rw[flat_of (fun _=>rfl)] at hc
 obtain⟨x,_,rfl⟩:=List.mem_map.1 hc
 exact .raw _
theorem pure_ints2 (l:List (List Int)):Pure (.lst 1 (l.map AV.il) none):=by
 refine .lst _ _ fun c hc=>?_
 rw[flat_of (fun _=>rfl)] at hc
 obtain⟨x,_,rfl⟩:=List.mem_map.1 hc
 exact pure_ints x
theorem Pure.cell {a:AV} (h:Pure a) (ht:∀ cs,a=.agg cs→∀ c∈cs,Pure c):∀ c∈a.cells,Pure c:=by
 intro c hc
 cases a with
 | agg cs=>exact ht cs rfl c hc
 | raw v =>
  cases v with
  | agg vs=>simp only[AV.cells,List.mem_map] at hc;obtain⟨x,_,rfl⟩:=hc;exact .raw _
  | _=>simp only[AV.cells,List.mem_singleton] at hc;subst hc;exact h
 | _=>simp only[AV.cells,List.mem_singleton] at hc;subst hc;exact h
theorem Pure.cells {a:AV} (h:Pure a):∀ c∈a.cells,Pure c:=h.cell fun cs e=>by
 subst e
 cases h with
 | agg _ h=>exact h
theorem pure_list {α:Type} {f:α→AV} {sz:Nat} (h:∀ x,Pure (f x)) (l:List α):Pure (.lst sz (l.map f) none):=by
 refine .lst _ _ fun c hc=>?_
 simp only[flat,List.mem_flatMap] at hc
 obtain⟨a,ha,hc⟩:=hc
 obtain⟨x,_,rfl⟩:=List.mem_map.1 ha
 exact(h x).cells c hc
instance (l:List Int):PureI (.lst 1 (l.map AV.i) none):=⟨pure_ints l⟩
instance (l:List Int):PureI (.lst 1 (l.map AV.u8) none):=⟨pure_u8s l⟩
instance (l:List (List Int)):PureI (.lst 1 (l.map AV.il) none):=⟨pure_ints2 l⟩
structure DTy where
 Kind:Int
 Enum:Int
 Len:Int
 deriving DecidableEq
def DTy.enc (x:DTy):AV:=.agg [.i x.Kind,.i x.Enum,.i x.Len]
theorem DTy.enc_eq (x:DTy):x.enc=.agg [.i x.Kind,.i x.Enum,.i x.Len]:=rfl
theorem DTy.enc_cells (x:DTy):x.enc.cells=[.i x.Kind,.i x.Enum,.i x.Len]:=rfl
theorem DTy.fold (x:DTy):AV.agg [.i x.Kind,.i x.Enum,.i x.Len]=x.enc:=rfl
theorem DTy.pure (x:DTy):Pure x.enc:=by
 refine .agg _ ?_
 repeat' first|exact pure_nil|refine pure_cons ?_ ?_|exact .raw _|exact pure_strs _|exact pure_ints _|exact pure_u8s _|exact pure_ints2 _|exact pure_lst _
theorem DTy.isAgg (x:DTy):isAggAV x.enc=true:=rfl
theorem DTy.pures (l:List DTy):Pure (.lst 3 (l.map DTy.enc) none):=pure_list DTy.pure l
instance (x:DTy):PureI x.enc:=⟨DTy.pure x⟩
instance (l:List DTy):PureI (.lst 3 (l.map DTy.enc) none):=⟨DTy.pures l⟩
structure DEnum where
 Name:ByteArray
 Ctors:List ByteArray
def DEnum.enc (x:DEnum):AV:=.agg [.s x.Name,.lst 1 (x.Ctors.map AV.s) none]
theorem DEnum.enc_eq (x:DEnum):x.enc=.agg [.s x.Name,.lst 1 (x.Ctors.map AV.s) none]:=rfl
theorem DEnum.enc_cells (x:DEnum):x.enc.cells=[.s x.Name,.lst 1 (x.Ctors.map AV.s) none]:=rfl
theorem DEnum.fold (x:DEnum):AV.agg [.s x.Name,.lst 1 (x.Ctors.map AV.s) none]=x.enc:=rfl
theorem DEnum.pure (x:DEnum):Pure x.enc:=by
 refine .agg _ ?_
 repeat' first|exact pure_nil|refine pure_cons ?_ ?_|exact .raw _|exact pure_strs _|exact pure_ints _|exact pure_u8s _|exact pure_ints2 _|exact pure_lst _
theorem DEnum.isAgg (x:DEnum):isAggAV x.enc=true:=rfl
theorem DEnum.pures (l:List DEnum):Pure (.lst 2 (l.map DEnum.enc) none):=pure_list DEnum.pure l
instance (x:DEnum):PureI x.enc:=⟨DEnum.pure x⟩
instance (l:List DEnum):PureI (.lst 2 (l.map DEnum.enc) none):=⟨DEnum.pures l⟩
structure DDecl where
 Name:ByteArray
 Ty:DTy
 On:ByteArray
 Ctor:ByteArray
 deriving DecidableEq
def DDecl.enc (x:DDecl):AV:=.agg [.s x.Name,.i x.Ty.Kind,.i x.Ty.Enum,.i x.Ty.Len,.s x.On,.s x.Ctor]
theorem DDecl.enc_eq (x:DDecl):x.enc=.agg [.s x.Name,.i x.Ty.Kind,.i x.Ty.Enum,.i x.Ty.Len,.s x.On,.s x.Ctor]:=rfl
theorem DDecl.enc_cells (x:DDecl):x.enc.cells=[.s x.Name,.i x.Ty.Kind,.i x.Ty.Enum,.i x.Ty.Len,.s x.On,.s x.Ctor]:=rfl
theorem DDecl.fold (x:DDecl):AV.agg [.s x.Name,.i x.Ty.Kind,.i x.Ty.Enum,.i x.Ty.Len,.s x.On,.s x.Ctor]=x.enc:=rfl
theorem DDecl.pure (x:DDecl):Pure x.enc:=by
 refine .agg _ ?_
 repeat' first|exact pure_nil|refine pure_cons ?_ ?_|exact .raw _|exact pure_strs _|exact pure_ints _|exact pure_u8s _|exact pure_ints2 _|exact pure_lst _
theorem DDecl.isAgg (x:DDecl):isAggAV x.enc=true:=rfl
theorem DDecl.pures (l:List DDecl):Pure (.lst 6 (l.map DDecl.enc) none):=pure_list DDecl.pure l
instance (x:DDecl):PureI x.enc:=⟨DDecl.pure x⟩
instance (l:List DDecl):PureI (.lst 6 (l.map DDecl.enc) none):=⟨DDecl.pures l⟩
structure DEq where
 Names:List ByteArray
 E:Ex
def DEq.enc (x:DEq):AV:=.agg [.lst 1 (x.Names.map AV.s) none,.i x.E.kind,.i x.E.n,.s x.E.name,.i x.E.op,.lst 1 (x.E.arms.map AV.s) none,.lst 6 (x.E.subs.map Ex.enc) none]
theorem DEq.enc_eq (x:DEq):x.enc=.agg [.lst 1 (x.Names.map AV.s) none,.i x.E.kind,.i x.E.n,.s x.E.name,.i x.E.op,.lst 1 (x.E.arms.map AV.s) none,.lst 6 (x.E.subs.map Ex.enc) none]:=rfl
theorem DEq.enc_cells (x:DEq):x.enc.cells=[.lst 1 (x.Names.map AV.s) none,.i x.E.kind,.i x.E.n,.s x.E.name,.i x.E.op,.lst 1 (x.E.arms.map AV.s) none,.lst 6 (x.E.subs.map Ex.enc) none]:=rfl
theorem DEq.fold (x:DEq):AV.agg [.lst 1 (x.Names.map AV.s) none,.i x.E.kind,.i x.E.n,.s x.E.name,.i x.E.op,.lst 1 (x.E.arms.map AV.s) none,.lst 6 (x.E.subs.map Ex.enc) none]=x.enc:=rfl
theorem DEq.pure (x:DEq):Pure x.enc:=by
 refine .agg _ ?_
 repeat' first|exact pure_nil|refine pure_cons ?_ ?_|exact .raw _|exact pure_strs _|exact pure_ints _|exact pure_u8s _|exact pure_ints2 _|exact pure_lst _
theorem DEq.isAgg (x:DEq):isAggAV x.enc=true:=rfl
theorem DEq.pures (l:List DEq):Pure (.lst 7 (l.map DEq.enc) none):=pure_list DEq.pure l
instance (x:DEq):PureI x.enc:=⟨DEq.pure x⟩
instance (l:List DEq):PureI (.lst 7 (l.map DEq.enc) none):=⟨DEq.pures l⟩
structure DNode where
 Name:ByteArray
 Ins:List DDecl
 Outs:List DDecl
 Vars:List DDecl
 Eqs:List DEq
def DNode.enc (x:DNode):AV:=.agg [.s x.Name,.lst 6 (x.Ins.map DDecl.enc) none,.lst 6 (x.Outs.map DDecl.enc) none,.lst 6 (x.Vars.map DDecl.enc) none,.lst 7 (x.Eqs.map DEq.enc) none]
theorem DNode.enc_eq (x:DNode):x.enc=.agg [.s x.Name,.lst 6 (x.Ins.map DDecl.enc) none,.lst 6 (x.Outs.map DDecl.enc) none,.lst 6 (x.Vars.map DDecl.enc) none,.lst 7 (x.Eqs.map DEq.enc) none]:=rfl
theorem DNode.enc_cells (x:DNode):x.enc.cells=[.s x.Name,.lst 6 (x.Ins.map DDecl.enc) none,.lst 6 (x.Outs.map DDecl.enc) none,.lst 6 (x.Vars.map DDecl.enc) none,.lst 7 (x.Eqs.map DEq.enc) none]:=rfl
theorem DNode.fold (x:DNode):AV.agg [.s x.Name,.lst 6 (x.Ins.map DDecl.enc) none,.lst 6 (x.Outs.map DDecl.enc) none,.lst 6 (x.Vars.map DDecl.enc) none,.lst 7 (x.Eqs.map DEq.enc) none]=x.enc:=rfl
theorem DNode.pure (x:DNode):Pure x.enc:=by
 refine .agg _ ?_
 repeat' first|exact pure_nil|refine pure_cons ?_ ?_|exact .raw _|exact pure_strs _|exact pure_ints _|exact pure_u8s _|exact pure_ints2 _|exact pure_lst _|exact pure_list DDecl.pure _|exact pure_list DEq.pure _
theorem DNode.isAgg (x:DNode):isAggAV x.enc=true:=rfl
theorem DNode.pures (l:List DNode):Pure (.lst 5 (l.map DNode.enc) none):=pure_list DNode.pure l
instance (x:DNode):PureI x.enc:=⟨DNode.pure x⟩
instance (l:List DNode):PureI (.lst 5 (l.map DNode.enc) none):=⟨DNode.pures l⟩
structure DProg where
 Enums:List DEnum
 Nodes:List DNode
def DProg.enc (x:DProg):AV:=.agg [.lst 2 (x.Enums.map DEnum.enc) none,.lst 5 (x.Nodes.map DNode.enc) none]
theorem DProg.enc_eq (x:DProg):x.enc=.agg [.lst 2 (x.Enums.map DEnum.enc) none,.lst 5 (x.Nodes.map DNode.enc) none]:=rfl
theorem DProg.enc_cells (x:DProg):x.enc.cells=[.lst 2 (x.Enums.map DEnum.enc) none,.lst 5 (x.Nodes.map DNode.enc) none]:=rfl
theorem DProg.fold (x:DProg):AV.agg [.lst 2 (x.Enums.map DEnum.enc) none,.lst 5 (x.Nodes.map DNode.enc) none]=x.enc:=rfl
theorem DProg.pure (x:DProg):Pure x.enc:=by
 refine .agg _ ?_
 repeat' first|exact pure_nil|refine pure_cons ?_ ?_|exact .raw _|exact pure_strs _|exact pure_ints _|exact pure_u8s _|exact pure_ints2 _|exact pure_lst _|exact pure_list DEnum.pure _|exact pure_list DNode.pure _
theorem DProg.isAgg (x:DProg):isAggAV x.enc=true:=rfl
theorem DProg.pures (l:List DProg):Pure (.lst 2 (l.map DProg.enc) none):=pure_list DProg.pure l
instance (x:DProg):PureI x.enc:=⟨DProg.pure x⟩
instance (l:List DProg):PureI (.lst 2 (l.map DProg.enc) none):=⟨DProg.pures l⟩
structure DCond where
 Var:ByteArray
 Val:Int
 deriving DecidableEq
def DCond.enc (x:DCond):AV:=.agg [.s x.Var,.i x.Val]
theorem DCond.enc_eq (x:DCond):x.enc=.agg [.s x.Var,.i x.Val]:=rfl
theorem DCond.enc_cells (x:DCond):x.enc.cells=[.s x.Var,.i x.Val]:=rfl
theorem DCond.fold (x:DCond):AV.agg [.s x.Var,.i x.Val]=x.enc:=rfl
theorem DCond.pure (x:DCond):Pure x.enc:=by
 refine .agg _ ?_
 repeat' first|exact pure_nil|refine pure_cons ?_ ?_|exact .raw _|exact pure_strs _|exact pure_ints _|exact pure_u8s _|exact pure_ints2 _|exact pure_lst _
theorem DCond.isAgg (x:DCond):isAggAV x.enc=true:=rfl
theorem DCond.pures (l:List DCond):Pure (.lst 2 (l.map DCond.enc) none):=pure_list DCond.pure l
instance (x:DCond):PureI x.enc:=⟨DCond.pure x⟩
instance (l:List DCond):PureI (.lst 2 (l.map DCond.enc) none):=⟨DCond.pures l⟩
structure DAtom where
 Var:ByteArray
 N:Int
 deriving DecidableEq
def DAtom.enc (x:DAtom):AV:=.agg [.s x.Var,.i x.N]
theorem DAtom.enc_eq (x:DAtom):x.enc=.agg [.s x.Var,.i x.N]:=rfl
theorem DAtom.enc_cells (x:DAtom):x.enc.cells=[.s x.Var,.i x.N]:=rfl
theorem DAtom.fold (x:DAtom):AV.agg [.s x.Var,.i x.N]=x.enc:=rfl
theorem DAtom.pure (x:DAtom):Pure x.enc:=by
 refine .agg _ ?_
 repeat' first|exact pure_nil|refine pure_cons ?_ ?_|exact .raw _|exact pure_strs _|exact pure_ints _|exact pure_u8s _|exact pure_ints2 _|exact pure_lst _
theorem DAtom.isAgg (x:DAtom):isAggAV x.enc=true:=rfl
theorem DAtom.pures (l:List DAtom):Pure (.lst 2 (l.map DAtom.enc) none):=pure_list DAtom.pure l
instance (x:DAtom):PureI x.enc:=⟨DAtom.pure x⟩
instance (l:List DAtom):PureI (.lst 2 (l.map DAtom.enc) none):=⟨DAtom.pures l⟩
structure DPlain where
 Kind:Int
 Names:List ByteArray
 Op:Int
 Args:List DAtom
 Init:List Int
 Node:Int
 Reset:Bool
 Every:DAtom
 On:List DCond
def DPlain.enc (x:DPlain):AV:=.agg [.i x.Kind,.lst 1 (x.Names.map AV.s) none,.i x.Op,.lst 2 (x.Args.map DAtom.enc) none,.lst 1 (x.Init.map AV.i) none,.i x.Node,.b x.Reset,.s x.Every.Var,.i x.Every.N,.lst 2 (x.On.map DCond.enc) none]
theorem DPlain.enc_eq (x:DPlain):x.enc=.agg [.i x.Kind,.lst 1 (x.Names.map AV.s) none,.i x.Op,.lst 2 (x.Args.map DAtom.enc) none,.lst 1 (x.Init.map AV.i) none,.i x.Node,.b x.Reset,.s x.Every.Var,.i x.Every.N,.lst 2 (x.On.map DCond.enc) none]:=rfl
theorem DPlain.enc_cells (x:DPlain):x.enc.cells=[.i x.Kind,.lst 1 (x.Names.map AV.s) none,.i x.Op,.lst 2 (x.Args.map DAtom.enc) none,.lst 1 (x.Init.map AV.i) none,.i x.Node,.b x.Reset,.s x.Every.Var,.i x.Every.N,.lst 2 (x.On.map DCond.enc) none]:=rfl
theorem DPlain.fold (x:DPlain):AV.agg [.i x.Kind,.lst 1 (x.Names.map AV.s) none,.i x.Op,.lst 2 (x.Args.map DAtom.enc) none,.lst 1 (x.Init.map AV.i) none,.i x.Node,.b x.Reset,.s x.Every.Var,.i x.Every.N,.lst 2 (x.On.map DCond.enc) none]=x.enc:=rfl
theorem DPlain.pure (x:DPlain):Pure x.enc:=by
 refine .agg _ ?_
 repeat' first|exact pure_nil|refine pure_cons ?_ ?_|exact .raw _|exact pure_strs _|exact pure_ints _|exact pure_u8s _|exact pure_ints2 _|exact pure_lst _|exact pure_list DCond.pure _|exact pure_list DAtom.pure _
theorem DPlain.isAgg (x:DPlain):isAggAV x.enc=true:=rfl
theorem DPlain.pures (l:List DPlain):Pure (.lst 10 (l.map DPlain.enc) none):=pure_list DPlain.pure l
instance (x:DPlain):PureI x.enc:=⟨DPlain.pure x⟩
instance (l:List DPlain):PureI (.lst 10 (l.map DPlain.enc) none):=⟨DPlain.pures l⟩
structure DVar where
 Name:ByteArray
 Ty:DTy
 On:List DCond
def DVar.enc (x:DVar):AV:=.agg [.s x.Name,.i x.Ty.Kind,.i x.Ty.Enum,.i x.Ty.Len,.lst 2 (x.On.map DCond.enc) none]
theorem DVar.enc_eq (x:DVar):x.enc=.agg [.s x.Name,.i x.Ty.Kind,.i x.Ty.Enum,.i x.Ty.Len,.lst 2 (x.On.map DCond.enc) none]:=rfl
theorem DVar.enc_cells (x:DVar):x.enc.cells=[.s x.Name,.i x.Ty.Kind,.i x.Ty.Enum,.i x.Ty.Len,.lst 2 (x.On.map DCond.enc) none]:=rfl
theorem DVar.fold (x:DVar):AV.agg [.s x.Name,.i x.Ty.Kind,.i x.Ty.Enum,.i x.Ty.Len,.lst 2 (x.On.map DCond.enc) none]=x.enc:=rfl
theorem DVar.pure (x:DVar):Pure x.enc:=by
 refine .agg _ ?_
 repeat' first|exact pure_nil|refine pure_cons ?_ ?_|exact .raw _|exact pure_strs _|exact pure_ints _|exact pure_u8s _|exact pure_ints2 _|exact pure_lst _|exact pure_list DCond.pure _
theorem DVar.isAgg (x:DVar):isAggAV x.enc=true:=rfl
theorem DVar.pures (l:List DVar):Pure (.lst 5 (l.map DVar.enc) none):=pure_list DVar.pure l
instance (x:DVar):PureI x.enc:=⟨DVar.pure x⟩
instance (l:List DVar):PureI (.lst 5 (l.map DVar.enc) none):=⟨DVar.pures l⟩
structure DFlow where
 Name:ByteArray
 Ins:List DVar
 Outs:List DVar
 Vars:List DVar
 Eqs:List DPlain
def DFlow.enc (x:DFlow):AV:=.agg [.s x.Name,.lst 5 (x.Ins.map DVar.enc) none,.lst 5 (x.Outs.map DVar.enc) none,.lst 5 (x.Vars.map DVar.enc) none,.lst 10 (x.Eqs.map DPlain.enc) none]
theorem DFlow.enc_eq (x:DFlow):x.enc=.agg [.s x.Name,.lst 5 (x.Ins.map DVar.enc) none,.lst 5 (x.Outs.map DVar.enc) none,.lst 5 (x.Vars.map DVar.enc) none,.lst 10 (x.Eqs.map DPlain.enc) none]:=rfl
theorem DFlow.enc_cells (x:DFlow):x.enc.cells=[.s x.Name,.lst 5 (x.Ins.map DVar.enc) none,.lst 5 (x.Outs.map DVar.enc) none,.lst 5 (x.Vars.map DVar.enc) none,.lst 10 (x.Eqs.map DPlain.enc) none]:=rfl
theorem DFlow.fold (x:DFlow):AV.agg [.s x.Name,.lst 5 (x.Ins.map DVar.enc) none,.lst 5 (x.Outs.map DVar.enc) none,.lst 5 (x.Vars.map DVar.enc) none,.lst 10 (x.Eqs.map DPlain.enc) none]=x.enc:=rfl
theorem DFlow.pure (x:DFlow):Pure x.enc:=by
 refine .agg _ ?_
 repeat' first|exact pure_nil|refine pure_cons ?_ ?_|exact .raw _|exact pure_strs _|exact pure_ints _|exact pure_u8s _|exact pure_ints2 _|exact pure_lst _|exact pure_list DPlain.pure _|exact pure_list DVar.pure _
theorem DFlow.isAgg (x:DFlow):isAggAV x.enc=true:=rfl
theorem DFlow.pures (l:List DFlow):Pure (.lst 5 (l.map DFlow.enc) none):=pure_list DFlow.pure l
instance (x:DFlow):PureI x.enc:=⟨DFlow.pure x⟩
instance (l:List DFlow):PureI (.lst 5 (l.map DFlow.enc) none):=⟨DFlow.pures l⟩
structure DFlows where
 Enums:List DEnum
 Flows:List DFlow
def DFlows.enc (x:DFlows):AV:=.agg [.lst 2 (x.Enums.map DEnum.enc) none,.lst 5 (x.Flows.map DFlow.enc) none]
theorem DFlows.enc_eq (x:DFlows):x.enc=.agg [.lst 2 (x.Enums.map DEnum.enc) none,.lst 5 (x.Flows.map DFlow.enc) none]:=rfl
theorem DFlows.enc_cells (x:DFlows):x.enc.cells=[.lst 2 (x.Enums.map DEnum.enc) none,.lst 5 (x.Flows.map DFlow.enc) none]:=rfl
theorem DFlows.fold (x:DFlows):AV.agg [.lst 2 (x.Enums.map DEnum.enc) none,.lst 5 (x.Flows.map DFlow.enc) none]=x.enc:=rfl
theorem DFlows.pure (x:DFlows):Pure x.enc:=by
 refine .agg _ ?_
 repeat' first|exact pure_nil|refine pure_cons ?_ ?_|exact .raw _|exact pure_strs _|exact pure_ints _|exact pure_u8s _|exact pure_ints2 _|exact pure_lst _|exact pure_list DEnum.pure _|exact pure_list DFlow.pure _
theorem DFlows.isAgg (x:DFlows):isAggAV x.enc=true:=rfl
theorem DFlows.pures (l:List DFlows):Pure (.lst 2 (l.map DFlows.enc) none):=pure_list DFlows.pure l
instance (x:DFlows):PureI x.enc:=⟨DFlows.pure x⟩
instance (l:List DFlows):PureI (.lst 2 (l.map DFlows.enc) none):=⟨DFlows.pures l⟩
structure DAsked where
 Name:ByteArray
 E:Ex
 On:List DCond
def DAsked.enc (x:DAsked):AV:=.agg [.s x.Name,.i x.E.kind,.i x.E.n,.s x.E.name,.i x.E.op,.lst 1 (x.E.arms.map AV.s) none,.lst 6 (x.E.subs.map Ex.enc) none,.lst 2 (x.On.map DCond.enc) none]
theorem DAsked.enc_eq (x:DAsked):x.enc=.agg [.s x.Name,.i x.E.kind,.i x.E.n,.s x.E.name,.i x.E.op,.lst 1 (x.E.arms.map AV.s) none,.lst 6 (x.E.subs.map Ex.enc) none,.lst 2 (x.On.map DCond.enc) none]:=rfl
theorem DAsked.enc_cells (x:DAsked):x.enc.cells=[.s x.Name,.i x.E.kind,.i x.E.n,.s x.E.name,.i x.E.op,.lst 1 (x.E.arms.map AV.s) none,.lst 6 (x.E.subs.map Ex.enc) none,.lst 2 (x.On.map DCond.enc) none]:=rfl
theorem DAsked.fold (x:DAsked):AV.agg [.s x.Name,.i x.E.kind,.i x.E.n,.s x.E.name,.i x.E.op,.lst 1 (x.E.arms.map AV.s) none,.lst 6 (x.E.subs.map Ex.enc) none,.lst 2 (x.On.map DCond.enc) none]=x.enc:=rfl
theorem DAsked.pure (x:DAsked):Pure x.enc:=by
 refine .agg _ ?_
 repeat' first|exact pure_nil|refine pure_cons ?_ ?_|exact .raw _|exact pure_strs _|exact pure_ints _|exact pure_u8s _|exact pure_ints2 _|exact pure_lst _|exact pure_list DCond.pure _
theorem DAsked.isAgg (x:DAsked):isAggAV x.enc=true:=rfl
theorem DAsked.pures (l:List DAsked):Pure (.lst 8 (l.map DAsked.enc) none):=pure_list DAsked.pure l
instance (x:DAsked):PureI x.enc:=⟨DAsked.pure x⟩
instance (l:List DAsked):PureI (.lst 8 (l.map DAsked.enc) none):=⟨DAsked.pures l⟩
structure DFault where
 Node:Int
 Eq:Int
 Err:Int
 deriving DecidableEq
def DFault.enc (x:DFault):AV:=.agg [.i x.Node,.i x.Eq,.i x.Err]
theorem DFault.enc_eq (x:DFault):x.enc=.agg [.i x.Node,.i x.Eq,.i x.Err]:=rfl
theorem DFault.enc_cells (x:DFault):x.enc.cells=[.i x.Node,.i x.Eq,.i x.Err]:=rfl
theorem DFault.fold (x:DFault):AV.agg [.i x.Node,.i x.Eq,.i x.Err]=x.enc:=rfl
theorem DFault.pure (x:DFault):Pure x.enc:=by
 refine .agg _ ?_
 repeat' first|exact pure_nil|refine pure_cons ?_ ?_|exact .raw _|exact pure_strs _|exact pure_ints _|exact pure_u8s _|exact pure_ints2 _|exact pure_lst _
theorem DFault.isAgg (x:DFault):isAggAV x.enc=true:=rfl
theorem DFault.pures (l:List DFault):Pure (.lst 3 (l.map DFault.enc) none):=pure_list DFault.pure l
instance (x:DFault):PureI x.enc:=⟨DFault.pure x⟩
instance (l:List DFault):PureI (.lst 3 (l.map DFault.enc) none):=⟨DFault.pures l⟩
structure DCell where
 Path:ByteArray
 Vals:List Int
def DCell.enc (x:DCell):AV:=.agg [.s x.Path,.lst 1 (x.Vals.map AV.i) none]
theorem DCell.enc_eq (x:DCell):x.enc=.agg [.s x.Path,.lst 1 (x.Vals.map AV.i) none]:=rfl
theorem DCell.enc_cells (x:DCell):x.enc.cells=[.s x.Path,.lst 1 (x.Vals.map AV.i) none]:=rfl
theorem DCell.fold (x:DCell):AV.agg [.s x.Path,.lst 1 (x.Vals.map AV.i) none]=x.enc:=rfl
theorem DCell.pure (x:DCell):Pure x.enc:=by
 refine .agg _ ?_
 repeat' first|exact pure_nil|refine pure_cons ?_ ?_|exact .raw _|exact pure_strs _|exact pure_ints _|exact pure_u8s _|exact pure_ints2 _|exact pure_lst _
theorem DCell.isAgg (x:DCell):isAggAV x.enc=true:=rfl
theorem DCell.pures (l:List DCell):Pure (.lst 2 (l.map DCell.enc) none):=pure_list DCell.pure l
instance (x:DCell):PureI x.enc:=⟨DCell.pure x⟩
instance (l:List DCell):PureI (.lst 2 (l.map DCell.enc) none):=⟨DCell.pures l⟩
structure DReply where
 Err:Int
 Outs:List (List Int)
 Cells:List DCell
def DReply.enc (x:DReply):AV:=.agg [.i x.Err,.lst 1 (x.Outs.map AV.il) none,.lst 2 (x.Cells.map DCell.enc) none]
theorem DReply.enc_eq (x:DReply):x.enc=.agg [.i x.Err,.lst 1 (x.Outs.map AV.il) none,.lst 2 (x.Cells.map DCell.enc) none]:=rfl
theorem DReply.enc_cells (x:DReply):x.enc.cells=[.i x.Err,.lst 1 (x.Outs.map AV.il) none,.lst 2 (x.Cells.map DCell.enc) none]:=rfl
theorem DReply.fold (x:DReply):AV.agg [.i x.Err,.lst 1 (x.Outs.map AV.il) none,.lst 2 (x.Cells.map DCell.enc) none]=x.enc:=rfl
theorem DReply.pure (x:DReply):Pure x.enc:=by
 refine .agg _ ?_
 repeat' first|exact pure_nil|refine pure_cons ?_ ?_|exact .raw _|exact pure_strs _|exact pure_ints _|exact pure_u8s _|exact pure_ints2 _|exact pure_lst _|exact pure_list DCell.pure _
theorem DReply.isAgg (x:DReply):isAggAV x.enc=true:=rfl
theorem DReply.pures (l:List DReply):Pure (.lst 3 (l.map DReply.enc) none):=pure_list DReply.pure l
instance (x:DReply):PureI x.enc:=⟨DReply.pure x⟩
instance (l:List DReply):PureI (.lst 3 (l.map DReply.enc) none):=⟨DReply.pures l⟩
structure DAsk where
 Text:ByteArray
 Bytes:Bool
 Image:List Int
 Moves:ByteArray
 Fuel:Int
def DAsk.enc (x:DAsk):AV:=.agg [.s x.Text,.b x.Bytes,.lst 1 (x.Image.map AV.u8) none,.s x.Moves,.i x.Fuel]
theorem DAsk.enc_eq (x:DAsk):x.enc=.agg [.s x.Text,.b x.Bytes,.lst 1 (x.Image.map AV.u8) none,.s x.Moves,.i x.Fuel]:=rfl
theorem DAsk.enc_cells (x:DAsk):x.enc.cells=[.s x.Text,.b x.Bytes,.lst 1 (x.Image.map AV.u8) none,.s x.Moves,.i x.Fuel]:=rfl
theorem DAsk.fold (x:DAsk):AV.agg [.s x.Text,.b x.Bytes,.lst 1 (x.Image.map AV.u8) none,.s x.Moves,.i x.Fuel]=x.enc:=rfl
theorem DAsk.pure (x:DAsk):Pure x.enc:=by
 refine .agg _ ?_
 repeat' first|exact pure_nil|refine pure_cons ?_ ?_|exact .raw _|exact pure_strs _|exact pure_ints _|exact pure_u8s _|exact pure_ints2 _|exact pure_lst _
theorem DAsk.isAgg (x:DAsk):isAggAV x.enc=true:=rfl
theorem DAsk.pures (l:List DAsk):Pure (.lst 5 (l.map DAsk.enc) none):=pure_list DAsk.pure l
instance (x:DAsk):PureI x.enc:=⟨DAsk.pure x⟩
instance (l:List DAsk):PureI (.lst 5 (l.map DAsk.enc) none):=⟨DAsk.pures l⟩
structure DOp where
 Kind:Int
 Ask:DAsk
 Ins:List (List Int)
 Fault:Int
def DOp.enc (x:DOp):AV:=.agg [.i x.Kind,.s x.Ask.Text,.b x.Ask.Bytes,.lst 1 (x.Ask.Image.map AV.u8) none,.s x.Ask.Moves,.i x.Ask.Fuel,.lst 1 (x.Ins.map AV.il) none,.i x.Fault]
theorem DOp.enc_eq (x:DOp):x.enc=.agg [.i x.Kind,.s x.Ask.Text,.b x.Ask.Bytes,.lst 1 (x.Ask.Image.map AV.u8) none,.s x.Ask.Moves,.i x.Ask.Fuel,.lst 1 (x.Ins.map AV.il) none,.i x.Fault]:=rfl
theorem DOp.enc_cells (x:DOp):x.enc.cells=[.i x.Kind,.s x.Ask.Text,.b x.Ask.Bytes,.lst 1 (x.Ask.Image.map AV.u8) none,.s x.Ask.Moves,.i x.Ask.Fuel,.lst 1 (x.Ins.map AV.il) none,.i x.Fault]:=rfl
theorem DOp.fold (x:DOp):AV.agg [.i x.Kind,.s x.Ask.Text,.b x.Ask.Bytes,.lst 1 (x.Ask.Image.map AV.u8) none,.s x.Ask.Moves,.i x.Ask.Fuel,.lst 1 (x.Ins.map AV.il) none,.i x.Fault]=x.enc:=rfl
theorem DOp.pure (x:DOp):Pure x.enc:=by
 refine .agg _ ?_
 repeat' first|exact pure_nil|refine pure_cons ?_ ?_|exact .raw _|exact pure_strs _|exact pure_ints _|exact pure_u8s _|exact pure_ints2 _|exact pure_lst _
theorem DOp.isAgg (x:DOp):isAggAV x.enc=true:=rfl
theorem DOp.pures (l:List DOp):Pure (.lst 8 (l.map DOp.enc) none):=pure_list DOp.pure l
instance (x:DOp):PureI x.enc:=⟨DOp.pure x⟩
instance (l:List DOp):PureI (.lst 8 (l.map DOp.enc) none):=⟨DOp.pures l⟩
abbrev I64 (n:Int):Prop := -9223372036854775808≤n∧n≤9223372036854775807
abbrev S47 (s:ByteArray):Prop:=s.size≤maxLen
mutual
def Ex.ok:Ex→Prop
 | .mk k n m o a s=>I64 k∧I64 n∧S47 m∧I64 o∧(∀ y∈a,S47 y)∧Ex.oks s
def Ex.oks:List Ex→Prop
 | []=>True
 | x::xs=>Ex.ok x∧Ex.oks xs
end
theorem oks_iff (l:List Ex):Ex.oks l↔∀ x∈l,x.ok:=by
 induction l with
 | nil=>simp[Ex.oks]
 | cons x l ih=>simp[Ex.oks,ih]
theorem Ex.ok_eq (e:Ex):e.ok↔(I64 e.kind∧I64 e.n∧S47 e.name∧I64 e.op∧(∀ y∈e.arms,S47 y)∧∀ x∈e.subs,x.ok):=by
 cases e;simp[Ex.ok,oks_iff,Ex.kind,Ex.n,Ex.name,Ex.op,Ex.arms,Ex.subs]
def DTy.ok (x:DTy):Prop:=I64 x.Kind∧I64 x.Enum∧I64 x.Len
def DEnum.ok (x:DEnum):Prop:=S47 x.Name∧(∀ y∈x.Ctors,S47 y)
def DDecl.ok (x:DDecl):Prop:=S47 x.Name∧x.Ty.ok∧S47 x.On∧S47 x.Ctor
def DEq.ok (x:DEq):Prop:=(∀ y∈x.Names,S47 y)∧x.E.ok
def DNode.ok (x:DNode):Prop:=S47 x.Name∧(∀ y∈x.Ins,y.ok)∧(∀ y∈x.Outs,y.ok)∧(∀ y∈x.Vars,y.ok)∧(∀ y∈x.Eqs,y.ok)
def DProg.ok (x:DProg):Prop:=(∀ y∈x.Enums,y.ok)∧(∀ y∈x.Nodes,y.ok)
def DCond.ok (x:DCond):Prop:=S47 x.Var∧I64 x.Val
def DAtom.ok (x:DAtom):Prop:=S47 x.Var∧I64 x.N
def DPlain.ok (x:DPlain):Prop:=I64 x.Kind∧(∀ y∈x.Names,S47 y)∧I64 x.Op∧(∀ y∈x.Args,y.ok)∧(∀ y∈x.Init,I64 y)∧I64 x.Node∧x.Every.ok∧(∀ y∈x.On,y.ok)
def DVar.ok (x:DVar):Prop:=S47 x.Name∧x.Ty.ok∧(∀ y∈x.On,y.ok)
def DFlow.ok (x:DFlow):Prop:=S47 x.Name∧(∀ y∈x.Ins,y.ok)∧(∀ y∈x.Outs,y.ok)∧(∀ y∈x.Vars,y.ok)∧(∀ y∈x.Eqs,y.ok)
def DFlows.ok (x:DFlows):Prop:=(∀ y∈x.Enums,y.ok)∧(∀ y∈x.Flows,y.ok)
def DAsked.ok (x:DAsked):Prop:=S47 x.Name∧x.E.ok∧(∀ y∈x.On,y.ok)
def DFault.ok (x:DFault):Prop:=I64 x.Node∧I64 x.Eq∧I64 x.Err
def DCell.ok (x:DCell):Prop:=S47 x.Path∧(∀ y∈x.Vals,I64 y)
def DReply.ok (x:DReply):Prop:=I64 x.Err∧(∀ z∈x.Outs,∀ y∈z,I64 y)∧(∀ y∈x.Cells,y.ok)
def DAsk.ok (x:DAsk):Prop:=S47 x.Text∧(∀ y∈x.Image,0≤y∧y≤255)∧S47 x.Moves∧I64 x.Fuel
def DOp.ok (x:DOp):Prop:=I64 x.Kind∧x.Ask.ok∧(∀ z∈x.Ins,∀ y∈z,I64 y)∧I64 x.Fault
attribute [go_sem] DTy.fold DTy.enc_cells DTy.isAgg DEnum.fold DEnum.enc_cells DEnum.isAgg DDecl.fold DDecl.enc_cells DDecl.isAgg DEq.fold DEq.enc_cells DEq.isAgg DNode.fold DNode.enc_cells DNode.isAgg DProg.fold DProg.enc_cells DProg.isAgg DCond.fold DCond.enc_cells DCond.isAgg DAtom.fold DAtom.enc_cells DAtom.isAgg DPlain.fold DPlain.enc_cells DPlain.isAgg DVar.fold DVar.enc_cells DVar.isAgg DFlow.fold DFlow.enc_cells DFlow.isAgg DFlows.fold DFlows.enc_cells DFlows.isAgg DAsked.fold DAsked.enc_cells DAsked.isAgg DFault.fold DFault.enc_cells DFault.isAgg DCell.fold DCell.enc_cells DCell.isAgg DReply.fold DReply.enc_cells DReply.isAgg DAsk.fold DAsk.enc_cells DAsk.isAgg DOp.fold DOp.enc_cells DOp.isAgg
attribute [irreducible] DTy.enc DEnum.enc DDecl.enc DEq.enc DNode.enc DProg.enc DCond.enc DAtom.enc DPlain.enc DVar.enc DFlow.enc DFlows.enc DAsked.enc DFault.enc DCell.enc DReply.enc DAsk.enc DOp.enc
end Go.Abs
namespace Go.Abs
open Go.RowKit
def idxOf {α:Type} (p:α→Bool) (l:List α):Int :=
 match l.findIdx? p with
 | some i=>(i:Nat)
 | none => -1
theorem idxOf_at {α:Type} {p:α→Bool} {l:List α} {i:Nat} {x:α} (h0:∀ y∈l.take i,p y=false) (hx:l[((i:Int)).toNat]?=some x) (hp:p x=true):idxOf p l=(i:Int):=by
 rw[Int.toNat_natCast] at hx
 have:l.findIdx? p=some i:=by
  rw[List.findIdx?_eq_some_iff_getElem]
  obtain⟨hi,rfl⟩:=List.getElem?_eq_some_iff.1 hx
  refine⟨hi,hp,fun j hj=>?_⟩
  have:=h0 l[j] (List.mem_take_iff_getElem.2 ⟨j,by omega,rfl⟩)
  simp[this]
 simp[idxOf,this]
theorem idxOf_none {α:Type} {p:α→Bool} {l:List α} (h0:∀ y∈l,p y=false):idxOf p l = -1:=by
 have:l.findIdx? p=none:=by
  rw[List.findIdx?_eq_none_iff]
  exact h0
 simp[idxOf,this]
theorem idxOf_cases {α:Type} (p:α→Bool) (l:List α):(idxOf p l = -1∧l.find? p=none)∨∃(i:Nat) (x:α),idxOf p l=(i:Int)∧l[i]?=some x∧l.find? p=some x∧p x=true∧i<l.length:=by
 cases h:l.findIdx? p with
 | none =>
  left
  refine⟨by simp[idxOf,h],?_⟩
  rw[List.findIdx?_eq_none_iff] at h
  rw[List.find?_eq_none]
  intro x hx
  simp[h x hx]
 | some i =>
  right
  have h0:=h
  rw[List.findIdx?_eq_some_iff_getElem] at h
  obtain⟨hi,hp,hn⟩:=h
  refine⟨i,l[i],by simp[idxOf,h0],List.getElem?_eq_getElem hi,?_,hp,hi⟩
  rw[List.find?_eq_some_iff_getElem]
  exact⟨hp,i,hi,rfl,fun j hj=>by simpa using hn j hj⟩
theorem take_flatten_le {α:Type} (ls:List (List α)) (i:Nat):(ls.take i).flatten.length≤ls.flatten.length:=by
 have h:ls.flatten.length=(ls.take i++ls.drop i).flatten.length:=by rw[List.take_append_drop]
 rw[List.flatten_append,List.length_append] at h
 omega
end Go.Abs
namespace Go.Abs
abbrev bts (t:ByteArray):List UInt8:=t.data.toList
theorem bts_len (t:ByteArray):(bts t).length=t.size:=by
 show t.data.toList.length=t.data.size
 rw[Array.length_toList]
theorem bts_inj {s t:ByteArray} (h:bts s=bts t):s=t:=by
 cases s;cases t
 simp only[bts] at h
 congr 1
 exact Array.ext' h
def inB (a b c:Int):Bool:=decide (a≤c)&&decide (c≤b)
def okB (c:Int):Bool:=inB 97 122 c || inB 65 90 c || inB 48 57 c || decide (c=95)
def firstB (F:Int→Bool):List UInt8→Bool
 | []=>false
 | c::_=>F c.toNat
def nameG (F:Int→Bool) (t:ByteArray):Bool:=decide (1≤t.size)&&decide (t.size≤12)&&firstB F (bts t)&&(bts t).all fun c=>okB c.toNat
def firstNo0:List UInt8→Bool
 | []=>true
 | c::_=>!decide (c.toNat=48)
def numG (t:ByteArray):Bool:=decide (1≤t.size)&&decide (t.size≤3)&&firstNo0 (bts t)&&(bts t).all fun c=>inB 48 57 c.toNat
theorem decode_lo {s:ByteArray} {p:Nat} {c:UInt8} (hc:(bts s)[p]?=some c) (hlo:c.toNat<128):Utf8.decode s p=(c.toNat,1):=by
 obtain⟨h,he⟩:=List.getElem?_eq_some_iff.1 hc
 have hp:p<s.size:=by rw[bts_len] at h;exact h
 have e:s[p]'hp=c:=by rw[← he];rfl
 rw[decode_ascii s p hp (by rw[e];exact hlo),e]
theorem decode_hi {s:ByteArray} {p:Nat} {c:UInt8} (hc:(bts s)[p]?=some c) (hhi:128≤c.toNat):128≤(Utf8.decode s p).1:=by
 obtain⟨h,he⟩:=List.getElem?_eq_some_iff.1 hc
 have hp:p<s.size:=by rw[bts_len] at h;exact h
 have e:(s.get! (p+0)).toNat=c.toNat:=by
  have:s.get! (p+0)=s[p]'hp:=by
   show s.get! p=_
   simp[ByteArray.get!,getElem!_pos,hp]
   rfl
  rw[this,← he];rfl
 unfold Utf8.decode
 simp only[e,Utf8.runeError]
 rw[if_neg (by omega)]
 repeat' split
 all_goals (first|(simp_all;done)|(simp_all;omega)|(dsimp only;omega))
def splitL (c:UInt8):List UInt8→List (List UInt8)
 | []=>[[]]
 | x::xs=>if x=c then []::splitL c xs else match splitL c xs with
  | []=>[[x]]
  | y::ys=>(x::y)::ys
theorem splitL_ne (c:UInt8) (l:List UInt8):splitL c l≠[]:=by
 cases l with
 | nil=>simp[splitL]
 | cons x l =>
  rw[splitL]
  split
  ·
   simp
  ·
   split<;>simp
theorem splitL_no {c:UInt8}:∀ {a:List UInt8},c ∉ a→splitL c a=[a]
 | [],_=>rfl
 | x::a,h=>by
  rw[splitL,if_neg (fun e=>h (by simp[e])),splitL_no (fun hm=>h (by simp[hm]))]
theorem splitL_at {c:UInt8}:∀ {a:List UInt8} (b:List UInt8),c ∉ a→splitL c (a++c::b)=a::splitL c b
 | [],b,_=>by rw[List.nil_append,splitL,if_pos rfl]
 | x::a,b,h=>by
  rw[List.cons_append,splitL,if_neg (fun e=>h (by simp[e])),splitL_at b (fun hm=>h (by simp[hm]))]
theorem splitL_len {c:UInt8}:∀(a:List UInt8),(splitL c a).length=a.count c+1
 | []=>rfl
 | x::a=>by
  rw[splitL,List.count_cons]
  have ih:=splitL_len (c:=c) a
  split
  ·
   rename_i h
   simp[h,ih]
  ·
   rename_i h
   cases hs:splitL c a with
   | nil=>exact absurd hs (splitL_ne c a)
   | cons y ys =>
    rw[hs] at ih
    simp at ih ⊢
    simp[h,ih]
def pieces (c:UInt8) (t:ByteArray):List ByteArray:=(splitL c (bts t)).map fun l=>⟨l.toArray⟩
theorem pieces_ne (c:UInt8) (t:ByteArray):pieces c t≠[]:=by
 unfold pieces
 intro h
 exact splitL_ne c _ (List.map_eq_nil_iff.1 h)
def words:List ByteArray:=[⟨#[110,111,100,101]⟩,⟨#[114,101,116,117,114,110,115]⟩,⟨#[118,97,114]⟩,⟨#[108,101,116]⟩,⟨#[116,101,108]⟩,⟨#[101,110,117,109]⟩,⟨#[105,102]⟩,⟨#[116,104,101,110]⟩,⟨#[101,108,115,101]⟩,⟨#[102,98,121]⟩,⟨#[112,114,101]⟩,⟨#[119,104,101,110]⟩,⟨#[109,101,114,103,101]⟩,⟨#[101,118,101,114,121]⟩,⟨#[110,111,116]⟩,⟨#[97,110,100]⟩,⟨#[111,114]⟩,⟨#[120,111,114]⟩,⟨#[109,111,100]⟩,⟨#[116,114,117,101]⟩,⟨#[102,97,108,115,101]⟩,⟨#[105,110,116]⟩,⟨#[98,111,111,108]⟩,⟨#[119,105,116,104]⟩]
def wordF (t:ByteArray):Bool:=words.any fun w=>decide (t=w)
def lowF (t:ByteArray):Bool:=nameG (inB 97 122) t&&!wordF t
def highF (t:ByteArray):Bool:=nameG (inB 65 90) t
def partF (t:ByteArray):Bool:=match pieces 46 t with
 | [p]=>lowF p
 | [p,q]=>lowF p&&numG q
 | _=>false
def pathF (t:ByteArray):Bool:=(pieces 47 t).all partF
end Go.Abs
namespace Go.Abs
theorem raw_vals {S:Addr→Prop} {w:World} {φ:Nat→Loc} {vals:List Value} {vs:Array Value} (h:CAll S w φ (vals.map AV.raw) vs):vs=vals.toArray:=by
 apply Array.ext'
 apply List.ext_getElem?
 intro i
 rw[Array.getElem?_toList,List.toList_toArray]
 cases hv:vals[i]? with
 | none =>
  have:vals.length≤i:=List.getElem?_eq_none_iff.1 hv
  rw[Array.getElem?_eq_none_iff]
  have:=h.1
  simp at this
  omega
 | some v =>
  obtain⟨u,hu,hc⟩:=h.at (i:=i) (a:=.raw v) (by simp[hv])
  cases hc
  exact hu
theorem pcall_raw {P:Program} {f:FuncId} {vals:List Value} {v:Value} (hent:∀ vs w,(callFunc f vs).run P w=.ok (.enter f vs) w) (hc:∀ w,Calls P f vals.toArray w fun e w'=>e=.returned v∧w'=w):PCall P f (vals.map AV.raw) (.raw v):=by
 refine⟨fun x hx=>by obtain⟨y,_,rfl⟩:=List.mem_map.1 hx;exact .raw _,.raw _,fun S w vs hb ht hargs=>?_⟩
 have:=raw_vals hargs
 subst this
 refine⟨hent _ _,Calls.mono (hc w) ?_⟩
 rintro e w' ⟨rfl,rfl⟩
 exact⟨v,S,rfl,.raw _,R.nil hb ht,Ext.refl _ _ _ _⟩
end Go.Abs
namespace Go.Abs
open Go
theorem bts_extract (t:ByteArray) (i j:Nat):bts (t.extract i j)=((bts t).take j).drop i:=by
 simp only[bts,ByteArray.data_extract,Array.toList_extract,List.extract_eq_take_drop]
 rw[List.drop_take]
theorem of_bts (t:ByteArray):(⟨(bts t).toArray⟩:ByteArray)=t:=by cases t;simp[bts]
theorem idx_no {c:UInt8}:∀ {l:List UInt8},c ∉ l→Lib.indexByte l c = -1
 | [],_=>rfl
 | b::l,h=>by
  have h1:(b==c)=false:=by simp;exact fun e=>h (by simp[e])
  have h2:=idx_no (l:=l) (c:=c) fun hm=>h (by simp[hm])
  rw[Lib.indexByte,h1,h2];rfl
theorem idx_at {c:UInt8}:∀ {l:List UInt8},c∈l→∃ m:Nat,Lib.indexByte l c=m∧m<l.length∧l=l.take m++c::l.drop (m+1)∧c ∉ l.take m
 | [],h=>by simp at h
 | b::l,h=>by
  by_cases hb:b=c
  ·
   exact⟨0,by simp[Lib.indexByte,hb],by simp,by simp[hb],by simp⟩
  ·
   have hm:c∈l:=by
    rcases List.mem_cons.1 h with e|e
    ·
     exact absurd e.symm hb
    ·
     exact e
   obtain⟨m,h1,h2,h3,h4⟩:=idx_at hm
   refine⟨m+1,?_,by simp;omega,?_,?_⟩
   ·
    have h0:(b==c)=false:=by simpa using hb
    have hne:((m:Int) == -1)=false:=by first|(simp;done)|(simp;omega)
    rw[Lib.indexByte,h0,h1,hne]
    simp
   ·
    simp only[List.take_succ_cons,List.drop_succ_cons,List.cons_append]
    rw[← h3]
   ·
    simp only[List.take_succ_cons,List.mem_cons,not_or]
    exact⟨fun e=>hb e.symm,h4⟩
theorem pieces_no {c:UInt8} {t:ByteArray} (h:c ∉ bts t):pieces c t=[t]:=by
 unfold pieces
 rw[splitL_no h]
 simp
theorem pieces_at {c:UInt8} {t:ByteArray} {m:Nat} (_hm:m<(bts t).length) (h3:bts t=(bts t).take m++c::(bts t).drop (m+1)) (h4:c ∉ (bts t).take m) :
  pieces c t=t.extract 0 m::pieces c (t.extract (m+1) t.size):=by
 unfold pieces
 have e1:bts (t.extract 0 m)=(bts t).take m:=by rw[bts_extract];simp
 have e2:bts (t.extract (m+1) t.size)=(bts t).drop (m+1):=by rw[bts_extract,List.take_of_length_le (by rw[bts_len];exact Nat.le_refl _)]
 rw[e2]
 conv=>lhs;rw[h3]
 rw[splitL_at _ h4,List.map_cons,← e1,of_bts]
theorem pieces_len (c:UInt8) (t:ByteArray):(pieces c t).length=(bts t).count c+1:=by
 unfold pieces
 rw[List.length_map,splitL_len]
theorem splitL_le {c:UInt8}:∀ {l p:List UInt8},p∈splitL c l→p.length≤l.length
 | [],p,h=>by simp[splitL] at h;simp[h]
 | x::l,p,h=>by
  rw[splitL] at h
  split at h
  ·
   rcases List.mem_cons.1 h with e|e
   ·
    simp[e]
   ·
    have:=splitL_le e;simp;omega
  ·
   cases hs:splitL c l with
   | nil=>exact absurd hs (splitL_ne c l)
   | cons y ys =>
    rw[hs] at h
    rcases List.mem_cons.1 h with e|e
    ·
     have:=splitL_le (c:=c) (l:=l) (p:=y) (by rw[hs];simp)
     rw[e];simp;omega
    ·
     have:=splitL_le (c:=c) (l:=l) (p:=p) (by rw[hs];simp[e])
     simp;omega
theorem pieces_le {c:UInt8} {t p:ByteArray} (h:p∈pieces c t):p.size≤t.size:=by
 obtain⟨l,hl,rfl⟩:=List.mem_map.1 h
 have:=splitL_le hl
 rw[bts_len] at this
 have e:(⟨l.toArray⟩:ByteArray).size=l.length:=by show l.toArray.size=_;rw[List.size_toArray]
 rw[e];exact this
theorem numG_no {t:ByteArray} (h:(46:UInt8)∈bts t):numG t=false:=by
 unfold numG
 have:((bts t).all fun c=>inB 48 57 c.toNat)=false:=by
  rw[List.all_eq_false]
  exact⟨46,h,by decide⟩
 rw[this];simp
theorem partF_no {t:ByteArray} (h:(46:UInt8) ∉ bts t):partF t=lowF t:=by
 unfold partF
 rw[pieces_no h]
theorem partF_at {t:ByteArray} {m:Nat} (hm:m<(bts t).length) (h3:bts t=(bts t).take m++46::(bts t).drop (m+1)) (h4:(46:UInt8) ∉ (bts t).take m) :
  partF t=(lowF (t.extract 0 m)&&numG (t.extract (m+1) t.size)):=by
 unfold partF
 rw[pieces_at hm h3 h4]
 by_cases h:(46:UInt8)∈bts (t.extract (m+1) t.size)
 ·
  rw[numG_no h]
  have hl:=pieces_len 46 (t.extract (m+1) t.size)
  have hc:0<(bts (t.extract (m+1) t.size)).count 46:=List.count_pos_iff.2 h
  cases hp:pieces 46 (t.extract (m+1) t.size) with
  | nil=>rw[hp] at hl;simp at hl
  | cons x l =>
   cases l with
   | nil=>rw[hp,List.length_singleton] at hl;omega
   | cons y l=>simp
 ·
  rw[pieces_no h]
end Go.Abs
namespace Go.Abs
theorem bts_from (t:ByteArray) (f:Nat):bts (t.extract f t.size)=(bts t).drop f:=by
 rw[bts_extract,List.take_of_length_le (by rw[bts_len];exact Nat.le_refl _)]
theorem pieces_step {c:UInt8} {t:ByteArray} {f i:Nat} (hf:f≤i) (hc:(bts t)[i]?=some c) (hno:c ∉ ((bts t).take i).drop f) :
  pieces c (t.extract f t.size)=t.extract f i::pieces c (t.extract (i+1) t.size):=by
 obtain⟨hi,he⟩:=List.getElem?_eq_some_iff.1 hc
 have hb:=bts_from t f
 have h4:((bts t).drop f).take (i-f)=((bts t).take i).drop f:=by rw[List.drop_take]
 have hm:i-f<(bts (t.extract f t.size)).length:=by rw[hb,List.length_drop];omega
 have h3:bts (t.extract f t.size)=(bts (t.extract f t.size)).take (i-f)++c::(bts (t.extract f t.size)).drop (i-f+1):=by
  rw[hb,List.drop_drop,show f+(i-f+1)=i+1 by omega]
  have:(bts t).drop i=c::(bts t).drop (i+1):=by rw[List.drop_eq_getElem_cons hi,he]
  conv=>lhs;rw[← List.take_append_drop (i-f) ((bts t).drop f)]
  rw[List.drop_drop,show f+(i-f)=i by omega,this]
 rw[pieces_at hm h3 (by rw[hb,h4];exact hno)]
 have e1:(t.extract f t.size).extract 0 (i-f)=t.extract f i:=by
  apply bts_inj
  rw[bts_extract,hb,bts_extract,h4]
  simp
 have e2:(t.extract f t.size).extract (i-f+1) (t.extract f t.size).size=t.extract (i+1) t.size:=by
  apply bts_inj
  rw[bts_from,hb,bts_from,List.drop_drop,show f+(i-f+1)=i+1 by omega]
 rw[e1,e2]
theorem pieces_last {c:UInt8} {t:ByteArray} {f:Nat} (hno:c ∉ ((bts t).take t.size).drop f):pieces c (t.extract f t.size)=[t.extract f t.size]:=by
 apply pieces_no
 rw[bts_from]
 rwa[List.take_of_length_le (by rw[bts_len];exact Nat.le_refl _)] at hno
theorem no_next {c x:UInt8} {t:ByteArray} {f i:Nat} (hf:f≤i) (hx:(bts t)[i]?=some x) (hne:¬ x=c) (hno:c ∉ ((bts t).take i).drop f):c ∉ ((bts t).take (i+1)).drop f:=by
 obtain⟨hi,he⟩:=List.getElem?_eq_some_iff.1 hx
 rw[List.take_succ_eq_append_getElem hi,List.drop_append_of_le_length (by rw[List.length_take];omega),he]
 intro hm
 rcases List.mem_append.1 hm with q|q
 ·
  exact hno q
 ·
  simp at q;exact hne q.symm
end Go.Abs
namespace Go.Abs
open Go.RowKit
end Go.Abs
namespace Go.Proofs.YtpamokpmlplopaaGreatDoor
open Go.Abs
set_option maxRecDepth 20000
set_option linter.unusedSimpArgs false
set_option linter.unusedVariables false
set_option maxHeartbeats 1000000
attribute [local irreducible] vc vcOps vcStep vcGuard prK hrK gK gsK brK callK ElemK SeqK BlockK ScopeK OpsK CallK LoopK LoopGo finPost ACall PCall PCallE BCall vqOps vqStep vqGuard qrK heK pcK gqK gqsK QOpsK qcallK DrawK
def digB (n:Int):ByteArray:=⟨(Lib.itoa n).toArray⟩
end Go.Proofs.YtpamokpmlplopaaGreatDoor
