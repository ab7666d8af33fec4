/-
  The abstract layer, part Y: the program's plain data as Lean structures, told as abstract values. Written by program (gen_data.py).
-/
import Derived.Test.YtipcmpkihhfhcaaDoorAbsX
namespace Go.Abs
open Go.RowKit

abbrev AV.u8 (n : Int) : AV := .raw (.int .u8 n)
abbrev AV.il (l : List Int) : AV := .lst 1 (l.map AV.i) none

theorem flat_of {α : Type} {f : α → AV} (h : ∀ x, (f x).cells = [f x]) (l : List α) : flat (l.map f) = l.map f := by
  induction l with
  | nil => rfl
  | cons x l ih => simp only [flat, List.map_cons, List.flatMap_cons] at ih ⊢; rw [ih, h]; rfl
theorem pure_ints (l : List Int) : Pure (.lst 1 (l.map AV.i) none) := by
  refine .lst _ _ fun c hc => ?_
  rw [flat_of (fun _ => rfl)] at hc
  obtain ⟨x, _, rfl⟩ := List.mem_map.1 hc
  exact .raw _
theorem pure_u8s (l : List Int) : Pure (.lst 1 (l.map AV.u8) none) := by
  refine .lst _ _ fun c hc => ?_
  rw [flat_of (fun _ => rfl)] at hc
  obtain ⟨x, _, rfl⟩ := List.mem_map.1 hc
  exact .raw _
theorem pure_ints2 (l : List (List Int)) : Pure (.lst 1 (l.map AV.il) none) := by
  refine .lst _ _ fun c hc => ?_
  rw [flat_of (fun _ => rfl)] at hc
  obtain ⟨x, _, rfl⟩ := List.mem_map.1 hc
  exact pure_ints x
theorem Pure.cell {a : AV} (h : Pure a) (ht : ∀ cs, a = .agg cs → ∀ c ∈ cs, Pure c) : ∀ c ∈ a.cells, Pure c := by
  intro c hc
  cases a with
  | agg cs => exact ht cs rfl c hc
  | raw v =>
    cases v with
    | agg vs => simp only [AV.cells, List.mem_map] at hc; obtain ⟨x, _, rfl⟩ := hc; exact .raw _
    | _ => simp only [AV.cells, List.mem_singleton] at hc; subst hc; exact h
  | _ => simp only [AV.cells, List.mem_singleton] at hc; subst hc; exact h
theorem Pure.cells {a : AV} (h : Pure a) : ∀ c ∈ a.cells, Pure c := h.cell fun cs e => by
  subst e
  cases h with
  | agg _ h => exact h
theorem pure_list {α : Type} {f : α → AV} {sz : Nat} (h : ∀ x, Pure (f x)) (l : List α) : Pure (.lst sz (l.map f) none) := by
  refine .lst _ _ fun c hc => ?_
  simp only [flat, List.mem_flatMap] at hc
  obtain ⟨a, ha, hc⟩ := hc
  obtain ⟨x, _, rfl⟩ := List.mem_map.1 ha
  exact (h x).cells c hc

structure DTy where
  Kind : Int
  Enum : Int
  Len : Int
  deriving DecidableEq

def DTy.enc (x : DTy) : AV := .agg [.i x.Kind, .i x.Enum, .i x.Len]
theorem DTy.enc_eq (x : DTy) : x.enc = .agg [.i x.Kind, .i x.Enum, .i x.Len] := rfl
theorem DTy.enc_cells (x : DTy) : x.enc.cells = [.i x.Kind, .i x.Enum, .i x.Len] := rfl
theorem DTy.fold (x : DTy) : AV.agg [.i x.Kind, .i x.Enum, .i x.Len] = x.enc := rfl
theorem DTy.pure (x : DTy) : Pure x.enc := by
  refine .agg _ ?_
  repeat' first | exact pure_nil | refine pure_cons ?_ ?_ | exact .raw _ | exact pure_strs _ | exact pure_ints _ | exact pure_u8s _ | exact pure_ints2 _ | exact pure_lst _
theorem DTy.isAgg (x : DTy) : isAggAV x.enc = true := rfl
theorem DTy.pures (l : List DTy) : Pure (.lst 3 (l.map DTy.enc) none) := pure_list DTy.pure l

structure DEnum where
  Name : ByteArray
  Ctors : List ByteArray

def DEnum.enc (x : DEnum) : AV := .agg [.s x.Name, .lst 1 (x.Ctors.map AV.s) none]
theorem DEnum.enc_eq (x : DEnum) : x.enc = .agg [.s x.Name, .lst 1 (x.Ctors.map AV.s) none] := rfl
theorem DEnum.enc_cells (x : DEnum) : x.enc.cells = [.s x.Name, .lst 1 (x.Ctors.map AV.s) none] := rfl
theorem DEnum.fold (x : DEnum) : AV.agg [.s x.Name, .lst 1 (x.Ctors.map AV.s) none] = x.enc := rfl
theorem DEnum.pure (x : DEnum) : Pure x.enc := by
  refine .agg _ ?_
  repeat' first | exact pure_nil | refine pure_cons ?_ ?_ | exact .raw _ | exact pure_strs _ | exact pure_ints _ | exact pure_u8s _ | exact pure_ints2 _ | exact pure_lst _
theorem DEnum.isAgg (x : DEnum) : isAggAV x.enc = true := rfl
theorem DEnum.pures (l : List DEnum) : Pure (.lst 2 (l.map DEnum.enc) none) := pure_list DEnum.pure l

structure DDecl where
  Name : ByteArray
  Ty : DTy
  On : ByteArray
  Ctor : ByteArray
  deriving DecidableEq

def DDecl.enc (x : DDecl) : AV := .agg [.s x.Name, .i x.Ty.Kind, .i x.Ty.Enum, .i x.Ty.Len, .s x.On, .s x.Ctor]
theorem DDecl.enc_eq (x : DDecl) : x.enc = .agg [.s x.Name, .i x.Ty.Kind, .i x.Ty.Enum, .i x.Ty.Len, .s x.On, .s x.Ctor] := rfl
theorem DDecl.enc_cells (x : DDecl) : x.enc.cells = [.s x.Name, .i x.Ty.Kind, .i x.Ty.Enum, .i x.Ty.Len, .s x.On, .s x.Ctor] := rfl
theorem DDecl.fold (x : DDecl) : AV.agg [.s x.Name, .i x.Ty.Kind, .i x.Ty.Enum, .i x.Ty.Len, .s x.On, .s x.Ctor] = x.enc := rfl
theorem DDecl.pure (x : DDecl) : Pure x.enc := by
  refine .agg _ ?_
  repeat' first | exact pure_nil | refine pure_cons ?_ ?_ | exact .raw _ | exact pure_strs _ | exact pure_ints _ | exact pure_u8s _ | exact pure_ints2 _ | exact pure_lst _
theorem DDecl.isAgg (x : DDecl) : isAggAV x.enc = true := rfl
theorem DDecl.pures (l : List DDecl) : Pure (.lst 6 (l.map DDecl.enc) none) := pure_list DDecl.pure l

structure DEq where
  Names : List ByteArray
  E : Ex

def DEq.enc (x : DEq) : AV := .agg [.lst 1 (x.Names.map AV.s) none, .i x.E.kind, .i x.E.n, .s x.E.name, .i x.E.op, .lst 1 (x.E.arms.map AV.s) none, .lst 6 (x.E.subs.map Ex.enc) none]
theorem DEq.enc_eq (x : DEq) : x.enc = .agg [.lst 1 (x.Names.map AV.s) none, .i x.E.kind, .i x.E.n, .s x.E.name, .i x.E.op, .lst 1 (x.E.arms.map AV.s) none, .lst 6 (x.E.subs.map Ex.enc) none] := rfl
theorem DEq.enc_cells (x : DEq) : x.enc.cells = [.lst 1 (x.Names.map AV.s) none, .i x.E.kind, .i x.E.n, .s x.E.name, .i x.E.op, .lst 1 (x.E.arms.map AV.s) none, .lst 6 (x.E.subs.map Ex.enc) none] := rfl
theorem DEq.fold (x : DEq) : AV.agg [.lst 1 (x.Names.map AV.s) none, .i x.E.kind, .i x.E.n, .s x.E.name, .i x.E.op, .lst 1 (x.E.arms.map AV.s) none, .lst 6 (x.E.subs.map Ex.enc) none] = x.enc := rfl
theorem DEq.pure (x : DEq) : Pure x.enc := by
  refine .agg _ ?_
  repeat' first | exact pure_nil | refine pure_cons ?_ ?_ | exact .raw _ | exact pure_strs _ | exact pure_ints _ | exact pure_u8s _ | exact pure_ints2 _ | exact pure_lst _
theorem DEq.isAgg (x : DEq) : isAggAV x.enc = true := rfl
theorem DEq.pures (l : List DEq) : Pure (.lst 7 (l.map DEq.enc) none) := pure_list DEq.pure l

structure DNode where
  Name : ByteArray
  Ins : List DDecl
  Outs : List DDecl
  Vars : List DDecl
  Eqs : List DEq

def DNode.enc (x : DNode) : AV := .agg [.s x.Name, .lst 6 (x.Ins.map DDecl.enc) none, .lst 6 (x.Outs.map DDecl.enc) none, .lst 6 (x.Vars.map DDecl.enc) none, .lst 7 (x.Eqs.map DEq.enc) none]
theorem DNode.enc_eq (x : DNode) : x.enc = .agg [.s x.Name, .lst 6 (x.Ins.map DDecl.enc) none, .lst 6 (x.Outs.map DDecl.enc) none, .lst 6 (x.Vars.map DDecl.enc) none, .lst 7 (x.Eqs.map DEq.enc) none] := rfl
theorem DNode.enc_cells (x : DNode) : x.enc.cells = [.s x.Name, .lst 6 (x.Ins.map DDecl.enc) none, .lst 6 (x.Outs.map DDecl.enc) none, .lst 6 (x.Vars.map DDecl.enc) none, .lst 7 (x.Eqs.map DEq.enc) none] := rfl
theorem DNode.fold (x : DNode) : AV.agg [.s x.Name, .lst 6 (x.Ins.map DDecl.enc) none, .lst 6 (x.Outs.map DDecl.enc) none, .lst 6 (x.Vars.map DDecl.enc) none, .lst 7 (x.Eqs.map DEq.enc) none] = x.enc := rfl
theorem DNode.pure (x : DNode) : Pure x.enc := by
  refine .agg _ ?_
  repeat' first | exact pure_nil | refine pure_cons ?_ ?_ | exact .raw _ | exact pure_strs _ | exact pure_ints _ | exact pure_u8s _ | exact pure_ints2 _ | exact pure_lst _ | exact pure_list DDecl.pure _ | exact pure_list DEq.pure _
theorem DNode.isAgg (x : DNode) : isAggAV x.enc = true := rfl
theorem DNode.pures (l : List DNode) : Pure (.lst 5 (l.map DNode.enc) none) := pure_list DNode.pure l

structure DProg where
  Enums : List DEnum
  Nodes : List DNode

def DProg.enc (x : DProg) : AV := .agg [.lst 2 (x.Enums.map DEnum.enc) none, .lst 5 (x.Nodes.map DNode.enc) none]
theorem DProg.enc_eq (x : DProg) : x.enc = .agg [.lst 2 (x.Enums.map DEnum.enc) none, .lst 5 (x.Nodes.map DNode.enc) none] := rfl
theorem DProg.enc_cells (x : DProg) : x.enc.cells = [.lst 2 (x.Enums.map DEnum.enc) none, .lst 5 (x.Nodes.map DNode.enc) none] := rfl
theorem DProg.fold (x : DProg) : AV.agg [.lst 2 (x.Enums.map DEnum.enc) none, .lst 5 (x.Nodes.map DNode.enc) none] = x.enc := rfl
theorem DProg.pure (x : DProg) : Pure x.enc := by
  refine .agg _ ?_
  repeat' first | exact pure_nil | refine pure_cons ?_ ?_ | exact .raw _ | exact pure_strs _ | exact pure_ints _ | exact pure_u8s _ | exact pure_ints2 _ | exact pure_lst _ | exact pure_list DEnum.pure _ | exact pure_list DNode.pure _
theorem DProg.isAgg (x : DProg) : isAggAV x.enc = true := rfl
theorem DProg.pures (l : List DProg) : Pure (.lst 2 (l.map DProg.enc) none) := pure_list DProg.pure l

structure DCond where
  Var : ByteArray
  Val : Int
  deriving DecidableEq

def DCond.enc (x : DCond) : AV := .agg [.s x.Var, .i x.Val]
theorem DCond.enc_eq (x : DCond) : x.enc = .agg [.s x.Var, .i x.Val] := rfl
theorem DCond.enc_cells (x : DCond) : x.enc.cells = [.s x.Var, .i x.Val] := rfl
theorem DCond.fold (x : DCond) : AV.agg [.s x.Var, .i x.Val] = x.enc := rfl
theorem DCond.pure (x : DCond) : Pure x.enc := by
  refine .agg _ ?_
  repeat' first | exact pure_nil | refine pure_cons ?_ ?_ | exact .raw _ | exact pure_strs _ | exact pure_ints _ | exact pure_u8s _ | exact pure_ints2 _ | exact pure_lst _
theorem DCond.isAgg (x : DCond) : isAggAV x.enc = true := rfl
theorem DCond.pures (l : List DCond) : Pure (.lst 2 (l.map DCond.enc) none) := pure_list DCond.pure l

structure DAtom where
  Var : ByteArray
  N : Int
  deriving DecidableEq

def DAtom.enc (x : DAtom) : AV := .agg [.s x.Var, .i x.N]
theorem DAtom.enc_eq (x : DAtom) : x.enc = .agg [.s x.Var, .i x.N] := rfl
theorem DAtom.enc_cells (x : DAtom) : x.enc.cells = [.s x.Var, .i x.N] := rfl
theorem DAtom.fold (x : DAtom) : AV.agg [.s x.Var, .i x.N] = x.enc := rfl
theorem DAtom.pure (x : DAtom) : Pure x.enc := by
  refine .agg _ ?_
  repeat' first | exact pure_nil | refine pure_cons ?_ ?_ | exact .raw _ | exact pure_strs _ | exact pure_ints _ | exact pure_u8s _ | exact pure_ints2 _ | exact pure_lst _
theorem DAtom.isAgg (x : DAtom) : isAggAV x.enc = true := rfl
theorem DAtom.pures (l : List DAtom) : Pure (.lst 2 (l.map DAtom.enc) none) := pure_list DAtom.pure l

structure DPlain where
  Kind : Int
  Names : List ByteArray
  Op : Int
  Args : List DAtom
  Init : List Int
  Node : Int
  Reset : Bool
  Every : DAtom
  On : List DCond

def DPlain.enc (x : DPlain) : AV := .agg [.i x.Kind, .lst 1 (x.Names.map AV.s) none, .i x.Op, .lst 2 (x.Args.map DAtom.enc) none, .lst 1 (x.Init.map AV.i) none, .i x.Node, .b x.Reset, .s x.Every.Var, .i x.Every.N, .lst 2 (x.On.map DCond.enc) none]
theorem DPlain.enc_eq (x : DPlain) : x.enc = .agg [.i x.Kind, .lst 1 (x.Names.map AV.s) none, .i x.Op, .lst 2 (x.Args.map DAtom.enc) none, .lst 1 (x.Init.map AV.i) none, .i x.Node, .b x.Reset, .s x.Every.Var, .i x.Every.N, .lst 2 (x.On.map DCond.enc) none] := rfl
theorem DPlain.enc_cells (x : DPlain) : x.enc.cells = [.i x.Kind, .lst 1 (x.Names.map AV.s) none, .i x.Op, .lst 2 (x.Args.map DAtom.enc) none, .lst 1 (x.Init.map AV.i) none, .i x.Node, .b x.Reset, .s x.Every.Var, .i x.Every.N, .lst 2 (x.On.map DCond.enc) none] := rfl
theorem DPlain.fold (x : DPlain) : AV.agg [.i x.Kind, .lst 1 (x.Names.map AV.s) none, .i x.Op, .lst 2 (x.Args.map DAtom.enc) none, .lst 1 (x.Init.map AV.i) none, .i x.Node, .b x.Reset, .s x.Every.Var, .i x.Every.N, .lst 2 (x.On.map DCond.enc) none] = x.enc := rfl
theorem DPlain.pure (x : DPlain) : Pure x.enc := by
  refine .agg _ ?_
  repeat' first | exact pure_nil | refine pure_cons ?_ ?_ | exact .raw _ | exact pure_strs _ | exact pure_ints _ | exact pure_u8s _ | exact pure_ints2 _ | exact pure_lst _ | exact pure_list DCond.pure _ | exact pure_list DAtom.pure _
theorem DPlain.isAgg (x : DPlain) : isAggAV x.enc = true := rfl
theorem DPlain.pures (l : List DPlain) : Pure (.lst 10 (l.map DPlain.enc) none) := pure_list DPlain.pure l

structure DVar where
  Name : ByteArray
  Ty : DTy
  On : List DCond

def DVar.enc (x : DVar) : AV := .agg [.s x.Name, .i x.Ty.Kind, .i x.Ty.Enum, .i x.Ty.Len, .lst 2 (x.On.map DCond.enc) none]
theorem DVar.enc_eq (x : DVar) : x.enc = .agg [.s x.Name, .i x.Ty.Kind, .i x.Ty.Enum, .i x.Ty.Len, .lst 2 (x.On.map DCond.enc) none] := rfl
theorem DVar.enc_cells (x : DVar) : x.enc.cells = [.s x.Name, .i x.Ty.Kind, .i x.Ty.Enum, .i x.Ty.Len, .lst 2 (x.On.map DCond.enc) none] := rfl
theorem DVar.fold (x : DVar) : AV.agg [.s x.Name, .i x.Ty.Kind, .i x.Ty.Enum, .i x.Ty.Len, .lst 2 (x.On.map DCond.enc) none] = x.enc := rfl
theorem DVar.pure (x : DVar) : Pure x.enc := by
  refine .agg _ ?_
  repeat' first | exact pure_nil | refine pure_cons ?_ ?_ | exact .raw _ | exact pure_strs _ | exact pure_ints _ | exact pure_u8s _ | exact pure_ints2 _ | exact pure_lst _ | exact pure_list DCond.pure _
theorem DVar.isAgg (x : DVar) : isAggAV x.enc = true := rfl
theorem DVar.pures (l : List DVar) : Pure (.lst 5 (l.map DVar.enc) none) := pure_list DVar.pure l

structure DFlow where
  Name : ByteArray
  Ins : List DVar
  Outs : List DVar
  Vars : List DVar
  Eqs : List DPlain

def DFlow.enc (x : DFlow) : AV := .agg [.s x.Name, .lst 5 (x.Ins.map DVar.enc) none, .lst 5 (x.Outs.map DVar.enc) none, .lst 5 (x.Vars.map DVar.enc) none, .lst 10 (x.Eqs.map DPlain.enc) none]
theorem DFlow.enc_eq (x : DFlow) : x.enc = .agg [.s x.Name, .lst 5 (x.Ins.map DVar.enc) none, .lst 5 (x.Outs.map DVar.enc) none, .lst 5 (x.Vars.map DVar.enc) none, .lst 10 (x.Eqs.map DPlain.enc) none] := rfl
theorem DFlow.enc_cells (x : DFlow) : x.enc.cells = [.s x.Name, .lst 5 (x.Ins.map DVar.enc) none, .lst 5 (x.Outs.map DVar.enc) none, .lst 5 (x.Vars.map DVar.enc) none, .lst 10 (x.Eqs.map DPlain.enc) none] := rfl
theorem DFlow.fold (x : DFlow) : AV.agg [.s x.Name, .lst 5 (x.Ins.map DVar.enc) none, .lst 5 (x.Outs.map DVar.enc) none, .lst 5 (x.Vars.map DVar.enc) none, .lst 10 (x.Eqs.map DPlain.enc) none] = x.enc := rfl
theorem DFlow.pure (x : DFlow) : Pure x.enc := by
  refine .agg _ ?_
  repeat' first | exact pure_nil | refine pure_cons ?_ ?_ | exact .raw _ | exact pure_strs _ | exact pure_ints _ | exact pure_u8s _ | exact pure_ints2 _ | exact pure_lst _ | exact pure_list DPlain.pure _ | exact pure_list DVar.pure _
theorem DFlow.isAgg (x : DFlow) : isAggAV x.enc = true := rfl
theorem DFlow.pures (l : List DFlow) : Pure (.lst 5 (l.map DFlow.enc) none) := pure_list DFlow.pure l

structure DFlows where
  Enums : List DEnum
  Flows : List DFlow

def DFlows.enc (x : DFlows) : AV := .agg [.lst 2 (x.Enums.map DEnum.enc) none, .lst 5 (x.Flows.map DFlow.enc) none]
theorem DFlows.enc_eq (x : DFlows) : x.enc = .agg [.lst 2 (x.Enums.map DEnum.enc) none, .lst 5 (x.Flows.map DFlow.enc) none] := rfl
theorem DFlows.enc_cells (x : DFlows) : x.enc.cells = [.lst 2 (x.Enums.map DEnum.enc) none, .lst 5 (x.Flows.map DFlow.enc) none] := rfl
theorem DFlows.fold (x : DFlows) : AV.agg [.lst 2 (x.Enums.map DEnum.enc) none, .lst 5 (x.Flows.map DFlow.enc) none] = x.enc := rfl
theorem DFlows.pure (x : DFlows) : Pure x.enc := by
  refine .agg _ ?_
  repeat' first | exact pure_nil | refine pure_cons ?_ ?_ | exact .raw _ | exact pure_strs _ | exact pure_ints _ | exact pure_u8s _ | exact pure_ints2 _ | exact pure_lst _ | exact pure_list DEnum.pure _ | exact pure_list DFlow.pure _
theorem DFlows.isAgg (x : DFlows) : isAggAV x.enc = true := rfl
theorem DFlows.pures (l : List DFlows) : Pure (.lst 2 (l.map DFlows.enc) none) := pure_list DFlows.pure l

structure DAsked where
  Name : ByteArray
  E : Ex
  On : List DCond

def DAsked.enc (x : DAsked) : AV := .agg [.s x.Name, .i x.E.kind, .i x.E.n, .s x.E.name, .i x.E.op, .lst 1 (x.E.arms.map AV.s) none, .lst 6 (x.E.subs.map Ex.enc) none, .lst 2 (x.On.map DCond.enc) none]
theorem DAsked.enc_eq (x : DAsked) : x.enc = .agg [.s x.Name, .i x.E.kind, .i x.E.n, .s x.E.name, .i x.E.op, .lst 1 (x.E.arms.map AV.s) none, .lst 6 (x.E.subs.map Ex.enc) none, .lst 2 (x.On.map DCond.enc) none] := rfl
theorem DAsked.enc_cells (x : DAsked) : x.enc.cells = [.s x.Name, .i x.E.kind, .i x.E.n, .s x.E.name, .i x.E.op, .lst 1 (x.E.arms.map AV.s) none, .lst 6 (x.E.subs.map Ex.enc) none, .lst 2 (x.On.map DCond.enc) none] := rfl
theorem DAsked.fold (x : DAsked) : AV.agg [.s x.Name, .i x.E.kind, .i x.E.n, .s x.E.name, .i x.E.op, .lst 1 (x.E.arms.map AV.s) none, .lst 6 (x.E.subs.map Ex.enc) none, .lst 2 (x.On.map DCond.enc) none] = x.enc := rfl
theorem DAsked.pure (x : DAsked) : Pure x.enc := by
  refine .agg _ ?_
  repeat' first | exact pure_nil | refine pure_cons ?_ ?_ | exact .raw _ | exact pure_strs _ | exact pure_ints _ | exact pure_u8s _ | exact pure_ints2 _ | exact pure_lst _ | exact pure_list DCond.pure _
theorem DAsked.isAgg (x : DAsked) : isAggAV x.enc = true := rfl
theorem DAsked.pures (l : List DAsked) : Pure (.lst 8 (l.map DAsked.enc) none) := pure_list DAsked.pure l

structure DFault where
  Node : Int
  Eq : Int
  Err : Int
  deriving DecidableEq

def DFault.enc (x : DFault) : AV := .agg [.i x.Node, .i x.Eq, .i x.Err]
theorem DFault.enc_eq (x : DFault) : x.enc = .agg [.i x.Node, .i x.Eq, .i x.Err] := rfl
theorem DFault.enc_cells (x : DFault) : x.enc.cells = [.i x.Node, .i x.Eq, .i x.Err] := rfl
theorem DFault.fold (x : DFault) : AV.agg [.i x.Node, .i x.Eq, .i x.Err] = x.enc := rfl
theorem DFault.pure (x : DFault) : Pure x.enc := by
  refine .agg _ ?_
  repeat' first | exact pure_nil | refine pure_cons ?_ ?_ | exact .raw _ | exact pure_strs _ | exact pure_ints _ | exact pure_u8s _ | exact pure_ints2 _ | exact pure_lst _
theorem DFault.isAgg (x : DFault) : isAggAV x.enc = true := rfl
theorem DFault.pures (l : List DFault) : Pure (.lst 3 (l.map DFault.enc) none) := pure_list DFault.pure l

structure DCell where
  Path : ByteArray
  Vals : List Int

def DCell.enc (x : DCell) : AV := .agg [.s x.Path, .lst 1 (x.Vals.map AV.i) none]
theorem DCell.enc_eq (x : DCell) : x.enc = .agg [.s x.Path, .lst 1 (x.Vals.map AV.i) none] := rfl
theorem DCell.enc_cells (x : DCell) : x.enc.cells = [.s x.Path, .lst 1 (x.Vals.map AV.i) none] := rfl
theorem DCell.fold (x : DCell) : AV.agg [.s x.Path, .lst 1 (x.Vals.map AV.i) none] = x.enc := rfl
theorem DCell.pure (x : DCell) : Pure x.enc := by
  refine .agg _ ?_
  repeat' first | exact pure_nil | refine pure_cons ?_ ?_ | exact .raw _ | exact pure_strs _ | exact pure_ints _ | exact pure_u8s _ | exact pure_ints2 _ | exact pure_lst _
theorem DCell.isAgg (x : DCell) : isAggAV x.enc = true := rfl
theorem DCell.pures (l : List DCell) : Pure (.lst 2 (l.map DCell.enc) none) := pure_list DCell.pure l

structure DReply where
  Err : Int
  Outs : List (List Int)
  Cells : List DCell

def DReply.enc (x : DReply) : AV := .agg [.i x.Err, .lst 1 (x.Outs.map AV.il) none, .lst 2 (x.Cells.map DCell.enc) none]
theorem DReply.enc_eq (x : DReply) : x.enc = .agg [.i x.Err, .lst 1 (x.Outs.map AV.il) none, .lst 2 (x.Cells.map DCell.enc) none] := rfl
theorem DReply.enc_cells (x : DReply) : x.enc.cells = [.i x.Err, .lst 1 (x.Outs.map AV.il) none, .lst 2 (x.Cells.map DCell.enc) none] := rfl
theorem DReply.fold (x : DReply) : AV.agg [.i x.Err, .lst 1 (x.Outs.map AV.il) none, .lst 2 (x.Cells.map DCell.enc) none] = x.enc := rfl
theorem DReply.pure (x : DReply) : Pure x.enc := by
  refine .agg _ ?_
  repeat' first | exact pure_nil | refine pure_cons ?_ ?_ | exact .raw _ | exact pure_strs _ | exact pure_ints _ | exact pure_u8s _ | exact pure_ints2 _ | exact pure_lst _ | exact pure_list DCell.pure _
theorem DReply.isAgg (x : DReply) : isAggAV x.enc = true := rfl
theorem DReply.pures (l : List DReply) : Pure (.lst 3 (l.map DReply.enc) none) := pure_list DReply.pure l

structure DAsk where
  Text : ByteArray
  Bytes : Bool
  Image : List Int
  Moves : ByteArray
  Fuel : Int

def DAsk.enc (x : DAsk) : AV := .agg [.s x.Text, .b x.Bytes, .lst 1 (x.Image.map AV.u8) none, .s x.Moves, .i x.Fuel]
theorem DAsk.enc_eq (x : DAsk) : x.enc = .agg [.s x.Text, .b x.Bytes, .lst 1 (x.Image.map AV.u8) none, .s x.Moves, .i x.Fuel] := rfl
theorem DAsk.enc_cells (x : DAsk) : x.enc.cells = [.s x.Text, .b x.Bytes, .lst 1 (x.Image.map AV.u8) none, .s x.Moves, .i x.Fuel] := rfl
theorem DAsk.fold (x : DAsk) : AV.agg [.s x.Text, .b x.Bytes, .lst 1 (x.Image.map AV.u8) none, .s x.Moves, .i x.Fuel] = x.enc := rfl
theorem DAsk.pure (x : DAsk) : Pure x.enc := by
  refine .agg _ ?_
  repeat' first | exact pure_nil | refine pure_cons ?_ ?_ | exact .raw _ | exact pure_strs _ | exact pure_ints _ | exact pure_u8s _ | exact pure_ints2 _ | exact pure_lst _
theorem DAsk.isAgg (x : DAsk) : isAggAV x.enc = true := rfl
theorem DAsk.pures (l : List DAsk) : Pure (.lst 5 (l.map DAsk.enc) none) := pure_list DAsk.pure l

structure DOp where
  Kind : Int
  Ask : DAsk
  Ins : List (List Int)
  Fault : Int

def DOp.enc (x : DOp) : AV := .agg [.i x.Kind, .s x.Ask.Text, .b x.Ask.Bytes, .lst 1 (x.Ask.Image.map AV.u8) none, .s x.Ask.Moves, .i x.Ask.Fuel, .lst 1 (x.Ins.map AV.il) none, .i x.Fault]
theorem DOp.enc_eq (x : DOp) : x.enc = .agg [.i x.Kind, .s x.Ask.Text, .b x.Ask.Bytes, .lst 1 (x.Ask.Image.map AV.u8) none, .s x.Ask.Moves, .i x.Ask.Fuel, .lst 1 (x.Ins.map AV.il) none, .i x.Fault] := rfl
theorem DOp.enc_cells (x : DOp) : x.enc.cells = [.i x.Kind, .s x.Ask.Text, .b x.Ask.Bytes, .lst 1 (x.Ask.Image.map AV.u8) none, .s x.Ask.Moves, .i x.Ask.Fuel, .lst 1 (x.Ins.map AV.il) none, .i x.Fault] := rfl
theorem DOp.fold (x : DOp) : AV.agg [.i x.Kind, .s x.Ask.Text, .b x.Ask.Bytes, .lst 1 (x.Ask.Image.map AV.u8) none, .s x.Ask.Moves, .i x.Ask.Fuel, .lst 1 (x.Ins.map AV.il) none, .i x.Fault] = x.enc := rfl
theorem DOp.pure (x : DOp) : Pure x.enc := by
  refine .agg _ ?_
  repeat' first | exact pure_nil | refine pure_cons ?_ ?_ | exact .raw _ | exact pure_strs _ | exact pure_ints _ | exact pure_u8s _ | exact pure_ints2 _ | exact pure_lst _
theorem DOp.isAgg (x : DOp) : isAggAV x.enc = true := rfl
theorem DOp.pures (l : List DOp) : Pure (.lst 8 (l.map DOp.enc) none) := pure_list DOp.pure l

abbrev I64 (n : Int) : Prop := -9223372036854775808 ≤ n ∧ n ≤ 9223372036854775807
abbrev S47 (s : ByteArray) : Prop := s.size ≤ maxLen
mutual
def Ex.ok : Ex → Prop
  | .mk k n m o a s => I64 k ∧ I64 n ∧ S47 m ∧ I64 o ∧ (∀ y ∈ a, S47 y) ∧ Ex.oks s
def Ex.oks : List Ex → Prop
  | [] => True
  | x :: xs => Ex.ok x ∧ Ex.oks xs
end
theorem oks_iff (l : List Ex) : Ex.oks l ↔ ∀ x ∈ l, x.ok := by
  induction l with
  | nil => simp [Ex.oks]
  | cons x l ih => simp [Ex.oks, ih]
theorem Ex.ok_eq (e : Ex) : e.ok ↔ (I64 e.kind ∧ I64 e.n ∧ S47 e.name ∧ I64 e.op ∧ (∀ y ∈ e.arms, S47 y) ∧ ∀ x ∈ e.subs, x.ok) := by
  cases e; simp [Ex.ok, oks_iff, Ex.kind, Ex.n, Ex.name, Ex.op, Ex.arms, Ex.subs]
def DTy.ok (x : DTy) : Prop := I64 x.Kind ∧ I64 x.Enum ∧ I64 x.Len
def DEnum.ok (x : DEnum) : Prop := S47 x.Name ∧ (∀ y ∈ x.Ctors, S47 y)
def DDecl.ok (x : DDecl) : Prop := S47 x.Name ∧ x.Ty.ok ∧ S47 x.On ∧ S47 x.Ctor
def DEq.ok (x : DEq) : Prop := (∀ y ∈ x.Names, S47 y) ∧ x.E.ok
def DNode.ok (x : DNode) : Prop := S47 x.Name ∧ (∀ y ∈ x.Ins, y.ok) ∧ (∀ y ∈ x.Outs, y.ok) ∧ (∀ y ∈ x.Vars, y.ok) ∧ (∀ y ∈ x.Eqs, y.ok)
def DProg.ok (x : DProg) : Prop := (∀ y ∈ x.Enums, y.ok) ∧ (∀ y ∈ x.Nodes, y.ok)
def DCond.ok (x : DCond) : Prop := S47 x.Var ∧ I64 x.Val
def DAtom.ok (x : DAtom) : Prop := S47 x.Var ∧ I64 x.N
def DPlain.ok (x : DPlain) : Prop := I64 x.Kind ∧ (∀ y ∈ x.Names, S47 y) ∧ I64 x.Op ∧ (∀ y ∈ x.Args, y.ok) ∧ (∀ y ∈ x.Init, I64 y) ∧ I64 x.Node ∧ x.Every.ok ∧ (∀ y ∈ x.On, y.ok)
def DVar.ok (x : DVar) : Prop := S47 x.Name ∧ x.Ty.ok ∧ (∀ y ∈ x.On, y.ok)
def DFlow.ok (x : DFlow) : Prop := S47 x.Name ∧ (∀ y ∈ x.Ins, y.ok) ∧ (∀ y ∈ x.Outs, y.ok) ∧ (∀ y ∈ x.Vars, y.ok) ∧ (∀ y ∈ x.Eqs, y.ok)
def DFlows.ok (x : DFlows) : Prop := (∀ y ∈ x.Enums, y.ok) ∧ (∀ y ∈ x.Flows, y.ok)
def DAsked.ok (x : DAsked) : Prop := S47 x.Name ∧ x.E.ok ∧ (∀ y ∈ x.On, y.ok)
def DFault.ok (x : DFault) : Prop := I64 x.Node ∧ I64 x.Eq ∧ I64 x.Err
def DCell.ok (x : DCell) : Prop := S47 x.Path ∧ (∀ y ∈ x.Vals, I64 y)
def DReply.ok (x : DReply) : Prop := I64 x.Err ∧ (∀ z ∈ x.Outs, ∀ y ∈ z, I64 y) ∧ (∀ y ∈ x.Cells, y.ok)
def DAsk.ok (x : DAsk) : Prop := S47 x.Text ∧ (∀ y ∈ x.Image, 0 ≤ y ∧ y ≤ 255) ∧ S47 x.Moves ∧ I64 x.Fuel
def DOp.ok (x : DOp) : Prop := I64 x.Kind ∧ x.Ask.ok ∧ (∀ z ∈ x.Ins, ∀ y ∈ z, I64 y) ∧ I64 x.Fault
attribute [go_sem] DTy.fold DTy.enc_cells DTy.isAgg DEnum.fold DEnum.enc_cells DEnum.isAgg DDecl.fold DDecl.enc_cells DDecl.isAgg DEq.fold DEq.enc_cells DEq.isAgg DNode.fold DNode.enc_cells DNode.isAgg DProg.fold DProg.enc_cells DProg.isAgg DCond.fold DCond.enc_cells DCond.isAgg DAtom.fold DAtom.enc_cells DAtom.isAgg DPlain.fold DPlain.enc_cells DPlain.isAgg DVar.fold DVar.enc_cells DVar.isAgg DFlow.fold DFlow.enc_cells DFlow.isAgg DFlows.fold DFlows.enc_cells DFlows.isAgg DAsked.fold DAsked.enc_cells DAsked.isAgg DFault.fold DFault.enc_cells DFault.isAgg DCell.fold DCell.enc_cells DCell.isAgg DReply.fold DReply.enc_cells DReply.isAgg DAsk.fold DAsk.enc_cells DAsk.isAgg DOp.fold DOp.enc_cells DOp.isAgg
attribute [irreducible] DTy.enc DEnum.enc DDecl.enc DEq.enc DNode.enc DProg.enc DCond.enc DAtom.enc DPlain.enc DVar.enc DFlow.enc DFlows.enc DAsked.enc DFault.enc DCell.enc DReply.enc DAsk.enc DOp.enc
end Go.Abs
