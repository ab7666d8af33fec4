/-
  AbsY, Data, AbsR, AbsZ, SmallPr, Slices1, Concat, DeclPr, AbsV, Reverse, Clock, Law12, AbsI, IdX, AbsJ, IdX2, AbsU, AbsT, Once, RightD, ExD, AbsRF, AbsTA: put together.
-/
import Derived.Test.YtipcmpkihhfhcaaGreatDoorBunA
import Derived.Test.YtipcmpkihhfhcaaGreatDoorBunB
import Derived.WalkKit
import Derived.Shelf.SlicesQ.Reverse
import Derived.Lib.Bytealg
/-
  The abstract layer, part Y: the program's plain data as Lean structures, told as abstract values. Written by program (gen_data.py).
-/
namespace Go.Abs
open Go.RowKit

abbrev AV.u8 (n : Int) : AV := .raw (.int .u8 n)
abbrev AV.il (l : List Int) : AV := .lst 1 (l.map AV.i) none

theorem flat_of {α : Type} {f : α → AV} (h : ∀ x, (f x).cells = [f x]) (l : List α) : flat (l.map f) = l.map f := by
  induction l with
  | nil => rfl
  | cons x l ih => simp only [flat, List.map_cons, List.flatMap_cons] at ih ⊢; rw [ih, h]; rfl
theorem pure_ints (l : List Int) : Pure (.lst 1 (l.map AV.i) none) := by
  refine .lst _ _ fun c hc => ?_
  rw [flat_of (fun _ => rfl)] at hc
  obtain ⟨x, _, rfl⟩ := List.mem_map.1 hc
  exact .raw _
theorem pure_u8s (l : List Int) : Pure (.lst 1 (l.map AV.u8) none) := by
  refine .lst _ _ fun c hc => ?_
  rw [flat_of (fun _ => rfl)] at hc
  obtain ⟨x, _, rfl⟩ := List.mem_map.1 hc
  exact .raw _
theorem pure_ints2 (l : List (List Int)) : Pure (.lst 1 (l.map AV.il) none) := by
  refine .lst _ _ fun c hc => ?_
  rw [flat_of (fun _ => rfl)] at hc
  obtain ⟨x, _, rfl⟩ := List.mem_map.1 hc
  exact pure_ints x
theorem Pure.cell {a : AV} (h : Pure a) (ht : ∀ cs, a = .agg cs → ∀ c ∈ cs, Pure c) : ∀ c ∈ a.cells, Pure c := by
  intro c hc
  cases a with
  | agg cs => exact ht cs rfl c hc
  | raw v =>
    cases v with
    | agg vs => simp only [AV.cells, List.mem_map] at hc; obtain ⟨x, _, rfl⟩ := hc; exact .raw _
    | _ => simp only [AV.cells, List.mem_singleton] at hc; subst hc; exact h
  | _ => simp only [AV.cells, List.mem_singleton] at hc; subst hc; exact h
theorem Pure.cells {a : AV} (h : Pure a) : ∀ c ∈ a.cells, Pure c := h.cell fun cs e => by
  subst e
  cases h with
  | agg _ h => exact h
theorem pure_list {α : Type} {f : α → AV} {sz : Nat} (h : ∀ x, Pure (f x)) (l : List α) : Pure (.lst sz (l.map f) none) := by
  refine .lst _ _ fun c hc => ?_
  simp only [flat, List.mem_flatMap] at hc
  obtain ⟨a, ha, hc⟩ := hc
  obtain ⟨x, _, rfl⟩ := List.mem_map.1 ha
  exact (h x).cells c hc

structure DTy where
  Kind : Int
  Enum : Int
  Len : Int
  deriving DecidableEq

def DTy.enc (x : DTy) : AV := .agg [.i x.Kind, .i x.Enum, .i x.Len]
theorem DTy.enc_eq (x : DTy) : x.enc = .agg [.i x.Kind, .i x.Enum, .i x.Len] := rfl
theorem DTy.enc_cells (x : DTy) : x.enc.cells = [.i x.Kind, .i x.Enum, .i x.Len] := rfl
theorem DTy.fold (x : DTy) : AV.agg [.i x.Kind, .i x.Enum, .i x.Len] = x.enc := rfl
theorem DTy.pure (x : DTy) : Pure x.enc := by
  refine .agg _ ?_
  repeat' first | exact pure_nil | refine pure_cons ?_ ?_ | exact .raw _ | exact pure_strs _ | exact pure_ints _ | exact pure_u8s _ | exact pure_ints2 _ | exact pure_lst _
theorem DTy.isAgg (x : DTy) : isAggAV x.enc = true := rfl
theorem DTy.pures (l : List DTy) : Pure (.lst 3 (l.map DTy.enc) none) := pure_list DTy.pure l

structure DEnum where
  Name : ByteArray
  Ctors : List ByteArray

def DEnum.enc (x : DEnum) : AV := .agg [.s x.Name, .lst 1 (x.Ctors.map AV.s) none]
theorem DEnum.enc_eq (x : DEnum) : x.enc = .agg [.s x.Name, .lst 1 (x.Ctors.map AV.s) none] := rfl
theorem DEnum.enc_cells (x : DEnum) : x.enc.cells = [.s x.Name, .lst 1 (x.Ctors.map AV.s) none] := rfl
theorem DEnum.fold (x : DEnum) : AV.agg [.s x.Name, .lst 1 (x.Ctors.map AV.s) none] = x.enc := rfl
theorem DEnum.pure (x : DEnum) : Pure x.enc := by
  refine .agg _ ?_
  repeat' first | exact pure_nil | refine pure_cons ?_ ?_ | exact .raw _ | exact pure_strs _ | exact pure_ints _ | exact pure_u8s _ | exact pure_ints2 _ | exact pure_lst _
theorem DEnum.isAgg (x : DEnum) : isAggAV x.enc = true := rfl
theorem DEnum.pures (l : List DEnum) : Pure (.lst 2 (l.map DEnum.enc) none) := pure_list DEnum.pure l

structure DDecl where
  Name : ByteArray
  Ty : DTy
  On : ByteArray
  Ctor : ByteArray
  deriving DecidableEq

def DDecl.enc (x : DDecl) : AV := .agg [.s x.Name, .i x.Ty.Kind, .i x.Ty.Enum, .i x.Ty.Len, .s x.On, .s x.Ctor]
theorem DDecl.enc_eq (x : DDecl) : x.enc = .agg [.s x.Name, .i x.Ty.Kind, .i x.Ty.Enum, .i x.Ty.Len, .s x.On, .s x.Ctor] := rfl
theorem DDecl.enc_cells (x : DDecl) : x.enc.cells = [.s x.Name, .i x.Ty.Kind, .i x.Ty.Enum, .i x.Ty.Len, .s x.On, .s x.Ctor] := rfl
theorem DDecl.fold (x : DDecl) : AV.agg [.s x.Name, .i x.Ty.Kind, .i x.Ty.Enum, .i x.Ty.Len, .s x.On, .s x.Ctor] = x.enc := rfl
theorem DDecl.pure (x : DDecl) : Pure x.enc := by
  refine .agg _ ?_
  repeat' first | exact pure_nil | refine pure_cons ?_ ?_ | exact .raw _ | exact pure_strs _ | exact pure_ints _ | exact pure_u8s _ | exact pure_ints2 _ | exact pure_lst _
theorem DDecl.isAgg (x : DDecl) : isAggAV x.enc = true := rfl
theorem DDecl.pures (l : List DDecl) : Pure (.lst 6 (l.map DDecl.enc) none) := pure_list DDecl.pure l

structure DEq where
  Names : List ByteArray
  E : Ex

def DEq.enc (x : DEq) : AV := .agg [.lst 1 (x.Names.map AV.s) none, .i x.E.kind, .i x.E.n, .s x.E.name, .i x.E.op, .lst 1 (x.E.arms.map AV.s) none, .lst 6 (x.E.subs.map Ex.enc) none]
theorem DEq.enc_eq (x : DEq) : x.enc = .agg [.lst 1 (x.Names.map AV.s) none, .i x.E.kind, .i x.E.n, .s x.E.name, .i x.E.op, .lst 1 (x.E.arms.map AV.s) none, .lst 6 (x.E.subs.map Ex.enc) none] := rfl
theorem DEq.enc_cells (x : DEq) : x.enc.cells = [.lst 1 (x.Names.map AV.s) none, .i x.E.kind, .i x.E.n, .s x.E.name, .i x.E.op, .lst 1 (x.E.arms.map AV.s) none, .lst 6 (x.E.subs.map Ex.enc) none] := rfl
theorem DEq.fold (x : DEq) : AV.agg [.lst 1 (x.Names.map AV.s) none, .i x.E.kind, .i x.E.n, .s x.E.name, .i x.E.op, .lst 1 (x.E.arms.map AV.s) none, .lst 6 (x.E.subs.map Ex.enc) none] = x.enc := rfl
theorem DEq.pure (x : DEq) : Pure x.enc := by
  refine .agg _ ?_
  repeat' first | exact pure_nil | refine pure_cons ?_ ?_ | exact .raw _ | exact pure_strs _ | exact pure_ints _ | exact pure_u8s _ | exact pure_ints2 _ | exact pure_lst _
theorem DEq.isAgg (x : DEq) : isAggAV x.enc = true := rfl
theorem DEq.pures (l : List DEq) : Pure (.lst 7 (l.map DEq.enc) none) := pure_list DEq.pure l

structure DNode where
  Name : ByteArray
  Ins : List DDecl
  Outs : List DDecl
  Vars : List DDecl
  Eqs : List DEq

def DNode.enc (x : DNode) : AV := .agg [.s x.Name, .lst 6 (x.Ins.map DDecl.enc) none, .lst 6 (x.Outs.map DDecl.enc) none, .lst 6 (x.Vars.map DDecl.enc) none, .lst 7 (x.Eqs.map DEq.enc) none]
theorem DNode.enc_eq (x : DNode) : x.enc = .agg [.s x.Name, .lst 6 (x.Ins.map DDecl.enc) none, .lst 6 (x.Outs.map DDecl.enc) none, .lst 6 (x.Vars.map DDecl.enc) none, .lst 7 (x.Eqs.map DEq.enc) none] := rfl
theorem DNode.enc_cells (x : DNode) : x.enc.cells = [.s x.Name, .lst 6 (x.Ins.map DDecl.enc) none, .lst 6 (x.Outs.map DDecl.enc) none, .lst 6 (x.Vars.map DDecl.enc) none, .lst 7 (x.Eqs.map DEq.enc) none] := rfl
theorem DNode.fold (x : DNode) : AV.agg [.s x.Name, .lst 6 (x.Ins.map DDecl.enc) none, .lst 6 (x.Outs.map DDecl.enc) none, .lst 6 (x.Vars.map DDecl.enc) none, .lst 7 (x.Eqs.map DEq.enc) none] = x.enc := rfl
theorem DNode.pure (x : DNode) : Pure x.enc := by
  refine .agg _ ?_
  repeat' first | exact pure_nil | refine pure_cons ?_ ?_ | exact .raw _ | exact pure_strs _ | exact pure_ints _ | exact pure_u8s _ | exact pure_ints2 _ | exact pure_lst _ | exact pure_list DDecl.pure _ | exact pure_list DEq.pure _
theorem DNode.isAgg (x : DNode) : isAggAV x.enc = true := rfl
theorem DNode.pures (l : List DNode) : Pure (.lst 5 (l.map DNode.enc) none) := pure_list DNode.pure l

structure DProg where
  Enums : List DEnum
  Nodes : List DNode

def DProg.enc (x : DProg) : AV := .agg [.lst 2 (x.Enums.map DEnum.enc) none, .lst 5 (x.Nodes.map DNode.enc) none]
theorem DProg.enc_eq (x : DProg) : x.enc = .agg [.lst 2 (x.Enums.map DEnum.enc) none, .lst 5 (x.Nodes.map DNode.enc) none] := rfl
theorem DProg.enc_cells (x : DProg) : x.enc.cells = [.lst 2 (x.Enums.map DEnum.enc) none, .lst 5 (x.Nodes.map DNode.enc) none] := rfl
theorem DProg.fold (x : DProg) : AV.agg [.lst 2 (x.Enums.map DEnum.enc) none, .lst 5 (x.Nodes.map DNode.enc) none] = x.enc := rfl
theorem DProg.pure (x : DProg) : Pure x.enc := by
  refine .agg _ ?_
  repeat' first | exact pure_nil | refine pure_cons ?_ ?_ | exact .raw _ | exact pure_strs _ | exact pure_ints _ | exact pure_u8s _ | exact pure_ints2 _ | exact pure_lst _ | exact pure_list DEnum.pure _ | exact pure_list DNode.pure _
theorem DProg.isAgg (x : DProg) : isAggAV x.enc = true := rfl
theorem DProg.pures (l : List DProg) : Pure (.lst 2 (l.map DProg.enc) none) := pure_list DProg.pure l

structure DCond where
  Var : ByteArray
  Val : Int
  deriving DecidableEq

def DCond.enc (x : DCond) : AV := .agg [.s x.Var, .i x.Val]
theorem DCond.enc_eq (x : DCond) : x.enc = .agg [.s x.Var, .i x.Val] := rfl
theorem DCond.enc_cells (x : DCond) : x.enc.cells = [.s x.Var, .i x.Val] := rfl
theorem DCond.fold (x : DCond) : AV.agg [.s x.Var, .i x.Val] = x.enc := rfl
theorem DCond.pure (x : DCond) : Pure x.enc := by
  refine .agg _ ?_
  repeat' first | exact pure_nil | refine pure_cons ?_ ?_ | exact .raw _ | exact pure_strs _ | exact pure_ints _ | exact pure_u8s _ | exact pure_ints2 _ | exact pure_lst _
theorem DCond.isAgg (x : DCond) : isAggAV x.enc = true := rfl
theorem DCond.pures (l : List DCond) : Pure (.lst 2 (l.map DCond.enc) none) := pure_list DCond.pure l

structure DAtom where
  Var : ByteArray
  N : Int
  deriving DecidableEq

def DAtom.enc (x : DAtom) : AV := .agg [.s x.Var, .i x.N]
theorem DAtom.enc_eq (x : DAtom) : x.enc = .agg [.s x.Var, .i x.N] := rfl
theorem DAtom.enc_cells (x : DAtom) : x.enc.cells = [.s x.Var, .i x.N] := rfl
theorem DAtom.fold (x : DAtom) : AV.agg [.s x.Var, .i x.N] = x.enc := rfl
theorem DAtom.pure (x : DAtom) : Pure x.enc := by
  refine .agg _ ?_
  repeat' first | exact pure_nil | refine pure_cons ?_ ?_ | exact .raw _ | exact pure_strs _ | exact pure_ints _ | exact pure_u8s _ | exact pure_ints2 _ | exact pure_lst _
theorem DAtom.isAgg (x : DAtom) : isAggAV x.enc = true := rfl
theorem DAtom.pures (l : List DAtom) : Pure (.lst 2 (l.map DAtom.enc) none) := pure_list DAtom.pure l

structure DPlain where
  Kind : Int
  Names : List ByteArray
  Op : Int
  Args : List DAtom
  Init : List Int
  Node : Int
  Reset : Bool
  Every : DAtom
  On : List DCond

def DPlain.enc (x : DPlain) : AV := .agg [.i x.Kind, .lst 1 (x.Names.map AV.s) none, .i x.Op, .lst 2 (x.Args.map DAtom.enc) none, .lst 1 (x.Init.map AV.i) none, .i x.Node, .b x.Reset, .s x.Every.Var, .i x.Every.N, .lst 2 (x.On.map DCond.enc) none]
theorem DPlain.enc_eq (x : DPlain) : x.enc = .agg [.i x.Kind, .lst 1 (x.Names.map AV.s) none, .i x.Op, .lst 2 (x.Args.map DAtom.enc) none, .lst 1 (x.Init.map AV.i) none, .i x.Node, .b x.Reset, .s x.Every.Var, .i x.Every.N, .lst 2 (x.On.map DCond.enc) none] := rfl
theorem DPlain.enc_cells (x : DPlain) : x.enc.cells = [.i x.Kind, .lst 1 (x.Names.map AV.s) none, .i x.Op, .lst 2 (x.Args.map DAtom.enc) none, .lst 1 (x.Init.map AV.i) none, .i x.Node, .b x.Reset, .s x.Every.Var, .i x.Every.N, .lst 2 (x.On.map DCond.enc) none] := rfl
theorem DPlain.fold (x : DPlain) : AV.agg [.i x.Kind, .lst 1 (x.Names.map AV.s) none, .i x.Op, .lst 2 (x.Args.map DAtom.enc) none, .lst 1 (x.Init.map AV.i) none, .i x.Node, .b x.Reset, .s x.Every.Var, .i x.Every.N, .lst 2 (x.On.map DCond.enc) none] = x.enc := rfl
theorem DPlain.pure (x : DPlain) : Pure x.enc := by
  refine .agg _ ?_
  repeat' first | exact pure_nil | refine pure_cons ?_ ?_ | exact .raw _ | exact pure_strs _ | exact pure_ints _ | exact pure_u8s _ | exact pure_ints2 _ | exact pure_lst _ | exact pure_list DCond.pure _ | exact pure_list DAtom.pure _
theorem DPlain.isAgg (x : DPlain) : isAggAV x.enc = true := rfl
theorem DPlain.pures (l : List DPlain) : Pure (.lst 10 (l.map DPlain.enc) none) := pure_list DPlain.pure l

structure DVar where
  Name : ByteArray
  Ty : DTy
  On : List DCond

def DVar.enc (x : DVar) : AV := .agg [.s x.Name, .i x.Ty.Kind, .i x.Ty.Enum, .i x.Ty.Len, .lst 2 (x.On.map DCond.enc) none]
theorem DVar.enc_eq (x : DVar) : x.enc = .agg [.s x.Name, .i x.Ty.Kind, .i x.Ty.Enum, .i x.Ty.Len, .lst 2 (x.On.map DCond.enc) none] := rfl
theorem DVar.enc_cells (x : DVar) : x.enc.cells = [.s x.Name, .i x.Ty.Kind, .i x.Ty.Enum, .i x.Ty.Len, .lst 2 (x.On.map DCond.enc) none] := rfl
theorem DVar.fold (x : DVar) : AV.agg [.s x.Name, .i x.Ty.Kind, .i x.Ty.Enum, .i x.Ty.Len, .lst 2 (x.On.map DCond.enc) none] = x.enc := rfl
theorem DVar.pure (x : DVar) : Pure x.enc := by
  refine .agg _ ?_
  repeat' first | exact pure_nil | refine pure_cons ?_ ?_ | exact .raw _ | exact pure_strs _ | exact pure_ints _ | exact pure_u8s _ | exact pure_ints2 _ | exact pure_lst _ | exact pure_list DCond.pure _
theorem DVar.isAgg (x : DVar) : isAggAV x.enc = true := rfl
theorem DVar.pures (l : List DVar) : Pure (.lst 5 (l.map DVar.enc) none) := pure_list DVar.pure l

structure DFlow where
  Name : ByteArray
  Ins : List DVar
  Outs : List DVar
  Vars : List DVar
  Eqs : List DPlain

def DFlow.enc (x : DFlow) : AV := .agg [.s x.Name, .lst 5 (x.Ins.map DVar.enc) none, .lst 5 (x.Outs.map DVar.enc) none, .lst 5 (x.Vars.map DVar.enc) none, .lst 10 (x.Eqs.map DPlain.enc) none]
theorem DFlow.enc_eq (x : DFlow) : x.enc = .agg [.s x.Name, .lst 5 (x.Ins.map DVar.enc) none, .lst 5 (x.Outs.map DVar.enc) none, .lst 5 (x.Vars.map DVar.enc) none, .lst 10 (x.Eqs.map DPlain.enc) none] := rfl
theorem DFlow.enc_cells (x : DFlow) : x.enc.cells = [.s x.Name, .lst 5 (x.Ins.map DVar.enc) none, .lst 5 (x.Outs.map DVar.enc) none, .lst 5 (x.Vars.map DVar.enc) none, .lst 10 (x.Eqs.map DPlain.enc) none] := rfl
theorem DFlow.fold (x : DFlow) : AV.agg [.s x.Name, .lst 5 (x.Ins.map DVar.enc) none, .lst 5 (x.Outs.map DVar.enc) none, .lst 5 (x.Vars.map DVar.enc) none, .lst 10 (x.Eqs.map DPlain.enc) none] = x.enc := rfl
theorem DFlow.pure (x : DFlow) : Pure x.enc := by
  refine .agg _ ?_
  repeat' first | exact pure_nil | refine pure_cons ?_ ?_ | exact .raw _ | exact pure_strs _ | exact pure_ints _ | exact pure_u8s _ | exact pure_ints2 _ | exact pure_lst _ | exact pure_list DPlain.pure _ | exact pure_list DVar.pure _
theorem DFlow.isAgg (x : DFlow) : isAggAV x.enc = true := rfl
theorem DFlow.pures (l : List DFlow) : Pure (.lst 5 (l.map DFlow.enc) none) := pure_list DFlow.pure l

structure DFlows where
  Enums : List DEnum
  Flows : List DFlow

def DFlows.enc (x : DFlows) : AV := .agg [.lst 2 (x.Enums.map DEnum.enc) none, .lst 5 (x.Flows.map DFlow.enc) none]
theorem DFlows.enc_eq (x : DFlows) : x.enc = .agg [.lst 2 (x.Enums.map DEnum.enc) none, .lst 5 (x.Flows.map DFlow.enc) none] := rfl
theorem DFlows.enc_cells (x : DFlows) : x.enc.cells = [.lst 2 (x.Enums.map DEnum.enc) none, .lst 5 (x.Flows.map DFlow.enc) none] := rfl
theorem DFlows.fold (x : DFlows) : AV.agg [.lst 2 (x.Enums.map DEnum.enc) none, .lst 5 (x.Flows.map DFlow.enc) none] = x.enc := rfl
theorem DFlows.pure (x : DFlows) : Pure x.enc := by
  refine .agg _ ?_
  repeat' first | exact pure_nil | refine pure_cons ?_ ?_ | exact .raw _ | exact pure_strs _ | exact pure_ints _ | exact pure_u8s _ | exact pure_ints2 _ | exact pure_lst _ | exact pure_list DEnum.pure _ | exact pure_list DFlow.pure _
theorem DFlows.isAgg (x : DFlows) : isAggAV x.enc = true := rfl
theorem DFlows.pures (l : List DFlows) : Pure (.lst 2 (l.map DFlows.enc) none) := pure_list DFlows.pure l

structure DAsked where
  Name : ByteArray
  E : Ex
  On : List DCond

def DAsked.enc (x : DAsked) : AV := .agg [.s x.Name, .i x.E.kind, .i x.E.n, .s x.E.name, .i x.E.op, .lst 1 (x.E.arms.map AV.s) none, .lst 6 (x.E.subs.map Ex.enc) none, .lst 2 (x.On.map DCond.enc) none]
theorem DAsked.enc_eq (x : DAsked) : x.enc = .agg [.s x.Name, .i x.E.kind, .i x.E.n, .s x.E.name, .i x.E.op, .lst 1 (x.E.arms.map AV.s) none, .lst 6 (x.E.subs.map Ex.enc) none, .lst 2 (x.On.map DCond.enc) none] := rfl
theorem DAsked.enc_cells (x : DAsked) : x.enc.cells = [.s x.Name, .i x.E.kind, .i x.E.n, .s x.E.name, .i x.E.op, .lst 1 (x.E.arms.map AV.s) none, .lst 6 (x.E.subs.map Ex.enc) none, .lst 2 (x.On.map DCond.enc) none] := rfl
theorem DAsked.fold (x : DAsked) : AV.agg [.s x.Name, .i x.E.kind, .i x.E.n, .s x.E.name, .i x.E.op, .lst 1 (x.E.arms.map AV.s) none, .lst 6 (x.E.subs.map Ex.enc) none, .lst 2 (x.On.map DCond.enc) none] = x.enc := rfl
theorem DAsked.pure (x : DAsked) : Pure x.enc := by
  refine .agg _ ?_
  repeat' first | exact pure_nil | refine pure_cons ?_ ?_ | exact .raw _ | exact pure_strs _ | exact pure_ints _ | exact pure_u8s _ | exact pure_ints2 _ | exact pure_lst _ | exact pure_list DCond.pure _
theorem DAsked.isAgg (x : DAsked) : isAggAV x.enc = true := rfl
theorem DAsked.pures (l : List DAsked) : Pure (.lst 8 (l.map DAsked.enc) none) := pure_list DAsked.pure l

structure DFault where
  Node : Int
  Eq : Int
  Err : Int
  deriving DecidableEq

def DFault.enc (x : DFault) : AV := .agg [.i x.Node, .i x.Eq, .i x.Err]
theorem DFault.enc_eq (x : DFault) : x.enc = .agg [.i x.Node, .i x.Eq, .i x.Err] := rfl
theorem DFault.enc_cells (x : DFault) : x.enc.cells = [.i x.Node, .i x.Eq, .i x.Err] := rfl
theorem DFault.fold (x : DFault) : AV.agg [.i x.Node, .i x.Eq, .i x.Err] = x.enc := rfl
theorem DFault.pure (x : DFault) : Pure x.enc := by
  refine .agg _ ?_
  repeat' first | exact pure_nil | refine pure_cons ?_ ?_ | exact .raw _ | exact pure_strs _ | exact pure_ints _ | exact pure_u8s _ | exact pure_ints2 _ | exact pure_lst _
theorem DFault.isAgg (x : DFault) : isAggAV x.enc = true := rfl
theorem DFault.pures (l : List DFault) : Pure (.lst 3 (l.map DFault.enc) none) := pure_list DFault.pure l

structure DCell where
  Path : ByteArray
  Vals : List Int

def DCell.enc (x : DCell) : AV := .agg [.s x.Path, .lst 1 (x.Vals.map AV.i) none]
theorem DCell.enc_eq (x : DCell) : x.enc = .agg [.s x.Path, .lst 1 (x.Vals.map AV.i) none] := rfl
theorem DCell.enc_cells (x : DCell) : x.enc.cells = [.s x.Path, .lst 1 (x.Vals.map AV.i) none] := rfl
theorem DCell.fold (x : DCell) : AV.agg [.s x.Path, .lst 1 (x.Vals.map AV.i) none] = x.enc := rfl
theorem DCell.pure (x : DCell) : Pure x.enc := by
  refine .agg _ ?_
  repeat' first | exact pure_nil | refine pure_cons ?_ ?_ | exact .raw _ | exact pure_strs _ | exact pure_ints _ | exact pure_u8s _ | exact pure_ints2 _ | exact pure_lst _
theorem DCell.isAgg (x : DCell) : isAggAV x.enc = true := rfl
theorem DCell.pures (l : List DCell) : Pure (.lst 2 (l.map DCell.enc) none) := pure_list DCell.pure l

structure DReply where
  Err : Int
  Outs : List (List Int)
  Cells : List DCell

def DReply.enc (x : DReply) : AV := .agg [.i x.Err, .lst 1 (x.Outs.map AV.il) none, .lst 2 (x.Cells.map DCell.enc) none]
theorem DReply.enc_eq (x : DReply) : x.enc = .agg [.i x.Err, .lst 1 (x.Outs.map AV.il) none, .lst 2 (x.Cells.map DCell.enc) none] := rfl
theorem DReply.enc_cells (x : DReply) : x.enc.cells = [.i x.Err, .lst 1 (x.Outs.map AV.il) none, .lst 2 (x.Cells.map DCell.enc) none] := rfl
theorem DReply.fold (x : DReply) : AV.agg [.i x.Err, .lst 1 (x.Outs.map AV.il) none, .lst 2 (x.Cells.map DCell.enc) none] = x.enc := rfl
theorem DReply.pure (x : DReply) : Pure x.enc := by
  refine .agg _ ?_
  repeat' first | exact pure_nil | refine pure_cons ?_ ?_ | exact .raw _ | exact pure_strs _ | exact pure_ints _ | exact pure_u8s _ | exact pure_ints2 _ | exact pure_lst _ | exact pure_list DCell.pure _
theorem DReply.isAgg (x : DReply) : isAggAV x.enc = true := rfl
theorem DReply.pures (l : List DReply) : Pure (.lst 3 (l.map DReply.enc) none) := pure_list DReply.pure l

structure DAsk where
  Text : ByteArray
  Bytes : Bool
  Image : List Int
  Moves : ByteArray
  Fuel : Int

def DAsk.enc (x : DAsk) : AV := .agg [.s x.Text, .b x.Bytes, .lst 1 (x.Image.map AV.u8) none, .s x.Moves, .i x.Fuel]
theorem DAsk.enc_eq (x : DAsk) : x.enc = .agg [.s x.Text, .b x.Bytes, .lst 1 (x.Image.map AV.u8) none, .s x.Moves, .i x.Fuel] := rfl
theorem DAsk.enc_cells (x : DAsk) : x.enc.cells = [.s x.Text, .b x.Bytes, .lst 1 (x.Image.map AV.u8) none, .s x.Moves, .i x.Fuel] := rfl
theorem DAsk.fold (x : DAsk) : AV.agg [.s x.Text, .b x.Bytes, .lst 1 (x.Image.map AV.u8) none, .s x.Moves, .i x.Fuel] = x.enc := rfl
theorem DAsk.pure (x : DAsk) : Pure x.enc := by
  refine .agg _ ?_
  repeat' first | exact pure_nil | refine pure_cons ?_ ?_ | exact .raw _ | exact pure_strs _ | exact pure_ints _ | exact pure_u8s _ | exact pure_ints2 _ | exact pure_lst _
theorem DAsk.isAgg (x : DAsk) : isAggAV x.enc = true := rfl
theorem DAsk.pures (l : List DAsk) : Pure (.lst 5 (l.map DAsk.enc) none) := pure_list DAsk.pure l

structure DOp where
  Kind : Int
  Ask : DAsk
  Ins : List (List Int)
  Fault : Int

def DOp.enc (x : DOp) : AV := .agg [.i x.Kind, .s x.Ask.Text, .b x.Ask.Bytes, .lst 1 (x.Ask.Image.map AV.u8) none, .s x.Ask.Moves, .i x.Ask.Fuel, .lst 1 (x.Ins.map AV.il) none, .i x.Fault]
theorem DOp.enc_eq (x : DOp) : x.enc = .agg [.i x.Kind, .s x.Ask.Text, .b x.Ask.Bytes, .lst 1 (x.Ask.Image.map AV.u8) none, .s x.Ask.Moves, .i x.Ask.Fuel, .lst 1 (x.Ins.map AV.il) none, .i x.Fault] := rfl
theorem DOp.enc_cells (x : DOp) : x.enc.cells = [.i x.Kind, .s x.Ask.Text, .b x.Ask.Bytes, .lst 1 (x.Ask.Image.map AV.u8) none, .s x.Ask.Moves, .i x.Ask.Fuel, .lst 1 (x.Ins.map AV.il) none, .i x.Fault] := rfl
theorem DOp.fold (x : DOp) : AV.agg [.i x.Kind, .s x.Ask.Text, .b x.Ask.Bytes, .lst 1 (x.Ask.Image.map AV.u8) none, .s x.Ask.Moves, .i x.Ask.Fuel, .lst 1 (x.Ins.map AV.il) none, .i x.Fault] = x.enc := rfl
theorem DOp.pure (x : DOp) : Pure x.enc := by
  refine .agg _ ?_
  repeat' first | exact pure_nil | refine pure_cons ?_ ?_ | exact .raw _ | exact pure_strs _ | exact pure_ints _ | exact pure_u8s _ | exact pure_ints2 _ | exact pure_lst _
theorem DOp.isAgg (x : DOp) : isAggAV x.enc = true := rfl
theorem DOp.pures (l : List DOp) : Pure (.lst 8 (l.map DOp.enc) none) := pure_list DOp.pure l

abbrev I64 (n : Int) : Prop := -9223372036854775808 ≤ n ∧ n ≤ 9223372036854775807
abbrev S47 (s : ByteArray) : Prop := s.size ≤ maxLen
mutual
def Ex.ok : Ex → Prop
  | .mk k n m o a s => I64 k ∧ I64 n ∧ S47 m ∧ I64 o ∧ (∀ y ∈ a, S47 y) ∧ Ex.oks s
def Ex.oks : List Ex → Prop
  | [] => True
  | x :: xs => Ex.ok x ∧ Ex.oks xs
end
theorem oks_iff (l : List Ex) : Ex.oks l ↔ ∀ x ∈ l, x.ok := by
  induction l with
  | nil => simp [Ex.oks]
  | cons x l ih => simp [Ex.oks, ih]
theorem Ex.ok_eq (e : Ex) : e.ok ↔ (I64 e.kind ∧ I64 e.n ∧ S47 e.name ∧ I64 e.op ∧ (∀ y ∈ e.arms, S47 y) ∧ ∀ x ∈ e.subs, x.ok) := by
  cases e; simp [Ex.ok, oks_iff, Ex.kind, Ex.n, Ex.name, Ex.op, Ex.arms, Ex.subs]
def DTy.ok (x : DTy) : Prop := I64 x.Kind ∧ I64 x.Enum ∧ I64 x.Len
def DEnum.ok (x : DEnum) : Prop := S47 x.Name ∧ (∀ y ∈ x.Ctors, S47 y)
def DDecl.ok (x : DDecl) : Prop := S47 x.Name ∧ x.Ty.ok ∧ S47 x.On ∧ S47 x.Ctor
def DEq.ok (x : DEq) : Prop := (∀ y ∈ x.Names, S47 y) ∧ x.E.ok
def DNode.ok (x : DNode) : Prop := S47 x.Name ∧ (∀ y ∈ x.Ins, y.ok) ∧ (∀ y ∈ x.Outs, y.ok) ∧ (∀ y ∈ x.Vars, y.ok) ∧ (∀ y ∈ x.Eqs, y.ok)
def DProg.ok (x : DProg) : Prop := (∀ y ∈ x.Enums, y.ok) ∧ (∀ y ∈ x.Nodes, y.ok)
def DCond.ok (x : DCond) : Prop := S47 x.Var ∧ I64 x.Val
def DAtom.ok (x : DAtom) : Prop := S47 x.Var ∧ I64 x.N
def DPlain.ok (x : DPlain) : Prop := I64 x.Kind ∧ (∀ y ∈ x.Names, S47 y) ∧ I64 x.Op ∧ (∀ y ∈ x.Args, y.ok) ∧ (∀ y ∈ x.Init, I64 y) ∧ I64 x.Node ∧ x.Every.ok ∧ (∀ y ∈ x.On, y.ok)
def DVar.ok (x : DVar) : Prop := S47 x.Name ∧ x.Ty.ok ∧ (∀ y ∈ x.On, y.ok)
def DFlow.ok (x : DFlow) : Prop := S47 x.Name ∧ (∀ y ∈ x.Ins, y.ok) ∧ (∀ y ∈ x.Outs, y.ok) ∧ (∀ y ∈ x.Vars, y.ok) ∧ (∀ y ∈ x.Eqs, y.ok)
def DFlows.ok (x : DFlows) : Prop := (∀ y ∈ x.Enums, y.ok) ∧ (∀ y ∈ x.Flows, y.ok)
def DAsked.ok (x : DAsked) : Prop := S47 x.Name ∧ x.E.ok ∧ (∀ y ∈ x.On, y.ok)
def DFault.ok (x : DFault) : Prop := I64 x.Node ∧ I64 x.Eq ∧ I64 x.Err
def DCell.ok (x : DCell) : Prop := S47 x.Path ∧ (∀ y ∈ x.Vals, I64 y)
def DReply.ok (x : DReply) : Prop := I64 x.Err ∧ (∀ z ∈ x.Outs, ∀ y ∈ z, I64 y) ∧ (∀ y ∈ x.Cells, y.ok)
def DAsk.ok (x : DAsk) : Prop := S47 x.Text ∧ (∀ y ∈ x.Image, 0 ≤ y ∧ y ≤ 255) ∧ S47 x.Moves ∧ I64 x.Fuel
def DOp.ok (x : DOp) : Prop := I64 x.Kind ∧ x.Ask.ok ∧ (∀ z ∈ x.Ins, ∀ y ∈ z, I64 y) ∧ I64 x.Fault
attribute [go_sem] DTy.fold DTy.enc_cells DTy.isAgg DEnum.fold DEnum.enc_cells DEnum.isAgg DDecl.fold DDecl.enc_cells DDecl.isAgg DEq.fold DEq.enc_cells DEq.isAgg DNode.fold DNode.enc_cells DNode.isAgg DProg.fold DProg.enc_cells DProg.isAgg DCond.fold DCond.enc_cells DCond.isAgg DAtom.fold DAtom.enc_cells DAtom.isAgg DPlain.fold DPlain.enc_cells DPlain.isAgg DVar.fold DVar.enc_cells DVar.isAgg DFlow.fold DFlow.enc_cells DFlow.isAgg DFlows.fold DFlows.enc_cells DFlows.isAgg DAsked.fold DAsked.enc_cells DAsked.isAgg DFault.fold DFault.enc_cells DFault.isAgg DCell.fold DCell.enc_cells DCell.isAgg DReply.fold DReply.enc_cells DReply.isAgg DAsk.fold DAsk.enc_cells DAsk.isAgg DOp.fold DOp.enc_cells DOp.isAgg
attribute [irreducible] DTy.enc DEnum.enc DDecl.enc DEq.enc DNode.enc DProg.enc DCond.enc DAtom.enc DPlain.enc DVar.enc DFlow.enc DFlows.enc DAsked.enc DFault.enc DCell.enc DReply.enc DAsk.enc DOp.enc
end Go.Abs

namespace Go.Proofs.YtipcmpkihhfhcaaGreatDoor
open Go.Abs
set_option maxRecDepth 20000
set_option linter.unusedSimpArgs false
set_option linter.unusedVariables false
set_option maxHeartbeats 1000000
attribute [local irreducible] vc vcOps vcStep vcGuard prK hrK gK gsK brK callK ElemK SeqK BlockK ScopeK OpsK CallK LoopK LoopGo finPost ACall PCall PCallE BCall vqOps vqStep vqGuard qrK heK pcK gqK gqsK QOpsK qcallK DrawK

theorem ty_list {α : Type} {enc : α → AV} {n : Nat} {t : TypeId} {q : α → Prop} (h : ∀ cs, Ty ti n t cs → ∃ x : α, mkT (ti t) cs = enc x ∧ q x) : ∀ {es : List (List AV)}, (∀ x ∈ es, Ty ti n t x) → ∃ l : List α, es.map (mkT (ti t)) = l.map enc ∧ ∀ x ∈ l, q x
  | [], _ => ⟨[], rfl, by simp⟩
  | x :: es, hx => by
    obtain ⟨y, hy, hq⟩ := h x (hx x (by simp))
    obtain ⟨l, hl, hql⟩ := ty_list h (es := es) fun z hz => hx z (by simp [hz])
    exact ⟨y :: l, by simp [hy, hl], by simp only [List.mem_cons]; rintro z (rfl | hz); exact hq; exact hql z hz⟩
theorem ty_slice {α : Type} {enc : α → AV} {t e sz : Nat} (hk : (ti t).kind = .slice e) (hs : (ti e).size = sz) {n : Nat} {q : α → Prop} (h : ∀ n' cs, n' < n → Ty ti n' e cs → ∃ x : α, mkT (ti e) cs = enc x ∧ q x) {cs : List AV} (hc : Ty ti n t cs) : ∃ l : List α, cs = [.lst sz (l.map enc) none] ∧ ∀ x ∈ l, q x := by
  cases n with
  | zero => exact hc.elim
  | succ n =>
    unfold Ty at hc
    simp only [hk] at hc
    obtain ⟨es, rfl, _, hes⟩ := hc
    obtain ⟨l, hl, hq⟩ := ty_list (enc := enc) (t := e) (fun cs hcs => h n cs (by omega) hcs) hes
    exact ⟨l, by rw [hl, hs], hq⟩
theorem ty_iK {t : Nat} (hk : (ti t).kind = .int .i64) {n : Nat} {cs : List AV} (h : Ty ti n t cs) : ∃ k : Int, cs = [.i k] ∧ I64 k := by
  cases n with
  | zero => exact h.elim
  | succ n =>
    unfold Ty at h
    simp only [hk] at h
    obtain ⟨k, rfl, hw⟩ := h
    simp only [Lit.wf, Bool.and_eq_true, decide_eq_true_eq] at hw
    exact ⟨k, rfl, (hw : (IntKind.i64.min : Int) ≤ k ∧ k ≤ IntKind.i64.max)⟩
theorem ty_uK {t : Nat} (hk : (ti t).kind = .int .u8) {n : Nat} {cs : List AV} (h : Ty ti n t cs) : ∃ k : Int, cs = [.raw (.int .u8 k)] ∧ 0 ≤ k ∧ k ≤ 255 := by
  cases n with
  | zero => exact h.elim
  | succ n =>
    unfold Ty at h
    simp only [hk] at h
    obtain ⟨k, rfl, hw⟩ := h
    simp only [Lit.wf, Bool.and_eq_true, decide_eq_true_eq] at hw
    exact ⟨k, rfl, (hw : (IntKind.u8.min : Int) ≤ k ∧ k ≤ IntKind.u8.max)⟩
theorem ty_sK {t : Nat} (hk : (ti t).kind = .string) {n : Nat} {cs : List AV} (h : Ty ti n t cs) : ∃ k : ByteArray, cs = [.s k] ∧ S47 k := by
  cases n with
  | zero => exact h.elim
  | succ n => unfold Ty at h; simp only [hk] at h; obtain ⟨k, rfl, hw⟩ := h; exact ⟨k, rfl, hw⟩
theorem ty_bK {t : Nat} (hk : (ti t).kind = .bool) {n : Nat} {cs : List AV} (h : Ty ti n t cs) : ∃ k : Bool, cs = [.b k] := by
  cases n with
  | zero => exact h.elim
  | succ n => unfold Ty at h; simp only [hk] at h; obtain ⟨k, rfl⟩ := h; exact ⟨k, rfl⟩
theorem ty_i {n : Nat} {cs : List AV} (h : Ty ti n 3 cs) : ∃ k : Int, cs = [.i k] ∧ I64 k := ty_iK rfl h
theorem ty_l {n : Nat} {cs : List AV} (h : Ty ti n 2 cs) : ∃ k : Int, cs = [.i k] ∧ I64 k := ty_iK rfl h
theorem ty_s {n : Nat} {cs : List AV} (h : Ty ti n 9 cs) : ∃ k : ByteArray, cs = [.s k] ∧ S47 k := ty_sK rfl h
theorem ty_b {n : Nat} {cs : List AV} (h : Ty ti n 4 cs) : ∃ k : Bool, cs = [.b k] := ty_bK rfl h
theorem ty_ss {n : Nat} {cs : List AV} (h : Ty ti n 47 cs) : ∃ l : List ByteArray, cs = [.lst 1 (l.map AV.s) none] ∧ ∀ y ∈ l, S47 y := ty_slice (e := 9) rfl rfl (fun _ _ _ hc => by obtain ⟨s, rfl, hs⟩ := ty_s hc; exact ⟨s, rfl, hs⟩) h
theorem ty_il {n : Nat} {cs : List AV} (h : Ty ti n 59 cs) : ∃ l : List Int, cs = [.lst 1 (l.map AV.i) none] ∧ ∀ y ∈ l, I64 y := ty_slice (e := 2) rfl rfl (fun _ _ _ hc => by obtain ⟨s, rfl, hs⟩ := ty_l hc; exact ⟨s, rfl, hs⟩) h

theorem ty_ex : ∀ {n : Nat} {cs : List AV}, Ty ti n 49 cs → ∃ e : Ex, .agg cs = e.enc ∧ e.ok := by
  intro n
  induction n using Nat.strongRecOn with
  | _ n ih =>
  intro cs h
  cases n with
  | zero => exact h.elim
  | succ n =>
    simp only [Ty, ti, FieldsTy] at h
    obtain ⟨a1, b1, rfl, h1, a2, b2, rfl, h2, a3, b3, rfl, h3, a4, b4, rfl, h4, a5, b5, rfl, h5, a6, b6, rfl, h6, rfl⟩ := h
    obtain ⟨k, rfl, q1⟩ := ty_i h1
    obtain ⟨m, rfl, q2⟩ := ty_l h2
    obtain ⟨nm, rfl, q3⟩ := ty_s h3
    obtain ⟨op, rfl, q4⟩ := ty_i h4
    obtain ⟨arms, rfl, q5⟩ := ty_ss h5
    obtain ⟨subs, rfl, q6⟩ := ty_slice (enc := Ex.enc) (t := 45) (e := 49) (sz := 6) rfl rfl (fun n' cs' hn hc => ih n' (by omega) hc) h6
    exact ⟨.mk k m nm op arms subs, by rw [Go.Abs.enc_eq]; rfl, (Ex.ok_eq _).2 ⟨q1, q2, q3, q4, q5, q6⟩⟩
theorem ty_exs {n : Nat} {cs : List AV} (h : Ty ti n 45 cs) : ∃ l : List Ex, cs = [.lst 6 (l.map Ex.enc) none] ∧ ∀ x ∈ l, x.ok := ty_slice (e := 49) rfl rfl (fun _ _ _ hc => ty_ex hc) h
theorem ty_DTy {n : Nat} {cs : List AV} (h : Ty ti n 42 cs) : ∃ x : DTy, .agg cs = x.enc ∧ x.ok := by
  cases n with
  | zero => exact h.elim
  | succ n =>
    simp only [Ty, ti, FieldsTy] at h
    obtain ⟨a0, b0, rfl, h0, a1, b1, rfl, h1, a2, b2, rfl, h2, rfl⟩ := h
    obtain ⟨x0, rfl, q0⟩ := ty_iK rfl h0
    obtain ⟨x1, rfl, q1⟩ := ty_iK rfl h1
    obtain ⟨x2, rfl, q2⟩ := ty_iK rfl h2
    exact ⟨⟨x0, x1, x2⟩, by rw [DTy.enc_eq]; rfl, ⟨q0, q1, q2⟩⟩
theorem tys_DTy {n : Nat} {cs : List AV} (h : Ty ti n 123 cs) : ∃ l : List DTy, cs = [.lst 3 (l.map DTy.enc) none] ∧ ∀ x ∈ l, x.ok := ty_slice (e := 42) rfl rfl (fun _ _ _ hc => ty_DTy hc) h
theorem ty_DEnum {n : Nat} {cs : List AV} (h : Ty ti n 86 cs) : ∃ x : DEnum, .agg cs = x.enc ∧ x.ok := by
  cases n with
  | zero => exact h.elim
  | succ n =>
    simp only [Ty, ti, FieldsTy] at h
    obtain ⟨a0, b0, rfl, h0, a1, b1, rfl, h1, rfl⟩ := h
    obtain ⟨x0, rfl, q0⟩ := ty_s h0
    obtain ⟨x1, rfl, q1⟩ := ty_ss h1
    exact ⟨⟨x0, x1⟩, by rw [DEnum.enc_eq]; rfl, ⟨q0, q1⟩⟩
theorem tys_DEnum {n : Nat} {cs : List AV} (h : Ty ti n 22 cs) : ∃ l : List DEnum, cs = [.lst 2 (l.map DEnum.enc) none] ∧ ∀ x ∈ l, x.ok := ty_slice (e := 86) rfl rfl (fun _ _ _ hc => ty_DEnum hc) h
theorem ty_DDecl {n : Nat} {cs : List AV} (h : Ty ti n 44 cs) : ∃ x : DDecl, .agg cs = x.enc ∧ x.ok := by
  cases n with
  | zero => exact h.elim
  | succ n =>
    simp only [Ty, ti, FieldsTy] at h
    obtain ⟨a0, b0, rfl, h0, a1, b1, rfl, h1, a2, b2, rfl, h2, a3, b3, rfl, h3, rfl⟩ := h
    obtain ⟨x0, rfl, q0⟩ := ty_s h0
    obtain ⟨x1, e1, q1⟩ := ty_DTy h1
    obtain ⟨x2, rfl, q2⟩ := ty_s h2
    obtain ⟨x3, rfl, q3⟩ := ty_s h3
    rw [DTy.enc_eq] at e1
    cases e1
    exact ⟨⟨x0, x1, x2, x3⟩, by rw [DDecl.enc_eq]; rfl, ⟨q0, q1, q2, q3⟩⟩
theorem tys_DDecl {n : Nat} {cs : List AV} (h : Ty ti n 35 cs) : ∃ l : List DDecl, cs = [.lst 6 (l.map DDecl.enc) none] ∧ ∀ x ∈ l, x.ok := ty_slice (e := 44) rfl rfl (fun _ _ _ hc => ty_DDecl hc) h
theorem ty_DEq {n : Nat} {cs : List AV} (h : Ty ti n 51 cs) : ∃ x : DEq, .agg cs = x.enc ∧ x.ok := by
  cases n with
  | zero => exact h.elim
  | succ n =>
    simp only [Ty, ti, FieldsTy] at h
    obtain ⟨a0, b0, rfl, h0, a1, b1, rfl, h1, rfl⟩ := h
    obtain ⟨x0, rfl, q0⟩ := ty_ss h0
    obtain ⟨x1, e1, q1⟩ := ty_ex h1
    rw [Go.Abs.enc_eq] at e1
    cases e1
    exact ⟨⟨x0, x1⟩, by rw [DEq.enc_eq]; rfl, ⟨q0, q1⟩⟩
theorem tys_DEq {n : Nat} {cs : List AV} (h : Ty ti n 36 cs) : ∃ l : List DEq, cs = [.lst 7 (l.map DEq.enc) none] ∧ ∀ x ∈ l, x.ok := ty_slice (e := 51) rfl rfl (fun _ _ _ hc => ty_DEq hc) h
theorem ty_DNode {n : Nat} {cs : List AV} (h : Ty ti n 38 cs) : ∃ x : DNode, .agg cs = x.enc ∧ x.ok := by
  cases n with
  | zero => exact h.elim
  | succ n =>
    simp only [Ty, ti, FieldsTy] at h
    obtain ⟨a0, b0, rfl, h0, a1, b1, rfl, h1, a2, b2, rfl, h2, a3, b3, rfl, h3, a4, b4, rfl, h4, rfl⟩ := h
    obtain ⟨x0, rfl, q0⟩ := ty_s h0
    obtain ⟨x1, rfl, q1⟩ := tys_DDecl h1
    obtain ⟨x2, rfl, q2⟩ := tys_DDecl h2
    obtain ⟨x3, rfl, q3⟩ := tys_DDecl h3
    obtain ⟨x4, rfl, q4⟩ := tys_DEq h4
    exact ⟨⟨x0, x1, x2, x3, x4⟩, by rw [DNode.enc_eq]; rfl, ⟨q0, q1, q2, q3, q4⟩⟩
theorem tys_DNode {n : Nat} {cs : List AV} (h : Ty ti n 23 cs) : ∃ l : List DNode, cs = [.lst 5 (l.map DNode.enc) none] ∧ ∀ x ∈ l, x.ok := ty_slice (e := 38) rfl rfl (fun _ _ _ hc => ty_DNode hc) h
theorem ty_DProg {n : Nat} {cs : List AV} (h : Ty ti n 25 cs) : ∃ x : DProg, .agg cs = x.enc ∧ x.ok := by
  cases n with
  | zero => exact h.elim
  | succ n =>
    simp only [Ty, ti, FieldsTy] at h
    obtain ⟨a0, b0, rfl, h0, a1, b1, rfl, h1, rfl⟩ := h
    obtain ⟨x0, rfl, q0⟩ := tys_DEnum h0
    obtain ⟨x1, rfl, q1⟩ := tys_DNode h1
    exact ⟨⟨x0, x1⟩, by rw [DProg.enc_eq]; rfl, ⟨q0, q1⟩⟩
theorem ty_DFault {n : Nat} {cs : List AV} (h : Ty ti n 33 cs) : ∃ x : DFault, .agg cs = x.enc ∧ x.ok := by
  cases n with
  | zero => exact h.elim
  | succ n =>
    simp only [Ty, ti, FieldsTy] at h
    obtain ⟨a0, b0, rfl, h0, a1, b1, rfl, h1, a2, b2, rfl, h2, rfl⟩ := h
    obtain ⟨x0, rfl, q0⟩ := ty_iK rfl h0
    obtain ⟨x1, rfl, q1⟩ := ty_iK rfl h1
    obtain ⟨x2, rfl, q2⟩ := ty_iK rfl h2
    exact ⟨⟨x0, x1, x2⟩, by rw [DFault.enc_eq]; rfl, ⟨q0, q1, q2⟩⟩
theorem eqv_DTy (x y : DTy) : eqV ti 6 42 (.agg x.enc.cells) (.agg y.enc.cells) = some (decide (x = y)) := by
  obtain ⟨xKind, xEnum, xLen⟩ := x
  obtain ⟨yKind, yEnum, yLen⟩ := y
  rw [DTy.enc_cells, DTy.enc_cells]
  simp [eqV, eqFs, ti, loadAV, takeN, kEq, TI.agg, str_beq, int_beq]
theorem eql_DTy (x y : DTy) : structAV ti 42 .eql x.enc y.enc = .ok (.raw (.bool (decide (x = y)))) := by
  unfold structAV
  rw [DTy.isAgg, DTy.isAgg, eqv_DTy]
theorem neq_DTy (x y : DTy) : structAV ti 42 .neq x.enc y.enc = .ok (.raw (.bool (decide (¬ x = y)))) := by
  unfold structAV
  rw [DTy.isAgg, DTy.isAgg, eqv_DTy]
  simp
attribute [go_sem] eql_DTy neq_DTy
theorem eqv_DDecl (x y : DDecl) : eqV ti 6 44 (.agg x.enc.cells) (.agg y.enc.cells) = some (decide (x = y)) := by
  obtain ⟨xName, ⟨xTyKind, xTyEnum, xTyLen⟩, xOn, xCtor⟩ := x
  obtain ⟨yName, ⟨yTyKind, yTyEnum, yTyLen⟩, yOn, yCtor⟩ := y
  rw [DDecl.enc_cells, DDecl.enc_cells]
  simp [eqV, eqFs, ti, loadAV, takeN, kEq, TI.agg, str_beq, int_beq]
theorem eql_DDecl (x y : DDecl) : structAV ti 44 .eql x.enc y.enc = .ok (.raw (.bool (decide (x = y)))) := by
  unfold structAV
  rw [DDecl.isAgg, DDecl.isAgg, eqv_DDecl]
theorem neq_DDecl (x y : DDecl) : structAV ti 44 .neq x.enc y.enc = .ok (.raw (.bool (decide (¬ x = y)))) := by
  unfold structAV
  rw [DDecl.isAgg, DDecl.isAgg, eqv_DDecl]
  simp
attribute [go_sem] eql_DDecl neq_DDecl
theorem eqv_DFault (x y : DFault) : eqV ti 6 33 (.agg x.enc.cells) (.agg y.enc.cells) = some (decide (x = y)) := by
  obtain ⟨xNode, xEq, xErr⟩ := x
  obtain ⟨yNode, yEq, yErr⟩ := y
  rw [DFault.enc_cells, DFault.enc_cells]
  simp [eqV, eqFs, ti, loadAV, takeN, kEq, TI.agg, str_beq, int_beq]
theorem eql_DFault (x y : DFault) : structAV ti 33 .eql x.enc y.enc = .ok (.raw (.bool (decide (x = y)))) := by
  unfold structAV
  rw [DFault.isAgg, DFault.isAgg, eqv_DFault]
theorem neq_DFault (x y : DFault) : structAV ti 33 .neq x.enc y.enc = .ok (.raw (.bool (decide (¬ x = y)))) := by
  unfold structAV
  rw [DFault.isAgg, DFault.isAgg, eqv_DFault]
  simp
attribute [go_sem] eql_DFault neq_DFault

abbrev dataTypes : List TypeId := [2, 3, 4, 5, 9, 22, 23, 25, 29, 33, 35, 36, 38, 42, 44, 45, 47, 49, 51, 59, 86, 123]
theorem dataClosed : closedT ti dataTypes = true := by kernel_rfl
end Go.Proofs.YtipcmpkihhfhcaaGreatDoor

/-
  The abstract layer, part R: a loop's rule that keeps what the loop does not touch; calls that run in the caller's heap.
-/
namespace Go.Abs
open Go.RowKit

section
variable {P : Program} {T : TypeId → TI} {s s' : List AV} {h h' : List Blk} {Q : Post} {c : Code}

def carried (C : List (Nat × AV)) (t : Nat) : Option AV :=
  match C with
  | [] => none
  | (u, v) :: r => match Nat.beq u t with
    | true => some v
    | false => carried r t

def inD (D : List Nat) (t : Nat) : Bool :=
  match D with
  | [] => false
  | u :: r => match Nat.beq u t with
    | true => true
    | false => inD r t

/-- A state: the slots of C as told, those of D whatever they are, the others as in the given one. -/
def mixC (D : List Nat) (C : List (Nat × AV)) (j : Nat → AV) : Nat → List AV → List AV
  | _, [] => []
  | k, a :: l => (match carried C k with | some v => v | none => match inD D k with | true => j k | false => a) :: mixC D C j (k + 1) l

def Agree (C : List (Nat × AV)) (s : List AV) : Prop := ∀ p ∈ C, s[p.1]? = some p.2
theorem Agree.nil : Agree [] s := by intro p hp; simp at hp
theorem Agree.cons {C : List (Nat × AV)} {t : Nat} {v : AV} (h : s[t]? = some v) (hv : Agree C s) : Agree ((t, v) :: C) s := by
  intro p hp
  rcases List.mem_cons.1 hp with rfl | hp
  · exact h
  · exact hv p hp

def Fr (D : List Nat) (s s' : List AV) : Prop := s' = mixC D [] (fun k => s'.getD k (.tup [])) 0 s

theorem mixC_at (D : List Nat) (C : List (Nat × AV)) (j : Nat → AV) : ∀ (s : List AV) (k i : Nat), (mixC D C j k s)[i]? = s[i]?.map fun a => match carried C (k + i) with | some v => v | none => match inD D (k + i) with | true => j (k + i) | false => a
  | [], k, i => by simp [mixC]
  | a :: l, k, 0 => by simp [mixC]
  | a :: l, k, i + 1 => by
    simp only [mixC, List.getElem?_cons_succ]
    rw [mixC_at D C j l (k + 1) i]
    have : k + 1 + i = k + (i + 1) := by omega
    rw [this]

theorem carried_some {C : List (Nat × AV)} {t : Nat} {v : AV} (h : carried C t = some v) : (t, v) ∈ C := by
  induction C with
  | nil => cases h
  | cons p r ih =>
    obtain ⟨u, x⟩ := p
    simp only [carried] at h
    split at h
    · rename_i hb
      cases h
      rw [Nat.eq_of_beq_eq_true hb]
      simp
    · exact List.mem_cons_of_mem _ (ih h)

theorem mix_eq {D : List Nat} {C : List (Nat × AV)} (hf : Fr D s s') (ha : Agree C s') : s' = mixC D C (fun k => s'.getD k (.tup [])) 0 s := by
  apply List.ext_getElem?
  intro i
  rw [mixC_at]
  rw [Nat.zero_add]
  have hi : s'[i]? = (mixC D [] (fun k => s'.getD k (.tup [])) 0 s)[i]? := congrArg (fun l => l[i]?) hf
  rw [mixC_at, Nat.zero_add] at hi
  cases hc : carried C i with
  | none => rw [hi]; simp [carried]
  | some v =>
    have := ha _ (carried_some hc)
    simp only at this
    rw [this]
    rw [this] at hi
    cases hs : s[i]? with
    | none => rw [hs] at hi; simp at hi
    | some a => simp

/-- What a round comes to, the heap told with it. -/
def FrI (I : Nat → List (Nat × AV) → List Blk → Prop) (D : List Nat) (s : List AV) (n : Nat) (s' : List AV) (h' : List Blk) : Prop := ∃ C, I n C h' ∧ Agree C s' ∧ Fr D s s'

theorem fr_self (D : List Nat) (s : List AV) : Fr D s s := by
  apply List.ext_getElem?
  intro i
  rw [mixC_at]
  cases hs : s[i]? with
  | none => simp
  | some a =>
    simp only [Option.map_some, carried, Nat.zero_add, Option.some.injEq]
    split <;> simp [List.getD_eq_getElem?_getD, hs]

/-- **A loop: the invariant tells the slots that it carries; all that the loop does not touch stays.** -/
theorem loop_fr (D : List Nat) (I : Nat → List (Nat × AV) → List Blk → Prop) (n0 : Nat) (C0 : List (Nat × AV)) (hi : I n0 C0 h) (hc : Agree C0 s)
    (hstep : ∀ n C j h', I n C h' → vc P T c (LoopK (FrI I D s) n Q) (mixC D C j 0 s) h') : vc P T (.loop c) Q s h := by
  refine loop_rule (FrI I D s) n0 ⟨C0, hi, hc, fr_self D s⟩ ?_
  rintro n s' h' ⟨C, hI, ha, hf⟩
  have := hstep n C (fun k => s'.getD k (.tup [])) h' hI
  rw [← mix_eq hf ha] at this
  exact this

theorem loopFr {I : Nat → List (Nat × AV) → List Blk → Prop} {D : List Nat} {n : Nat} (m : Nat) (hm : m < n) {C : List (Nat × AV)} (hi : I m C h') (ha : Agree C s') (hf : Fr D s s') : LoopGo (FrI I D s) n s' h' := ⟨m, hm, C, hi, ha, hf⟩

/-- The heap stays. -/
theorem loop_frH (D : List Nat) (I : Nat → List (Nat × AV) → Prop) (n0 : Nat) (C0 : List (Nat × AV)) (hi : I n0 C0) (hc : Agree C0 s)
    (hstep : ∀ n C j, I n C → vc P T c (LoopK (FrI (fun n C h' => I n C ∧ h' = h) D s) n Q) (mixC D C j 0 s) h) : vc P T (.loop c) Q s h :=
  loop_fr D (fun n C h' => I n C ∧ h' = h) n0 C0 ⟨hi, rfl⟩ hc fun n C j h' hI => by obtain ⟨hI, rfl⟩ := hI; exact hstep n C j hI

theorem loopFrH {I : Nat → List (Nat × AV) → Prop} {D : List Nat} {n : Nat} (m : Nat) (hm : m < n) {C : List (Nat × AV)} (hi : I m C) (ha : Agree C s') (hf : Fr D s s') : LoopGo (FrI (fun n C h' => I n C ∧ h' = h) D s) n s' h := ⟨m, hm, C, ⟨hi, rfl⟩, ha, hf⟩

/-- The heap has more behind it. -/
def HExt (h h' : List Blk) : Prop := ∃ r, h' = h ++ r

/-- The heap gets more behind it. -/
theorem loop_frX (D : List Nat) (I : Nat → List (Nat × AV) → Prop) (n0 : Nat) (C0 : List (Nat × AV)) (hi : I n0 C0) (hc : Agree C0 s)
    (hstep : ∀ n C j r, I n C → vc P T c (LoopK (FrI (fun n C h' => I n C ∧ HExt h h') D s) n Q) (mixC D C j 0 s) (h ++ r)) : vc P T (.loop c) Q s h :=
  loop_fr D (fun n C h' => I n C ∧ HExt h h') n0 C0 ⟨hi, [], by simp⟩ hc fun n C j h' hI => by obtain ⟨hI, r, rfl⟩ := hI; exact hstep n C j r hI

theorem loopFrX {I : Nat → List (Nat × AV) → Prop} {D : List Nat} {n : Nat} (m : Nat) (hm : m < n) {C : List (Nat × AV)} (r : List Blk) (hi : I m C) (ha : Agree C s') (hf : Fr D s s') (hh : h' = h ++ r) : LoopGo (FrI (fun n C h' => I n C ∧ HExt h h') D s) n s' h' := ⟨m, hm, C, ⟨hi, r, hh⟩, ha, hf⟩

theorem Agree.next {C : List (Nat × AV)} {t i : Nat} (h : s[t]? = some (.raw (.int .i64 (IntKind.i64.wrap ((i : Int) + 1))))) (hi : i < 9223372036854775807) (hv : Agree C s) : Agree ((t, .raw (.int .i64 ((i + 1 : Nat) : Int))) :: C) s := by
  have : IntKind.i64.wrap ((i : Int) + 1) = ((i + 1 : Nat) : Int) := by rw [IntKind.wrap_i64]; omega
  rw [this] at h
  exact .cons h hv

theorem loop_ghost {s' : List AV} {h' : List Blk} (hg : Ghost s h s' h') (hv : vc P T (.loop c) Q s' h') : vc P T (.loop c) Q s h := by
  obtain ⟨s0, h0, hg', hn⟩ := hv
  exact ⟨s0, h0, hg.trans hg', hn⟩

/-- A slot that holds no slice becomes a slice of the call's own. -/
theorem ghost_own (t : Nat) (e : TypeId) (sz : Nat) (ht : s[t]? = some (.raw (.slice none 0 0))) : Ghost s h (s.set t (.own sz h.length 0)) (h ++ [.own e sz []]) := by
  intro S φ w vs hs hr
  obtain ⟨k1, k2⟩ := hr.push (l := .tok 0 (.slice none 0 0)) (x := .own e sz []) (S' := S) (w' := w) rfl rfl rfl (Nat.le_refl _) (fun _ _ => rfl) (fun _ h => h) (fun _ h => .inl h) hr.bnd
    ⟨_, upd_same _ _ _, by simp, .inl ⟨rfl, rfl⟩⟩ (fun b hb => by simp [blockOf] at hb)
  refine ⟨S, _, ?_, k1, k2⟩
  have hs' := k2.CAll hs
  obtain ⟨v, hv, hc⟩ := hs.at ht
  cases hc
  have := hs'.set t (C.own (S := S) (w := w) sz h.length 0 none 0 (Nat.le_refl _) (by simp [maxLen]) ⟨_, _, upd_same _ _ _, Nat.le_refl _, fun _ => rfl⟩)
  have e : vs.setIfInBounds t (.slice none 0 0) = vs := by
    apply Array.ext
    · simp
    · intro i h1 h2
      by_cases ei : t = i
      · subst ei
        have hv' : vs[t] = .slice none 0 0 := by
          rw [Array.getElem?_eq_getElem h2] at hv
          exact Option.some.inj hv
        simp [hv']
      · simp [h2, ei]
  rw [e] at this
  exact this

/-- Values that speak of the blocks below n alone. -/
inductive Blw (n : Nat) : AV → Prop where
  | raw (v : Value) : Blw n (.raw v)
  | agg (cs : List AV) (h : ∀ c ∈ cs, Blw n c) : Blw n (.agg cs)
  | tup (cs : List AV) (h : ∀ c ∈ cs, Blw n c) : Blw n (.tup cs)
  | lst (sz : Nat) (es : List AV) (tok : Option Nat) (h : ∀ c ∈ flat es, Blw n c) (ht : ∀ k, tok = some k → k < n) : Blw n (.lst sz es tok)
  | eptr (cs : List AV) (h : ∀ c ∈ cs, Blw n c) : Blw n (.eptr cs)
  | ptr (k off : Nat) (h : k < n) : Blw n (.ptr k off)
  | sl (sz k off len : Nat) (h : k < n) : Blw n (.sl sz k off len)
  | fn (f : Fn) (xs ys : List AV) (h : ∀ c ∈ xs, Blw n c) (h' : ∀ c ∈ ys, Blw n c) : Blw n (.fn f xs ys)
  | map (k : Nat) (h : k < n) : Blw n (.map k)
  | own (sz k m : Nat) (h : k < n) : Blw n (.own sz k m)

theorem Blw.pure {n : Nat} {a : AV} (h : Pure a) : Blw n a := by
  induction h with
  | raw v => exact .raw v
  | agg cs _ ih => exact .agg cs ih
  | tup cs _ ih => exact .tup cs ih
  | lst sz es _ ih => exact .lst sz es none ih (fun k e => by cases e)
  | eptr cs _ ih => exact .eptr cs ih
  | fn f xs ys _ _ ih ih' => exact .fn f xs ys ih ih'

section
variable {S : Addr → Prop} {φ φ' : Nat → Loc} {w : World}

/-- What is told under places that are none from n on speaks of the blocks below n. -/
theorem Blw.of_C {n : Nat} (hf : ∀ k, n ≤ k → φ k = .no) {a : AV} {v : Value} (h : C S w φ a v) : Blw n a := by
  have lt : ∀ {k : Nat}, φ k ≠ .no → k < n := fun {k} hk => by
    rcases Nat.lt_or_ge k n with g | g
    · exact g
    · exact absurd (hf k g) hk
  have all : ∀ {cs : List AV} {vs : Array Value}, vs.size = cs.length → (∀ (i : Nat) a v, cs[i]? = some a → vs[i]? = some v → Blw n a) → ∀ c ∈ cs, Blw n c := by
    intro cs vs hl h c hc
    obtain ⟨i, hi, rfl⟩ := List.getElem_of_mem hc
    exact h i _ vs[i] (List.getElem?_eq_getElem hi) (Array.getElem?_eq_getElem (by omega))
  have cells : ∀ {cs : List AV}, (∀ (j : Nat) c, cs[j]? = some c → Blw n c) → ∀ c ∈ cs, Blw n c := by
    intro cs h c hc
    obtain ⟨i, hi, rfl⟩ := List.getElem_of_mem hc
    exact h i _ (List.getElem?_eq_getElem hi)
  have tk : ∀ {tok : Option Nat} {len : Nat} {v : Value}, TokOK φ tok len v → ∀ k, tok = some k → k < n := by
    intro tok len v ht k e
    subst e
    obtain ⟨_, _, h1, _⟩ := ht
    exact lt (by rw [h1]; simp)
  induction h with
  | raw v => exact .raw v
  | agg cs vs hl h h1 ih => exact .agg cs (all hl ih)
  | tup cs vs hl h ih => exact .tup cs (all hl ih)
  | lst sz es tok a len cap u hlen hcap hmax hsz hm hc h1 ht ih => exact .lst sz es tok (cells ih) (tk ht)
  | lstnil sz tok ht => exact .lst sz [] tok (by simp [flat]) (tk ht)
  | eptr cs a u hm hc h1 ih => exact .eptr cs (cells ih)
  | ptr k off b h => exact .ptr k off (lt (by rw [h]; simp))
  | sl sz k off len b cap h hcap hmax => exact .sl sz k off len (lt (by rw [h]; simp))
  | fn f xs ys vs us hl hl' h h' ih ih' => exact .fn f xs ys (all hl ih) (all hl' ih')
  | map k b h => exact .map k (lt (by rw [h]; simp))
  | own sz k m a cap hcap hmax ht => exact .own sz k m (tk ht k rfl)

/-- What speaks of the blocks below n is told by the places below n. -/
theorem Blw.C {n : Nat} (hf : ∀ k, k < n → φ' k = φ k) {a : AV} {v : Value} (h : C S w φ a v) : Blw n a → Go.Abs.C S w φ' a v := by
  have tk : ∀ {tok : Option Nat} {len : Nat} {v : Value}, TokOK φ tok len v → (∀ k, tok = some k → k < n) → TokOK φ' tok len v := by
    intro tok len v ht hk
    cases tok with
    | none => trivial
    | some k =>
      obtain ⟨m, u, h1, h2⟩ := ht
      exact ⟨m, u, by rw [hf k (hk k rfl)]; exact h1, h2⟩
  induction h with
  | raw v => intro _; exact .raw v
  | agg cs vs hl h h1 ih => intro hb; cases hb with | agg _ hb => exact .agg cs vs hl (fun i a v ha hv => ih i a v ha hv (hb a (List.mem_of_getElem? ha))) h1
  | tup cs vs hl h ih => intro hb; cases hb with | tup _ hb => exact .tup cs vs hl (fun i a v ha hv => ih i a v ha hv (hb a (List.mem_of_getElem? ha)))
  | lst sz es tok a len cap u hlen hcap hmax hsz hm hc h1 ht ih => intro hb; cases hb with | lst _ _ _ hb hk => exact .lst sz es tok a len cap u hlen hcap hmax hsz hm (fun j c hj => ih j c hj (hb c (List.mem_of_getElem? hj))) h1 (tk ht hk)
  | lstnil sz tok ht => intro hb; cases hb with | lst _ _ _ hb hk => exact .lstnil sz tok (tk ht hk)
  | eptr cs a u hm hc h1 ih => intro hb; cases hb with | eptr _ hb => exact .eptr cs a u hm (fun j c hj => ih j c hj (hb c (List.mem_of_getElem? hj))) h1
  | ptr k off b h => intro hb; cases hb with | ptr _ _ hb => exact .ptr k off b (by rw [hf k hb]; exact h)
  | sl sz k off len b cap h hcap hmax => intro hb; cases hb with | sl _ _ _ _ hb => exact .sl sz k off len b cap (by rw [hf k hb]; exact h) hcap hmax
  | fn f xs ys vs us hl hl' h h' ih ih' => intro hb; cases hb with | fn _ _ _ hb hb' => exact .fn f xs ys vs us hl hl' (fun i a v ha hv => ih i a v ha hv (hb a (List.mem_of_getElem? ha))) (fun i a v ha hv => ih' i a v ha hv (hb' a (List.mem_of_getElem? ha)))
  | map k b h => intro hb; cases hb with | map _ hb => exact .map k b (by rw [hf k hb]; exact h)
  | own sz k m a cap hcap hmax ht => intro hb; cases hb with | own _ _ _ hb => exact .own sz k m a cap hcap hmax (tk ht fun j e => by cases e; exact hb)

def BlwBlk (n : Nat) : Blk → Prop
  | .cells _ cs => ∀ c ∈ cs, Blw n c
  | .own _ _ es => ∀ c ∈ flat es, Blw n c
  | .mp kk _ f => ∀ k a, isKey kk k = true → f k = some a → Blw n a
  | .lp _ _ _ _ _ _ s => ∀ c ∈ s, Blw n c
  | _ => True

/-- A heap, and what a call has made of it: what it has turned speaks of nothing new. -/
def Chg (n : Nat) : List Blk → List Blk → Prop
  | [], [] => True
  | x :: r, y :: r' => (x = y ∨ BlwBlk n y) ∧ Chg n r r'
  | _, _ => False

theorem Chg.refl (n : Nat) : ∀ h : List Blk, Chg n h h
  | [] => trivial
  | _ :: r => ⟨.inl rfl, Chg.refl n r⟩

theorem Chg.at {n : Nat} : ∀ {h h' : List Blk}, Chg n h h' → h'.length = h.length ∧ ∀ (k : Nat) y, h'[k]? = some y → h[k]? = some y ∨ BlwBlk n y
  | [], [], _ => ⟨rfl, fun k y h => by simp at h⟩
  | x :: r, y :: r', hc => by
    obtain ⟨h1, h2⟩ := hc.2.at
    refine ⟨by simp [h1], fun k z hz => ?_⟩
    cases k with
    | zero =>
      simp at hz
      subst hz
      rcases hc.1 with e | e
      · exact .inl (by simp [e])
      · exact .inr e
    | succ k => simpa using h2 k z (by simpa using hz)
  | [], _ :: _, h => h.elim
  | _ :: _, [], h => h.elim

theorem RB.low {n : Nat} (hf : ∀ k, k < n → φ' k = φ k) {k : Nat} (hk : k < n) {x : Blk} (hb : RB S w φ k x) (hx : BlwBlk n x) : RB S w φ' k x := by
  cases x with
  | cells t cs =>
    obtain ⟨b, vs, h1, h2, h3, h4, h5⟩ := hb
    exact ⟨b, vs, by rw [hf k hk]; exact h1, h2, ⟨h3.1, fun i a v ha hv => (h3.2 i a v ha hv |> Blw.C hf) (hx a (List.mem_of_getElem? ha))⟩, h4, h5⟩
  | tok e sz m => obtain ⟨u, h1, h2⟩ := hb; exact ⟨u, by rw [hf k hk]; exact h1, h2⟩
  | cut e sz m => obtain ⟨u, h1, h2⟩ := hb; exact ⟨u, by rw [hf k hk]; exact h1, h2⟩
  | own e sz es =>
    obtain ⟨u, h1, h2, h3⟩ := hb
    refine ⟨u, by rw [hf k hk]; exact h1, h2, ?_⟩
    rcases h3 with h3 | ⟨b, cap, vs, g1, g2, g3, g4, g5, g6, g7⟩
    · exact .inl h3
    · exact .inr ⟨b, cap, vs, g1, g2, g3, g4, g5, fun j c hj => by
        obtain ⟨x, q1, q2, q3⟩ := g6 j c hj
        exact ⟨x, q1, Blw.C hf q2 (hx c (List.mem_of_getElem? hj)), q3⟩, g7⟩
  | mp kk m f =>
    obtain ⟨b, es, clock, h1, h2, h3, ⟨m1, m2, m3⟩, h5⟩ := hb
    refine ⟨b, es, clock, by rw [hf k hk]; exact h1, h2, h3, ⟨m1, m2, fun key hkey => ?_⟩, h5⟩
    have := m3 key hkey
    revert this
    cases mfind key es.toList <;> cases hfk : f key <;> intro hh
    · trivial
    · exact hh
    · exact hh
    · exact Blw.C hf hh (hx key _ hkey hfk)
  | it b p =>
    obtain ⟨l, h1, h2, h4⟩ := hb
    exact ⟨l, by rw [hf k hk]; exact h1, h2, h4⟩
  | lp l st pe ps x y s =>
    obtain ⟨h1, fn, tmps, D, h2, h3, h4⟩ := hb
    exact ⟨by rw [hf k hk]; exact h1, fn, tmps, D, h2, ⟨h3.1, fun i a v ha hv => (h3.2 i a v ha hv |> Blw.C hf) (hx a (List.mem_of_getElem? ha))⟩, h4⟩
  | dead => trivial

theorem RB.blw {n : Nat} (hf : ∀ k, n ≤ k → φ k = .no) {k : Nat} {x : Blk} (hb : RB S w φ k x) : BlwBlk n x := by
  cases x with
  | cells t cs =>
    obtain ⟨b, vs, h1, h2, h3, _⟩ := hb
    intro c hc
    obtain ⟨i, hi, rfl⟩ := List.getElem_of_mem hc
    have hiv : i < vs.size := by rw [h3.1]; exact hi
    exact Blw.of_C hf (h3.2 i _ vs[i] (List.getElem?_eq_getElem hi) (Array.getElem?_eq_getElem hiv))
  | tok e sz m => trivial
  | cut e sz m => trivial
  | own e sz es =>
    obtain ⟨u, h1, h2, h3⟩ := hb
    rcases h3 with ⟨_, rfl⟩ | ⟨b, cap, vs, g1, g2, g3, g4, g5, g6, g7⟩
    · intro c hc; simp [flat] at hc
    · intro c hc
      obtain ⟨i, hi, rfl⟩ := List.getElem_of_mem hc
      obtain ⟨x, q1, q2, q3⟩ := g6 i _ (List.getElem?_eq_getElem hi)
      exact Blw.of_C hf q2
  | mp kk m f =>
    obtain ⟨b, es, clock, h1, h2, h3, ⟨m1, m2, m3⟩, h5⟩ := hb
    intro key a hkey hfa
    have := m3 key hkey
    rw [hfa] at this
    revert this
    cases mfind key es.toList with
    | none => intro hh; exact hh.elim
    | some v => intro hh; exact Blw.of_C hf hh
  | it b p => trivial
  | lp l st pe ps x y s =>
    obtain ⟨h1, fn, tmps, D, h2, h3, h4⟩ := hb
    intro c hc
    obtain ⟨i, hi, rfl⟩ := List.getElem_of_mem hc
    have hiv : i < tmps.size := by rw [h3.1]; exact hi
    exact Blw.of_C hf (h3.2 i _ tmps[i] (List.getElem?_eq_getElem hi) (Array.getElem?_eq_getElem hiv))
  | dead => trivial

end

/-- What a function's end must be, in its caller's heap. -/
def FinH (T : TypeId → TI) (rs : List ResultVar) (h : List Blk) (K : AV → List Blk → Prop) (s : List AV) (h' : List Blk) : Prop :=
  ∃ l, resAV T s h' rs = some l ∧ ∃ r h1 junk, Weak (oneOrTup l) r ∧ Blw h.length r ∧ h' = h1 ++ junk ∧ Chg h.length h h1 ∧ K r h1

theorem drop_sound {S S' : Addr → Prop} {φ φ' : Nat → Loc} {w w' : World} {h1 junk : List Blk} (hr : R S φ h w) (hr' : R S' φ' (h1 ++ junk) w') (he : Ext S φ h w S' φ' (h1 ++ junk) w') (hc : Chg h.length h h1) :
    let φ'' : Nat → Loc := fun k => if k < h.length then φ' k else .no
    R S' φ'' h1 w' ∧ Ext S φ h w S' φ'' h1 w' := by
  intro φ''
  obtain ⟨hl, hat⟩ := hc.at
  have hf : ∀ k, k < h.length → φ'' k = φ' k := fun k hk => by simp only [φ'']; rw [if_pos hk]
  have hno : ∀ k, h.length ≤ k → φ'' k = .no := fun k hk => by simp only [φ'']; rw [if_neg (by omega)]
  have hle : ∀ k, (φ k).le (φ'' k) := by
    intro k
    rcases Nat.lt_or_ge k h.length with g | g
    · rw [hf k g]; exact he.loc k
    · rw [hr.fresh k g]; trivial
  have hin : ∀ (k : Nat) y, h1[k]? = some y → k < h.length ∧ (h1 ++ junk)[k]? = some y := fun k y hk => by
    have := lookupD hk
    exact ⟨by omega, by rw [List.getElem?_append_left (by omega)]; exact hk⟩
  have hlow : ∀ (k : Nat) y, h1[k]? = some y → BlwBlk h.length y := by
    intro k y hk
    rcases hat k y hk with g | g
    · exact RB.blw (fun j hj => hr.fresh j hj) (hr.blk k _ g)
    · exact g
  have hown : ∀ b, Owns φ'' h1 b → Owns φ' (h1 ++ junk) b := by
    rintro b ⟨k, x, hk, hb⟩
    obtain ⟨g1, g2⟩ := hin k x hk
    exact ⟨k, x, g2, by rw [← hf k g1]; exact hb⟩
  refine ⟨⟨fun k x hk => ?_, fun k k' x x' b hk hk' hb hb' => ?_, hr'.bnd, fun k hk => hno k (by omega)⟩, ⟨he.os, he.tape, he.output, he.size, he.keep, he.sub, he.cell, hle, he.new, fun b hb => he.own b (hown b hb)⟩⟩
  · obtain ⟨g1, g2⟩ := hin k x hk
    exact RB.low hf g1 (hr'.blk k x g2) (hlow k x hk)
  · obtain ⟨g1, g2⟩ := hin k x hk
    obtain ⟨q1, q2⟩ := hin k' x' hk'
    rw [hf k g1] at hb
    rw [hf k' q1] at hb'
    exact hr'.inj k k' x x' b g2 q2 hb hb'

/-- **A call's contract in its caller's heap, out of the body's 'vc'.** -/
theorem acall_of_vc (hT : TabOK P T) {f : FuncId} {fn : Func} (hf : P.funcs[f]? = some fn) (hname : (fn.name == "runtime.NumGoroutine") = false) (hb : fn.body = some c) {args : List AV} {K : AV → List Blk → Prop}
    {n : Nat} (hn : fn.ntmps = n) {rs : List ResultVar} (hrs : fn.results.toList = rs)
    (hv : vc P T c (finPost (FinH T rs h K)) (args ++ List.replicate (n - args.length) (.tup [])) h) : ACall P f args h K := by
  intro S φ w vs hr hargs
  refine ⟨run_callFunc hf hname (by rw [hb]; rfl) vs w, ?_⟩
  have htmps : CAll S w φ (args ++ List.replicate (n - args.length) (.tup [])) (vs ++ Array.replicate (fn.ntmps - vs.size) undef) := by
    refine hargs.append ⟨by rw [Array.size_replicate, List.length_replicate, hn, hargs.1], fun i x v hx hv => ?_⟩
    rw [List.getElem?_replicate] at hx
    rw [Array.getElem?_replicate] at hv
    split at hx
    · split at hv
      · cases hx; cases hv; exact C.undef_
      · cases hv
    · cases hx
  refine calls_of_vc hT hf hb hv htmps hr ?_
  intro tmps s' h' S' φ' w' hG hs' hr' he
  revert hG
  rintro ⟨l, hl, r, h1, junk, hwk, hbl, rfl, hchg, hKr⟩
  obtain ⟨k1, k2⟩ := drop_sound hr hr' he hchg
  have g3 := results_plain hT hs' hr' (fn := fn) (a := { tmps := tmps, defers := [] }) (by rw [hrs]; exact hl)
  obtain ⟨v', e1, e2⟩ := g3
  exact ⟨v', e1, v', r, h1, S', _, rfl, hKr, Blw.C (fun k hk => by rw [if_pos hk]) (e2.weak hwk) hbl, k1, k2⟩

/-- What a function's end must be, all that it has made kept. -/
def FinK (T : TypeId → TI) (rs : List ResultVar) (K : AV → List Blk → Prop) (s : List AV) (h' : List Blk) : Prop :=
  ∃ l, resAV T s h' rs = some l ∧ ∃ r, Weak (oneOrTup l) r ∧ K r h'
theorem finK {rs : List ResultVar} {K : AV → List Blk → Prop} {r : AV} (hl : resAV T s h rs = some [r]) (hK : K r h) : FinK T rs K s h := ⟨_, hl, r, .refl _, hK⟩

/-- The same, what the call has made kept. -/
theorem acallK_of_vc (hT : TabOK P T) {f : FuncId} {fn : Func} (hf : P.funcs[f]? = some fn) (hname : (fn.name == "runtime.NumGoroutine") = false) (hb : fn.body = some c) {args : List AV} {K : AV → List Blk → Prop}
    {n : Nat} (hn : fn.ntmps = n) {rs : List ResultVar} (hrs : fn.results.toList = rs)
    (hv : vc P T c (finPost (FinK T rs K)) (args ++ List.replicate (n - args.length) (.tup [])) h) : ACall P f args h K := by
  intro S φ w vs hr hargs
  refine ⟨run_callFunc hf hname (by rw [hb]; rfl) vs w, ?_⟩
  have htmps : CAll S w φ (args ++ List.replicate (n - args.length) (.tup [])) (vs ++ Array.replicate (fn.ntmps - vs.size) undef) := by
    refine hargs.append ⟨by rw [Array.size_replicate, List.length_replicate, hn, hargs.1], fun i x v hx hv => ?_⟩
    rw [List.getElem?_replicate] at hx
    rw [Array.getElem?_replicate] at hv
    split at hx
    · split at hv
      · cases hx; cases hv; exact C.undef_
      · cases hv
    · cases hx
  refine calls_of_vc hT hf hb hv htmps hr ?_
  intro tmps s' h' S' φ' w' hG hs' hr' he
  revert hG
  rintro ⟨l, hl, r, hwk, hKr⟩
  obtain ⟨v', e1, e2⟩ := results_plain hT hs' hr' (fn := fn) (a := { tmps := tmps, defers := [] }) (by rw [hrs]; exact hl)
  exact ⟨v', e1, v', r, h', S', φ', rfl, hKr, e2.weak hwk, hr', he⟩

/-- The end where the caller's heap is as it was, and a pure value is handed back. -/
theorem finH0 {rs : List ResultVar} {K : AV → List Blk → Prop} {r : AV} (junk : List Blk) (hl : resAV T s (h ++ junk) rs = some [r]) (hp : Pure r) (hK : K r h) : FinH T rs h K s (h ++ junk) :=
  ⟨_, hl, r, h, junk, .refl _, Blw.pure hp, rfl, Chg.refl _ _, hK⟩
theorem acall_of {f : FuncId} {args : List AV} {h : List Blk} {K : AV → List Blk → Prop} (hc : ∀ S φ w vs, R S φ h w → CAll S w φ args vs → (callFunc f vs).run P w = .ok (.enter f vs) w ∧
    Calls P f vs w fun e w' => ∃ v r h' S' φ', e = .returned v ∧ K r h' ∧ C S' w' φ' r v ∧ R S' φ' h' w' ∧ Ext S φ h w S' φ' h' w') : ACall P f args h K := hc

theorem finH1 {rs : List ResultVar} {K : AV → List Blk → Prop} {r : AV} (hl : resAV T s h rs = some [r]) (hp : Pure r) (hK : K r h) : FinH T rs h K s h :=
  ⟨_, hl, r, h, [], .refl _, Blw.pure hp, (List.append_nil h).symm, Chg.refl _ _, hK⟩
end
attribute [go_sem] mixC carried inD
end Go.Abs

/-
  The abstract layer, part Z: plain laws on lists that the contracts speak in.
-/
namespace Go.Abs
open Go.RowKit

/-- The first place at which p holds, or -1. -/
def idxOf {α : Type} (p : α → Bool) (l : List α) : Int :=
  match l.findIdx? p with
  | some i => (i : Nat)
  | none => -1

theorem idxOf_at {α : Type} {p : α → Bool} {l : List α} {i : Nat} {x : α} (h0 : ∀ y ∈ l.take i, p y = false) (hx : l[((i : Int)).toNat]? = some x) (hp : p x = true) : idxOf p l = (i : Int) := by
  rw [Int.toNat_natCast] at hx
  have : l.findIdx? p = some i := by
    rw [List.findIdx?_eq_some_iff_getElem]
    obtain ⟨hi, rfl⟩ := List.getElem?_eq_some_iff.1 hx
    refine ⟨hi, hp, fun j hj => ?_⟩
    have := h0 l[j] (List.mem_take_iff_getElem.2 ⟨j, by omega, rfl⟩)
    simp [this]
  simp [idxOf, this]

theorem idxOf_none {α : Type} {p : α → Bool} {l : List α} (h0 : ∀ y ∈ l, p y = false) : idxOf p l = -1 := by
  have : l.findIdx? p = none := by
    rw [List.findIdx?_eq_none_iff]
    exact h0
  simp [idxOf, this]
theorem idxOf_cases {α : Type} (p : α → Bool) (l : List α) : (idxOf p l = -1 ∧ l.find? p = none) ∨ ∃ (i : Nat) (x : α), idxOf p l = (i : Int) ∧ l[i]? = some x ∧ l.find? p = some x ∧ p x = true ∧ i < l.length := by
  cases h : l.findIdx? p with
  | none =>
    left
    refine ⟨by simp [idxOf, h], ?_⟩
    rw [List.findIdx?_eq_none_iff] at h
    rw [List.find?_eq_none]
    intro x hx
    simp [h x hx]
  | some i =>
    right
    have h0 := h
    rw [List.findIdx?_eq_some_iff_getElem] at h
    obtain ⟨hi, hp, hn⟩ := h
    refine ⟨i, l[i], by simp [idxOf, h0], List.getElem?_eq_getElem hi, ?_, hp, hi⟩
    rw [List.find?_eq_some_iff_getElem]
    exact ⟨hp, i, hi, rfl, fun j hj => by simpa using hn j hj⟩
theorem take_flatten_le {α : Type} (ls : List (List α)) (i : Nat) : (ls.take i).flatten.length ≤ ls.flatten.length := by
  have h : ls.flatten.length = (ls.take i ++ ls.drop i).flatten.length := by rw [List.take_append_drop]
  rw [List.flatten_append, List.length_append] at h
  omega
end Go.Abs

namespace Go.Proofs.YtipcmpkihhfhcaaGreatDoor
open Go.Abs
set_option maxRecDepth 20000
set_option linter.unusedSimpArgs false
set_option linter.unusedVariables false
set_option maxHeartbeats 1000000
attribute [local irreducible] vc vcOps vcStep vcGuard prK hrK gK gsK brK callK ElemK SeqK BlockK ScopeK OpsK CallK LoopK LoopGo finPost ACall PCall PCallE BCall vqOps vqStep vqGuard qrK heK pcK gqK gqsK QOpsK qcallK DrawK
abbrev fewD (l : List DDecl) : Prop := l.length ≤ 20 ∧ ∀ d ∈ l, d.Name.size ≤ 100 ∧ d.On.size ≤ 100 ∧ d.Ctor.size ≤ 100
abbrev okEnum (e : DEnum) : Prop := e.Ctors.length ≤ 12 ∧ e.Name.size ≤ 100 ∧ ∀ c ∈ e.Ctors, c.size ≤ 100
abbrev okEnums (l : List DEnum) : Prop := l.length ≤ 8 ∧ ∀ e ∈ l, okEnum e
abbrev okEq (x : DEq) : Prop := x.Names.length ≤ 20 ∧ okE x.E ∧ ∀ s ∈ x.Names, s.size ≤ 100
abbrev okNode (n : DNode) : Prop := fewD n.Ins ∧ fewD n.Outs ∧ fewD n.Vars ∧ n.Eqs.length ≤ 30 ∧ n.Name.size ≤ 100 ∧ ∀ x ∈ n.Eqs, okEq x
abbrev okProg (p : DProg) : Prop := okEnums p.Enums ∧ p.Nodes.length ≤ 10 ∧ ∀ n ∈ p.Nodes, okNode n

theorem n34 : (Tryz.f34.name == "runtime.NumGoroutine") = false := by kernel_rfl
theorem few_d (l : List DDecl) : PCallE Tryz.prog 34 [.lst 6 (l.map DDecl.enc) none] (fun r => ∃ b : Bool, r = .b b ∧ (b = true → fewD l)) := by
  refine pcallE_of_vc tabOK Tryz.func34 n34 rfl (by repeat' first | exact pure_nil | refine pure_cons ?_ ?_ | exact .raw _ | exact pure_enc _ | exact pure_lst _ | exact pure_strs _ | exact pure_ints _ | exact DTy.pure _ | exact DTy.pures _ | exact DEnum.pure _ | exact DEnum.pures _ | exact DDecl.pure _ | exact DDecl.pures _ | exact DEq.pure _ | exact DEq.pures _ | exact DNode.pure _ | exact DNode.pures _ | exact DProg.pure _ | exact DProg.pures _ | exact DCond.pure _ | exact DCond.pures _ | exact DAtom.pure _ | exact DAtom.pures _ | exact DPlain.pure _ | exact DPlain.pures _ | exact DVar.pure _ | exact DVar.pures _ | exact DFlow.pure _ | exact DFlow.pures _ | exact DFlows.pure _ | exact DFlows.pures _ | exact DAsked.pure _ | exact DAsked.pures _ | exact DFault.pure _ | exact DFault.pures _ | exact DCell.pure _ | exact DCell.pures _ | exact DReply.pure _ | exact DReply.pures _ | exact DAsk.pure _ | exact DAsk.pures _ | exact DOp.pure _ | exact DOp.pures _ | exact pure_list (fun x => DDecl.pures x) _ | exact .fn _ _ _ pure_nil pure_nil | refine .agg _ ?_ | refine .tup _ ?_ | assumption) (n := 38) rfl (rs := [.tmp 2]) rfl ?_
  repeat' first
    | exact finB rfl
    | exact finI rfl
    | exact finP rfl
    | exact absurd rfl (by assumption)
    | simp only [go_sem, Nat.reduceAdd, Nat.reduceSub, Nat.reduceMul, Nat.reduceLT, Nat.reduceLeDiff, Nat.reduceEqDiff, Nat.reduceBEq, Nat.reduceBNe, Nat.reducePow, Int.reduceEq, Int.reduceNe, Int.reduceLT, Int.reduceLE, Int.reduceGT, Int.reduceGE, Int.reduceAdd, Int.reduceSub, Int.reduceNeg, Int.reduceMul, not_true_eq_false, not_false_eq_true, true_and, and_true, Int.reduceToNat]
    | (intro _)
    | refine brK_dec (fun _ => ?_) (fun _ => ?_)
    | refine brK_any ?_ ?_
    | refine gK_dec (fun _ => ?_) (fun _ => ?_)
    | refine gK_any ?_ ?_
    | refine gqK_dec (fun _ => ?_) (fun _ => ?_)
    | refine ⟨by omega, ?_⟩
    | refine elemHave (by omega) (by assumption) ?_
    | refine elemMap (by omega) (by omega) (fun x hx => ?_)
    | refine drawK mo (by kernel_rfl) ?_
    | (exact finBk (K := fun b => b = true → fewD l) rfl (fun h => Bool.noConfusion h))
    | (exact finBk (K := fun b => b = true → fewD l) rfl (fun hb => ⟨by have := of_decide_eq_true hb; omega, take_full hpi (by omega)⟩))
    | exact loopFrH _ (by omega) ⟨i + 1, by omega, rfl, take_all hpi (by assumption) ⟨by omega, by omega, by omega⟩, rfl⟩ (.next rfl (by omega) .nil) rfl
    | (refine loop_frH [2, 3, 4, 5, 6, 7, 8, 9, 10, 11, 12, 13, 14, 15, 16, 17, 18, 19, 20, 21, 22, 23, 24, 25, 26, 27, 28, 29, 30, 31, 32, 33, 34] (fun mm_ CC_ => ∃ (i : Nat), i ≤ l.length ∧ mm_ = l.length - i ∧ (∀ d ∈ l.take i, d.Name.size ≤ 100 ∧ d.On.size ≤ 100 ∧ d.Ctor.size ≤ 100) ∧ CC_ = [(3, .raw (.int .i64 ((i : Nat) : Int)))]) (l.length) _ ⟨0, by omega, by omega, by simp, rfl⟩ (.cons rfl .nil) ?_; rintro mm_ CC_ ji ⟨i, hi, rfl, hpi, rfl⟩)

theorem n26 : (Tryz.f26.name == "runtime.NumGoroutine") = false := by kernel_rfl
theorem small_en (l : List DEnum) : PCallE Tryz.prog 26 [.lst 2 (l.map DEnum.enc) none] (fun r => ∃ b : Bool, r = .b b ∧ (b = true → okEnums l)) := by
  refine pcallE_of_vc tabOK Tryz.func26 n26 rfl (by repeat' first | exact pure_nil | refine pure_cons ?_ ?_ | exact .raw _ | exact pure_enc _ | exact pure_lst _ | exact pure_strs _ | exact pure_ints _ | exact DTy.pure _ | exact DTy.pures _ | exact DEnum.pure _ | exact DEnum.pures _ | exact DDecl.pure _ | exact DDecl.pures _ | exact DEq.pure _ | exact DEq.pures _ | exact DNode.pure _ | exact DNode.pures _ | exact DProg.pure _ | exact DProg.pures _ | exact DCond.pure _ | exact DCond.pures _ | exact DAtom.pure _ | exact DAtom.pures _ | exact DPlain.pure _ | exact DPlain.pures _ | exact DVar.pure _ | exact DVar.pures _ | exact DFlow.pure _ | exact DFlow.pures _ | exact DFlows.pure _ | exact DFlows.pures _ | exact DAsked.pure _ | exact DAsked.pures _ | exact DFault.pure _ | exact DFault.pures _ | exact DCell.pure _ | exact DCell.pures _ | exact DReply.pure _ | exact DReply.pures _ | exact DAsk.pure _ | exact DAsk.pures _ | exact DOp.pure _ | exact DOp.pures _ | exact pure_list (fun x => DDecl.pures x) _ | exact .fn _ _ _ pure_nil pure_nil | refine .agg _ ?_ | refine .tup _ ?_ | assumption) (n := 50) rfl (rs := [.tmp 2]) rfl ?_
  repeat' first
    | exact finB rfl
    | exact finI rfl
    | exact finP rfl
    | exact absurd rfl (by assumption)
    | simp only [go_sem, Nat.reduceAdd, Nat.reduceSub, Nat.reduceMul, Nat.reduceLT, Nat.reduceLeDiff, Nat.reduceEqDiff, Nat.reduceBEq, Nat.reduceBNe, Nat.reducePow, Int.reduceEq, Int.reduceNe, Int.reduceLT, Int.reduceLE, Int.reduceGT, Int.reduceGE, Int.reduceAdd, Int.reduceSub, Int.reduceNeg, Int.reduceMul, not_true_eq_false, not_false_eq_true, true_and, and_true, Int.reduceToNat]
    | (intro _)
    | refine brK_dec (fun _ => ?_) (fun _ => ?_)
    | refine brK_any ?_ ?_
    | refine gK_dec (fun _ => ?_) (fun _ => ?_)
    | refine gK_any ?_ ?_
    | refine gqK_dec (fun _ => ?_) (fun _ => ?_)
    | refine ⟨by omega, ?_⟩
    | refine elemHave (by omega) (by assumption) ?_
    | refine elemMap (by omega) (by omega) (fun x hx => ?_)
    | refine drawK mo (by kernel_rfl) ?_
    | (exact finBk (K := fun b => b = true → okEnums l) rfl (fun h => Bool.noConfusion h))
    | (exact finBk (K := fun b => b = true → okEnums l) rfl (fun hb => ⟨by omega, take_full hpi (by omega)⟩))
    | exact loopFrH _ (by omega) ⟨k + 1, by omega, rfl, take_all hpk (by assumption) (by omega), rfl⟩ (.next rfl (by omega) .nil) rfl
    | (refine loop_frH [2, 4, 30, 31, 32, 33, 34, 35, 36, 37, 38, 39, 40, 41, 42, 43, 44, 45, 46, 47, 48, 49] (fun mm_ CC_ => ∃ (k : Nat), k ≤ x.Ctors.length ∧ mm_ = x.Ctors.length - k ∧ (∀ c ∈ x.Ctors.take k, c.size ≤ 100) ∧ CC_ = [(4, .raw (.int .i64 ((k : Nat) : Int)))]) (x.Ctors.length) _ ⟨0, by omega, by omega, by simp, rfl⟩ (.cons rfl .nil) ?_; rintro mm_ CC_ jk ⟨k, hk, rfl, hpk, rfl⟩)
    | exact loopFrH _ (by omega) ⟨i + 1, by omega, rfl, take_all hpi (by assumption) ⟨by omega, by omega, take_full hpk (by omega)⟩, rfl⟩ (.next rfl (by omega) .nil) rfl
    | (refine loop_frH [2, 3, 4, 8, 9, 10, 11, 12, 13, 14, 15, 16, 17, 18, 19, 20, 21, 22, 23, 24, 25, 26, 27, 28, 29, 30, 31, 32, 33, 34, 35, 36, 37, 38, 39, 40, 41, 42, 43, 44, 45, 46, 47, 48, 49] (fun mm_ CC_ => ∃ (i : Nat), i ≤ l.length ∧ mm_ = l.length - i ∧ (∀ e ∈ l.take i, okEnum e) ∧ CC_ = [(3, .raw (.int .i64 ((i : Nat) : Int)))]) (l.length) _ ⟨0, by omega, by omega, by simp, rfl⟩ (.cons rfl .nil) ?_; rintro mm_ CC_ ji ⟨i, hi, rfl, hpi, rfl⟩)

theorem n9 : (Tryz.f9.name == "runtime.NumGoroutine") = false := by kernel_rfl
theorem small_p (p : DProg) : PCallE Tryz.prog 9 [p.enc] (fun r => ∃ b : Bool, r = .b b ∧ (b = true → okProg p)) := by
  refine pcallE_of_vc tabOK Tryz.func9 n9 rfl (by repeat' first | exact pure_nil | refine pure_cons ?_ ?_ | exact .raw _ | exact pure_enc _ | exact pure_lst _ | exact pure_strs _ | exact pure_ints _ | exact DTy.pure _ | exact DTy.pures _ | exact DEnum.pure _ | exact DEnum.pures _ | exact DDecl.pure _ | exact DDecl.pures _ | exact DEq.pure _ | exact DEq.pures _ | exact DNode.pure _ | exact DNode.pures _ | exact DProg.pure _ | exact DProg.pures _ | exact DCond.pure _ | exact DCond.pures _ | exact DAtom.pure _ | exact DAtom.pures _ | exact DPlain.pure _ | exact DPlain.pures _ | exact DVar.pure _ | exact DVar.pures _ | exact DFlow.pure _ | exact DFlow.pures _ | exact DFlows.pure _ | exact DFlows.pures _ | exact DAsked.pure _ | exact DAsked.pures _ | exact DFault.pure _ | exact DFault.pures _ | exact DCell.pure _ | exact DCell.pures _ | exact DReply.pure _ | exact DReply.pures _ | exact DAsk.pure _ | exact DAsk.pures _ | exact DOp.pure _ | exact DOp.pures _ | exact pure_list (fun x => DDecl.pures x) _ | exact .fn _ _ _ pure_nil pure_nil | refine .agg _ ?_ | refine .tup _ ?_ | assumption) (n := 94) rfl (rs := [.tmp 2]) rfl ?_
  repeat' first
    | exact finB rfl
    | exact finI rfl
    | exact finP rfl
    | exact absurd rfl (by assumption)
    | simp only [go_sem, Nat.reduceAdd, Nat.reduceSub, Nat.reduceMul, Nat.reduceLT, Nat.reduceLeDiff, Nat.reduceEqDiff, Nat.reduceBEq, Nat.reduceBNe, Nat.reducePow, Int.reduceEq, Int.reduceNe, Int.reduceLT, Int.reduceLE, Int.reduceGT, Int.reduceGE, Int.reduceAdd, Int.reduceSub, Int.reduceNeg, Int.reduceMul, not_true_eq_false, not_false_eq_true, true_and, and_true, Int.reduceToNat]
    | (intro _)
    | refine brK_dec (fun _ => ?_) (fun _ => ?_)
    | refine brK_any ?_ ?_
    | refine gK_dec (fun _ => ?_) (fun _ => ?_)
    | refine gK_any ?_ ?_
    | refine gqK_dec (fun _ => ?_) (fun _ => ?_)
    | refine ⟨by omega, ?_⟩
    | refine elemHave (by omega) (by assumption) ?_
    | refine elemMap (by omega) (by omega) (fun x hx => ?_)
    | refine drawK mo (by kernel_rfl) ?_
    | (exact finBk (K := fun b => b = true → okProg p) rfl (fun hb => ⟨hbe, by omega, take_full hpi (by omega)⟩))
    | (exact finBk (K := fun b => b = true → okProg p) rfl (fun h => Bool.noConfusion h))
    | (refine PCallE.call (small_en _) (fun r hr => ?_); obtain ⟨b, rfl, hbe⟩ := hr; cases b <;> (try replace hbe := hbe rfl))
    | (refine PCallE.call (few_d _) (fun r hr => ?_); obtain ⟨b, rfl, hbd⟩ := hr; cases b <;> (try replace hbd := hbd rfl))
    | (refine PCallE.call (small_e _) (fun r hr => ?_); obtain ⟨b, rfl, hbx⟩ := hr; cases b <;> (try replace hbx := hbx rfl))
    | exact loopFrH _ (by omega) ⟨j + 1, by omega, rfl, take_all hpj (by assumption) (by omega), rfl⟩ (.next rfl (by omega) .nil) rfl
    | (refine loop_frH [2, 7, 80, 81, 82, 83, 84, 85, 86, 87, 88, 89, 90, 91, 92, 93] (fun mm_ CC_ => ∃ (j : Nat), j ≤ x.Names.length ∧ mm_ = x.Names.length - j ∧ (∀ s ∈ x.Names.take j, s.size ≤ 100) ∧ CC_ = [(7, .raw (.int .i64 ((j : Nat) : Int)))]) (x.Names.length) _ ⟨0, by omega, by omega, by simp, rfl⟩ (.cons rfl .nil) ?_; rintro mm_ CC_ jj ⟨j, hj, rfl, hpj, rfl⟩)
    | exact loopFrX _ (by omega) _ ⟨k + 1, by omega, rfl, take_all hpk (by assumption) ⟨by omega, by assumption, take_full hpj (by omega)⟩, rfl⟩ (.next rfl (by omega) .nil) rfl (by first | rfl | (simp only [List.append_assoc, List.cons_append, List.nil_append]; rfl))
    | (refine loop_frX [2, 5, 6, 7, 58, 59, 60, 61, 62, 63, 64, 65, 66, 67, 68, 69, 70, 71, 72, 73, 74, 75, 76, 77, 78, 79, 80, 81, 82, 83, 84, 85, 86, 87, 88, 89, 90, 91, 92, 93] (fun mm_ CC_ => ∃ (k : Nat), k ≤ x.Eqs.length ∧ mm_ = x.Eqs.length - k ∧ (∀ q ∈ x.Eqs.take k, okEq q) ∧ CC_ = [(5, .raw (.int .i64 ((k : Nat) : Int)))]) (x.Eqs.length) _ ⟨0, by omega, by omega, by simp, rfl⟩ (.cons rfl .nil) ?_; rintro mm_ CC_ jk rk ⟨k, hk, rfl, hpk, rfl⟩)
    | exact loopFrX _ (by omega) _ ⟨i + 1, by omega, rfl, take_all hpi (by assumption) ⟨by assumption, by assumption, by assumption, by omega, by omega, take_full hpk (by omega)⟩, rfl⟩ (.next rfl (by omega) .nil) rfl (by first | rfl | (simp only [List.append_assoc, List.cons_append, List.nil_append]; rfl))
    | (refine loop_frX [2, 3, 4, 5, 6, 7, 18, 19, 20, 21, 22, 23, 24, 25, 26, 27, 28, 29, 30, 31, 32, 33, 34, 35, 36, 37, 38, 39, 40, 41, 42, 43, 44, 45, 46, 47, 48, 49, 50, 51, 52, 53, 54, 55, 56, 57, 58, 59, 60, 61, 62, 63, 64, 65, 66, 67, 68, 69, 70, 71, 72, 73, 74, 75, 76, 77, 78, 79, 80, 81, 82, 83, 84, 85, 86, 87, 88, 89, 90, 91, 92, 93] (fun mm_ CC_ => ∃ (i : Nat), i ≤ p.Nodes.length ∧ mm_ = p.Nodes.length - i ∧ (∀ n ∈ p.Nodes.take i, okNode n) ∧ CC_ = [(3, .raw (.int .i64 ((i : Nat) : Int)))]) (p.Nodes.length) _ ⟨0, by omega, by omega, by simp, rfl⟩ (.cons rfl .nil) ?_; rintro mm_ CC_ ji ri ⟨i, hi, rfl, hpi, rfl⟩)
end Go.Proofs.YtipcmpkihhfhcaaGreatDoor

namespace Go.Proofs.YtipcmpkihhfhcaaGreatDoor
open Go.Abs
set_option maxRecDepth 20000
set_option linter.unusedSimpArgs false
set_option linter.unusedVariables false
set_option maxHeartbeats 1000000
attribute [local irreducible] vc vcOps vcStep vcGuard prK hrK gK gsK brK callK ElemK SeqK BlockK ScopeK OpsK CallK LoopK LoopGo finPost ACall PCall PCallE BCall vqOps vqStep vqGuard qrK heK pcK gqK gqsK QOpsK qcallK DrawK
theorem n130 : (Tryz.f130.name == "runtime.NumGoroutine") = false := by kernel_rfl
/-- slices.IndexFunc: the first place at which the function answers true; it is left where it is: memory stays. -/
theorem indexNode {l : List DNode} {p : DNode → Bool} {g : Nat} {first capt : List AV} {h : List Blk} {K : AV → List Blk → Prop} (hp : ∀ x ∈ l, ∀ K : AV → List Blk → Prop, K (.b (p x)) h → ACall Tryz.prog g (first ++ DNode.enc x :: capt) h K)
    (hK : K (.i (idxOf p l)) h) : ACall Tryz.prog 130 [.lst 5 (l.map (DNode.enc)) none, .fn (.func g) first capt] h K := by
  refine acall_of_vc tabOK Tryz.func130 n130 rfl (n := 19) rfl (rs := [.tmp 4]) rfl ?_
  simp only [go_sem, Nat.reduceAdd, Nat.reduceSub, Nat.reduceMul, Nat.reduceLT, Nat.reduceLeDiff, Nat.reduceEqDiff, Nat.reduceBEq, Nat.reduceBNe, Nat.reducePow, Int.reduceEq, Int.reduceNe, Int.reduceLT, Int.reduceLE, Int.reduceGT, Int.reduceGE, Int.reduceAdd, Int.reduceSub, Int.reduceNeg, Int.reduceMul, not_true_eq_false, not_false_eq_true, true_and, and_true, Int.reduceToNat]
  intro hlen
  refine loop_frH [5, 8, 9, 10, 11, 12, 13, 14, 15, 16, 18] (fun n C => ∃ (i : Nat), i ≤ l.length ∧ n = l.length - i ∧ (∀ x ∈ l.take i, p x = false) ∧ C = [(8, .raw (.int .i64 (i : Nat)))]) l.length _ ⟨0, by omega, by omega, by simp, rfl⟩ (.cons rfl .nil) ?_
  rintro n C j ⟨i, hi, rfl, hp0, rfl⟩
  simp only [go_sem, Nat.reduceAdd, Nat.reduceSub, Nat.reduceMul, Nat.reduceLT, Nat.reduceLeDiff, Nat.reduceEqDiff, Nat.reduceBEq, Nat.reduceBNe, Nat.reducePow, Int.reduceEq, Int.reduceNe, Int.reduceLT, Int.reduceLE, Int.reduceGT, Int.reduceGE, Int.reduceAdd, Int.reduceSub, Int.reduceNeg, Int.reduceMul, not_true_eq_false, not_false_eq_true, true_and, and_true, Int.reduceToNat]
  refine brK_dec (fun hlt => ?_) (fun hge => ?_)
  · simp only [go_sem, Nat.reduceAdd, Nat.reduceSub, Nat.reduceMul, Nat.reduceLT, Nat.reduceLeDiff, Nat.reduceEqDiff, Nat.reduceBEq, Nat.reduceBNe, Nat.reducePow, Int.reduceEq, Int.reduceNe, Int.reduceLT, Int.reduceLE, Int.reduceGT, Int.reduceGE, Int.reduceAdd, Int.reduceSub, Int.reduceNeg, Int.reduceMul, not_true_eq_false, not_false_eq_true, true_and, and_true, Int.reduceToNat]
    refine elemMap (by omega) (by omega) (fun x hx => ?_)
    simp only [go_sem, Nat.reduceAdd, Nat.reduceSub, Nat.reduceMul, Nat.reduceLT, Nat.reduceLeDiff, Nat.reduceEqDiff, Nat.reduceBEq, Nat.reduceBNe, Nat.reducePow, Int.reduceEq, Int.reduceNe, Int.reduceLT, Int.reduceLE, Int.reduceGT, Int.reduceGE, Int.reduceAdd, Int.reduceSub, Int.reduceNeg, Int.reduceMul, not_true_eq_false, not_false_eq_true, true_and, and_true, Int.reduceToNat]
    refine hp x (List.mem_of_getElem? hx) _ ?_
    simp only [go_sem, Nat.reduceAdd, Nat.reduceSub, Nat.reduceMul, Nat.reduceLT, Nat.reduceLeDiff, Nat.reduceEqDiff, Nat.reduceBEq, Nat.reduceBNe, Nat.reducePow, Int.reduceEq, Int.reduceNe, Int.reduceLT, Int.reduceLE, Int.reduceGT, Int.reduceGE, Int.reduceAdd, Int.reduceSub, Int.reduceNeg, Int.reduceMul, not_true_eq_false, not_false_eq_true, true_and, and_true, Int.reduceToNat]
    cases hb : p x with
    | true =>
      simp only [go_sem, Nat.reduceAdd, Nat.reduceSub, Nat.reduceMul, Nat.reduceLT, Nat.reduceLeDiff, Nat.reduceEqDiff, Nat.reduceBEq, Nat.reduceBNe, Nat.reducePow, Int.reduceEq, Int.reduceNe, Int.reduceLT, Int.reduceLE, Int.reduceGT, Int.reduceGE, Int.reduceAdd, Int.reduceSub, Int.reduceNeg, Int.reduceMul, not_true_eq_false, not_false_eq_true, true_and, and_true, Int.reduceToNat]
      rw [idxOf_at hp0 hx hb] at hK
      exact finH1 rfl (.raw _) hK
    | false =>
      simp only [go_sem, Nat.reduceAdd, Nat.reduceSub, Nat.reduceMul, Nat.reduceLT, Nat.reduceLeDiff, Nat.reduceEqDiff, Nat.reduceBEq, Nat.reduceBNe, Nat.reducePow, Int.reduceEq, Int.reduceNe, Int.reduceLT, Int.reduceLE, Int.reduceGT, Int.reduceGE, Int.reduceAdd, Int.reduceSub, Int.reduceNeg, Int.reduceMul, not_true_eq_false, not_false_eq_true, true_and, and_true, Int.reduceToNat]
      exact loopFrH (l.length - (i + 1)) (by omega) ⟨i + 1, by omega, rfl, take_all hp0 (by rw [Int.toNat_natCast] at hx; exact hx) hb, rfl⟩ (.next rfl (by omega) .nil) rfl
  · simp only [go_sem, Nat.reduceAdd, Nat.reduceSub, Nat.reduceMul, Nat.reduceLT, Nat.reduceLeDiff, Nat.reduceEqDiff, Nat.reduceBEq, Nat.reduceBNe, Nat.reducePow, Int.reduceEq, Int.reduceNe, Int.reduceLT, Int.reduceLE, Int.reduceGT, Int.reduceGE, Int.reduceAdd, Int.reduceSub, Int.reduceNeg, Int.reduceMul, not_true_eq_false, not_false_eq_true, true_and, and_true, Int.reduceToNat]
    rw [idxOf_none (take_full hp0 (by omega))] at hK
    exact finH1 rfl (.raw _) hK

theorem n121 : (Tryz.f121.name == "runtime.NumGoroutine") = false := by kernel_rfl
/-- slices.IndexFunc: the first place at which the function answers true; it is left where it is: memory stays. -/
theorem indexDecl {l : List DDecl} {p : DDecl → Bool} {g : Nat} {first capt : List AV} {h : List Blk} {K : AV → List Blk → Prop} (hp : ∀ x ∈ l, ∀ K : AV → List Blk → Prop, K (.b (p x)) h → ACall Tryz.prog g (first ++ DDecl.enc x :: capt) h K)
    (hK : K (.i (idxOf p l)) h) : ACall Tryz.prog 121 [.lst 6 (l.map (DDecl.enc)) none, .fn (.func g) first capt] h K := by
  refine acall_of_vc tabOK Tryz.func121 n121 rfl (n := 19) rfl (rs := [.tmp 4]) rfl ?_
  simp only [go_sem, Nat.reduceAdd, Nat.reduceSub, Nat.reduceMul, Nat.reduceLT, Nat.reduceLeDiff, Nat.reduceEqDiff, Nat.reduceBEq, Nat.reduceBNe, Nat.reducePow, Int.reduceEq, Int.reduceNe, Int.reduceLT, Int.reduceLE, Int.reduceGT, Int.reduceGE, Int.reduceAdd, Int.reduceSub, Int.reduceNeg, Int.reduceMul, not_true_eq_false, not_false_eq_true, true_and, and_true, Int.reduceToNat]
  intro hlen
  refine loop_frH [5, 8, 9, 10, 11, 12, 13, 14, 15, 16, 18] (fun n C => ∃ (i : Nat), i ≤ l.length ∧ n = l.length - i ∧ (∀ x ∈ l.take i, p x = false) ∧ C = [(8, .raw (.int .i64 (i : Nat)))]) l.length _ ⟨0, by omega, by omega, by simp, rfl⟩ (.cons rfl .nil) ?_
  rintro n C j ⟨i, hi, rfl, hp0, rfl⟩
  simp only [go_sem, Nat.reduceAdd, Nat.reduceSub, Nat.reduceMul, Nat.reduceLT, Nat.reduceLeDiff, Nat.reduceEqDiff, Nat.reduceBEq, Nat.reduceBNe, Nat.reducePow, Int.reduceEq, Int.reduceNe, Int.reduceLT, Int.reduceLE, Int.reduceGT, Int.reduceGE, Int.reduceAdd, Int.reduceSub, Int.reduceNeg, Int.reduceMul, not_true_eq_false, not_false_eq_true, true_and, and_true, Int.reduceToNat]
  refine brK_dec (fun hlt => ?_) (fun hge => ?_)
  · simp only [go_sem, Nat.reduceAdd, Nat.reduceSub, Nat.reduceMul, Nat.reduceLT, Nat.reduceLeDiff, Nat.reduceEqDiff, Nat.reduceBEq, Nat.reduceBNe, Nat.reducePow, Int.reduceEq, Int.reduceNe, Int.reduceLT, Int.reduceLE, Int.reduceGT, Int.reduceGE, Int.reduceAdd, Int.reduceSub, Int.reduceNeg, Int.reduceMul, not_true_eq_false, not_false_eq_true, true_and, and_true, Int.reduceToNat]
    refine elemMap (by omega) (by omega) (fun x hx => ?_)
    simp only [go_sem, Nat.reduceAdd, Nat.reduceSub, Nat.reduceMul, Nat.reduceLT, Nat.reduceLeDiff, Nat.reduceEqDiff, Nat.reduceBEq, Nat.reduceBNe, Nat.reducePow, Int.reduceEq, Int.reduceNe, Int.reduceLT, Int.reduceLE, Int.reduceGT, Int.reduceGE, Int.reduceAdd, Int.reduceSub, Int.reduceNeg, Int.reduceMul, not_true_eq_false, not_false_eq_true, true_and, and_true, Int.reduceToNat]
    refine hp x (List.mem_of_getElem? hx) _ ?_
    simp only [go_sem, Nat.reduceAdd, Nat.reduceSub, Nat.reduceMul, Nat.reduceLT, Nat.reduceLeDiff, Nat.reduceEqDiff, Nat.reduceBEq, Nat.reduceBNe, Nat.reducePow, Int.reduceEq, Int.reduceNe, Int.reduceLT, Int.reduceLE, Int.reduceGT, Int.reduceGE, Int.reduceAdd, Int.reduceSub, Int.reduceNeg, Int.reduceMul, not_true_eq_false, not_false_eq_true, true_and, and_true, Int.reduceToNat]
    cases hb : p x with
    | true =>
      simp only [go_sem, Nat.reduceAdd, Nat.reduceSub, Nat.reduceMul, Nat.reduceLT, Nat.reduceLeDiff, Nat.reduceEqDiff, Nat.reduceBEq, Nat.reduceBNe, Nat.reducePow, Int.reduceEq, Int.reduceNe, Int.reduceLT, Int.reduceLE, Int.reduceGT, Int.reduceGE, Int.reduceAdd, Int.reduceSub, Int.reduceNeg, Int.reduceMul, not_true_eq_false, not_false_eq_true, true_and, and_true, Int.reduceToNat]
      rw [idxOf_at hp0 hx hb] at hK
      exact finH1 rfl (.raw _) hK
    | false =>
      simp only [go_sem, Nat.reduceAdd, Nat.reduceSub, Nat.reduceMul, Nat.reduceLT, Nat.reduceLeDiff, Nat.reduceEqDiff, Nat.reduceBEq, Nat.reduceBNe, Nat.reducePow, Int.reduceEq, Int.reduceNe, Int.reduceLT, Int.reduceLE, Int.reduceGT, Int.reduceGE, Int.reduceAdd, Int.reduceSub, Int.reduceNeg, Int.reduceMul, not_true_eq_false, not_false_eq_true, true_and, and_true, Int.reduceToNat]
      exact loopFrH (l.length - (i + 1)) (by omega) ⟨i + 1, by omega, rfl, take_all hp0 (by rw [Int.toNat_natCast] at hx; exact hx) hb, rfl⟩ (.next rfl (by omega) .nil) rfl
  · simp only [go_sem, Nat.reduceAdd, Nat.reduceSub, Nat.reduceMul, Nat.reduceLT, Nat.reduceLeDiff, Nat.reduceEqDiff, Nat.reduceBEq, Nat.reduceBNe, Nat.reducePow, Int.reduceEq, Int.reduceNe, Int.reduceLT, Int.reduceLE, Int.reduceGT, Int.reduceGE, Int.reduceAdd, Int.reduceSub, Int.reduceNeg, Int.reduceMul, not_true_eq_false, not_false_eq_true, true_and, and_true, Int.reduceToNat]
    rw [idxOf_none (take_full hp0 (by omega))] at hK
    exact finH1 rfl (.raw _) hK

theorem n177 : (Tryz.f177.name == "runtime.NumGoroutine") = false := by kernel_rfl
/-- slices.IndexFunc: the first place at which the function answers true; it is left where it is: memory stays. -/
theorem indexStr {l : List ByteArray} {p : ByteArray → Bool} {g : Nat} {first capt : List AV} {h : List Blk} {K : AV → List Blk → Prop} (hp : ∀ x ∈ l, ∀ K : AV → List Blk → Prop, K (.b (p x)) h → ACall Tryz.prog g (first ++ AV.s x :: capt) h K)
    (hK : K (.i (idxOf p l)) h) : ACall Tryz.prog 177 [.lst 1 (l.map (AV.s)) none, .fn (.func g) first capt] h K := by
  refine acall_of_vc tabOK Tryz.func177 n177 rfl (n := 19) rfl (rs := [.tmp 4]) rfl ?_
  simp only [go_sem, Nat.reduceAdd, Nat.reduceSub, Nat.reduceMul, Nat.reduceLT, Nat.reduceLeDiff, Nat.reduceEqDiff, Nat.reduceBEq, Nat.reduceBNe, Nat.reducePow, Int.reduceEq, Int.reduceNe, Int.reduceLT, Int.reduceLE, Int.reduceGT, Int.reduceGE, Int.reduceAdd, Int.reduceSub, Int.reduceNeg, Int.reduceMul, not_true_eq_false, not_false_eq_true, true_and, and_true, Int.reduceToNat]
  intro hlen
  refine loop_frH [5, 8, 9, 10, 11, 12, 13, 14, 15, 16, 18] (fun n C => ∃ (i : Nat), i ≤ l.length ∧ n = l.length - i ∧ (∀ x ∈ l.take i, p x = false) ∧ C = [(8, .raw (.int .i64 (i : Nat)))]) l.length _ ⟨0, by omega, by omega, by simp, rfl⟩ (.cons rfl .nil) ?_
  rintro n C j ⟨i, hi, rfl, hp0, rfl⟩
  simp only [go_sem, Nat.reduceAdd, Nat.reduceSub, Nat.reduceMul, Nat.reduceLT, Nat.reduceLeDiff, Nat.reduceEqDiff, Nat.reduceBEq, Nat.reduceBNe, Nat.reducePow, Int.reduceEq, Int.reduceNe, Int.reduceLT, Int.reduceLE, Int.reduceGT, Int.reduceGE, Int.reduceAdd, Int.reduceSub, Int.reduceNeg, Int.reduceMul, not_true_eq_false, not_false_eq_true, true_and, and_true, Int.reduceToNat]
  refine brK_dec (fun hlt => ?_) (fun hge => ?_)
  · simp only [go_sem, Nat.reduceAdd, Nat.reduceSub, Nat.reduceMul, Nat.reduceLT, Nat.reduceLeDiff, Nat.reduceEqDiff, Nat.reduceBEq, Nat.reduceBNe, Nat.reducePow, Int.reduceEq, Int.reduceNe, Int.reduceLT, Int.reduceLE, Int.reduceGT, Int.reduceGE, Int.reduceAdd, Int.reduceSub, Int.reduceNeg, Int.reduceMul, not_true_eq_false, not_false_eq_true, true_and, and_true, Int.reduceToNat]
    refine elemMap (by omega) (by omega) (fun x hx => ?_)
    simp only [go_sem, Nat.reduceAdd, Nat.reduceSub, Nat.reduceMul, Nat.reduceLT, Nat.reduceLeDiff, Nat.reduceEqDiff, Nat.reduceBEq, Nat.reduceBNe, Nat.reducePow, Int.reduceEq, Int.reduceNe, Int.reduceLT, Int.reduceLE, Int.reduceGT, Int.reduceGE, Int.reduceAdd, Int.reduceSub, Int.reduceNeg, Int.reduceMul, not_true_eq_false, not_false_eq_true, true_and, and_true, Int.reduceToNat]
    refine hp x (List.mem_of_getElem? hx) _ ?_
    simp only [go_sem, Nat.reduceAdd, Nat.reduceSub, Nat.reduceMul, Nat.reduceLT, Nat.reduceLeDiff, Nat.reduceEqDiff, Nat.reduceBEq, Nat.reduceBNe, Nat.reducePow, Int.reduceEq, Int.reduceNe, Int.reduceLT, Int.reduceLE, Int.reduceGT, Int.reduceGE, Int.reduceAdd, Int.reduceSub, Int.reduceNeg, Int.reduceMul, not_true_eq_false, not_false_eq_true, true_and, and_true, Int.reduceToNat]
    cases hb : p x with
    | true =>
      simp only [go_sem, Nat.reduceAdd, Nat.reduceSub, Nat.reduceMul, Nat.reduceLT, Nat.reduceLeDiff, Nat.reduceEqDiff, Nat.reduceBEq, Nat.reduceBNe, Nat.reducePow, Int.reduceEq, Int.reduceNe, Int.reduceLT, Int.reduceLE, Int.reduceGT, Int.reduceGE, Int.reduceAdd, Int.reduceSub, Int.reduceNeg, Int.reduceMul, not_true_eq_false, not_false_eq_true, true_and, and_true, Int.reduceToNat]
      rw [idxOf_at hp0 hx hb] at hK
      exact finH1 rfl (.raw _) hK
    | false =>
      simp only [go_sem, Nat.reduceAdd, Nat.reduceSub, Nat.reduceMul, Nat.reduceLT, Nat.reduceLeDiff, Nat.reduceEqDiff, Nat.reduceBEq, Nat.reduceBNe, Nat.reducePow, Int.reduceEq, Int.reduceNe, Int.reduceLT, Int.reduceLE, Int.reduceGT, Int.reduceGE, Int.reduceAdd, Int.reduceSub, Int.reduceNeg, Int.reduceMul, not_true_eq_false, not_false_eq_true, true_and, and_true, Int.reduceToNat]
      exact loopFrH (l.length - (i + 1)) (by omega) ⟨i + 1, by omega, rfl, take_all hp0 (by rw [Int.toNat_natCast] at hx; exact hx) hb, rfl⟩ (.next rfl (by omega) .nil) rfl
  · simp only [go_sem, Nat.reduceAdd, Nat.reduceSub, Nat.reduceMul, Nat.reduceLT, Nat.reduceLeDiff, Nat.reduceEqDiff, Nat.reduceBEq, Nat.reduceBNe, Nat.reducePow, Int.reduceEq, Int.reduceNe, Int.reduceLT, Int.reduceLE, Int.reduceGT, Int.reduceGE, Int.reduceAdd, Int.reduceSub, Int.reduceNeg, Int.reduceMul, not_true_eq_false, not_false_eq_true, true_and, and_true, Int.reduceToNat]
    rw [idxOf_none (take_full hp0 (by omega))] at hK
    exact finH1 rfl (.raw _) hK

theorem n167 : (Tryz.f167.name == "runtime.NumGoroutine") = false := by kernel_rfl
/-- slices.IndexFunc: the first place at which the function answers true; it is left where it is: memory stays. -/
theorem indexEx {l : List Ex} {p : Ex → Bool} {g : Nat} {first capt : List AV} {h : List Blk} {K : AV → List Blk → Prop} (hp : ∀ x ∈ l, ∀ K : AV → List Blk → Prop, K (.b (p x)) h → ACall Tryz.prog g (first ++ Ex.enc x :: capt) h K)
    (hK : K (.i (idxOf p l)) h) : ACall Tryz.prog 167 [.lst 6 (l.map (Ex.enc)) none, .fn (.func g) first capt] h K := by
  refine acall_of_vc tabOK Tryz.func167 n167 rfl (n := 19) rfl (rs := [.tmp 4]) rfl ?_
  simp only [go_sem, Nat.reduceAdd, Nat.reduceSub, Nat.reduceMul, Nat.reduceLT, Nat.reduceLeDiff, Nat.reduceEqDiff, Nat.reduceBEq, Nat.reduceBNe, Nat.reducePow, Int.reduceEq, Int.reduceNe, Int.reduceLT, Int.reduceLE, Int.reduceGT, Int.reduceGE, Int.reduceAdd, Int.reduceSub, Int.reduceNeg, Int.reduceMul, not_true_eq_false, not_false_eq_true, true_and, and_true, Int.reduceToNat]
  intro hlen
  refine loop_frH [5, 8, 9, 10, 11, 12, 13, 14, 15, 16, 18] (fun n C => ∃ (i : Nat), i ≤ l.length ∧ n = l.length - i ∧ (∀ x ∈ l.take i, p x = false) ∧ C = [(8, .raw (.int .i64 (i : Nat)))]) l.length _ ⟨0, by omega, by omega, by simp, rfl⟩ (.cons rfl .nil) ?_
  rintro n C j ⟨i, hi, rfl, hp0, rfl⟩
  simp only [go_sem, Nat.reduceAdd, Nat.reduceSub, Nat.reduceMul, Nat.reduceLT, Nat.reduceLeDiff, Nat.reduceEqDiff, Nat.reduceBEq, Nat.reduceBNe, Nat.reducePow, Int.reduceEq, Int.reduceNe, Int.reduceLT, Int.reduceLE, Int.reduceGT, Int.reduceGE, Int.reduceAdd, Int.reduceSub, Int.reduceNeg, Int.reduceMul, not_true_eq_false, not_false_eq_true, true_and, and_true, Int.reduceToNat]
  refine brK_dec (fun hlt => ?_) (fun hge => ?_)
  · simp only [go_sem, Nat.reduceAdd, Nat.reduceSub, Nat.reduceMul, Nat.reduceLT, Nat.reduceLeDiff, Nat.reduceEqDiff, Nat.reduceBEq, Nat.reduceBNe, Nat.reducePow, Int.reduceEq, Int.reduceNe, Int.reduceLT, Int.reduceLE, Int.reduceGT, Int.reduceGE, Int.reduceAdd, Int.reduceSub, Int.reduceNeg, Int.reduceMul, not_true_eq_false, not_false_eq_true, true_and, and_true, Int.reduceToNat]
    refine elemMap (by omega) (by omega) (fun x hx => ?_)
    simp only [go_sem, Nat.reduceAdd, Nat.reduceSub, Nat.reduceMul, Nat.reduceLT, Nat.reduceLeDiff, Nat.reduceEqDiff, Nat.reduceBEq, Nat.reduceBNe, Nat.reducePow, Int.reduceEq, Int.reduceNe, Int.reduceLT, Int.reduceLE, Int.reduceGT, Int.reduceGE, Int.reduceAdd, Int.reduceSub, Int.reduceNeg, Int.reduceMul, not_true_eq_false, not_false_eq_true, true_and, and_true, Int.reduceToNat]
    refine hp x (List.mem_of_getElem? hx) _ ?_
    simp only [go_sem, Nat.reduceAdd, Nat.reduceSub, Nat.reduceMul, Nat.reduceLT, Nat.reduceLeDiff, Nat.reduceEqDiff, Nat.reduceBEq, Nat.reduceBNe, Nat.reducePow, Int.reduceEq, Int.reduceNe, Int.reduceLT, Int.reduceLE, Int.reduceGT, Int.reduceGE, Int.reduceAdd, Int.reduceSub, Int.reduceNeg, Int.reduceMul, not_true_eq_false, not_false_eq_true, true_and, and_true, Int.reduceToNat]
    cases hb : p x with
    | true =>
      simp only [go_sem, Nat.reduceAdd, Nat.reduceSub, Nat.reduceMul, Nat.reduceLT, Nat.reduceLeDiff, Nat.reduceEqDiff, Nat.reduceBEq, Nat.reduceBNe, Nat.reducePow, Int.reduceEq, Int.reduceNe, Int.reduceLT, Int.reduceLE, Int.reduceGT, Int.reduceGE, Int.reduceAdd, Int.reduceSub, Int.reduceNeg, Int.reduceMul, not_true_eq_false, not_false_eq_true, true_and, and_true, Int.reduceToNat]
      rw [idxOf_at hp0 hx hb] at hK
      exact finH1 rfl (.raw _) hK
    | false =>
      simp only [go_sem, Nat.reduceAdd, Nat.reduceSub, Nat.reduceMul, Nat.reduceLT, Nat.reduceLeDiff, Nat.reduceEqDiff, Nat.reduceBEq, Nat.reduceBNe, Nat.reducePow, Int.reduceEq, Int.reduceNe, Int.reduceLT, Int.reduceLE, Int.reduceGT, Int.reduceGE, Int.reduceAdd, Int.reduceSub, Int.reduceNeg, Int.reduceMul, not_true_eq_false, not_false_eq_true, true_and, and_true, Int.reduceToNat]
      exact loopFrH (l.length - (i + 1)) (by omega) ⟨i + 1, by omega, rfl, take_all hp0 (by rw [Int.toNat_natCast] at hx; exact hx) hb, rfl⟩ (.next rfl (by omega) .nil) rfl
  · simp only [go_sem, Nat.reduceAdd, Nat.reduceSub, Nat.reduceMul, Nat.reduceLT, Nat.reduceLeDiff, Nat.reduceEqDiff, Nat.reduceBEq, Nat.reduceBNe, Nat.reducePow, Int.reduceEq, Int.reduceNe, Int.reduceLT, Int.reduceLE, Int.reduceGT, Int.reduceGE, Int.reduceAdd, Int.reduceSub, Int.reduceNeg, Int.reduceMul, not_true_eq_false, not_false_eq_true, true_and, and_true, Int.reduceToNat]
    rw [idxOf_none (take_full hp0 (by omega))] at hK
    exact finH1 rfl (.raw _) hK

end Go.Proofs.YtipcmpkihhfhcaaGreatDoor

namespace Go.Proofs.YtipcmpkihhfhcaaGreatDoor
open Go.Abs
set_option maxRecDepth 20000
set_option linter.unusedSimpArgs false
set_option linter.unusedVariables false
set_option maxHeartbeats 1000000
attribute [local irreducible] vc vcOps vcStep vcGuard prK hrK gK gsK brK callK ElemK SeqK BlockK ScopeK OpsK CallK LoopK LoopGo finPost ACall PCall PCallE BCall vqOps vqStep vqGuard qrK heK pcK gqK gqsK QOpsK qcallK DrawK
open Go.RowKit
theorem pure_encs6 (l : List DDecl) : Go.Abs.Pure (.lst 6 (l.map DDecl.enc) none) := DDecl.pures l
def growPostD (n : Nat) (w : World) (e : Ending) (w' : World) : Prop :=
  ∃ (cap : Nat) (vs : Array Value), e = .returned (.slice (some ⟨w.heap.size, 0, none⟩) 0 cap) ∧ n ≤ cap ∧ cap ≤ maxLen ∧ vs.size = cap * 6 ∧ w' = (w.alloc (.cells vs 44)).drew

theorem n137 : (Tryz.f137.name == "runtime.NumGoroutine") = false := by kernel_rfl
theorem grow_walkD (n : Nat) (h0 : 0 < n) (hn : n ≤ 4294967296) (w : World) : Calls Tryz.prog 137 #[.slice none 0 0, .int .i64 (n : Int)] w (growPostD n w) := by
  have hb : Tryz.t44.bytes = 72 := by kernel_rfl
  have hns := nextslicecap_zero h0
  go_enter Tryz.func137, Tryz.ntmps137
  go_wp2
  all_goals first
    | (exfalso; simp only [hb, hns] at *; omega)
    | (go_ret
       have hge := grownCap_ge w n 0 44
       have hcm := grownCap_le_maxLen w n 0 44 (by simp only [maxLen]; omega)
       exact ⟨_, _, rfl, hge, hcm, by simp only [Array.size_append, zeroCells_size]; show n * 6 + (grownCap w n 0 44 - n) * 6 = grownCap w n 0 44 * 6; omega, rfl⟩)

theorem grow0_walkD (w : World) : Calls Tryz.prog 137 #[.slice none 0 0, .int .i64 0] w fun e w' => e = .returned (.slice none 0 0) ∧ w' = w := by
  go_enter Tryz.func137, Tryz.ntmps137
  go_wp2
  go_ret
  exact ⟨rfl, rfl⟩

theorem grow_callD {n : Nat} (hn : n ≤ 4294967296) {h : List Blk} {K : AV → List Blk → Prop} (hK : K (.lst 6 [] (some h.length)) (h ++ [.tok 44 6 0])) : ACall Tryz.prog 137 [.raw (.slice none 0 0), .i n] h K := by
  refine acall_of fun S φ w vs hr hargs => ?_
  have hvs : vs = #[.slice none 0 0, .int .i64 n] := by
    obtain ⟨v0, h0, c0⟩ := hargs.at (i := 0) rfl
    obtain ⟨v1, h1, c1⟩ := hargs.at (i := 1) rfl
    cases c0; cases c1
    have hl := hargs.1
    apply Array.ext_getElem?
    intro i
    match i with
    | 0 => exact h0
    | 1 => exact h1
    | i + 2 => simp at hl ⊢; omega
  subst hvs
  refine ⟨run_callFunc Tryz.func137 n137 rfl _ w, ?_⟩
  rcases Nat.eq_zero_or_pos n with rfl | h0
  · refine Calls.mono (grow0_walkD w) ?_
    rintro e w' ⟨rfl, rfl⟩
    obtain ⟨k1, k2⟩ := hr.push (l := .tok 0 (.slice none 0 0)) (x := .tok 44 6 0) (S' := S) (w' := w') rfl rfl rfl (Nat.le_refl _) (fun _ _ => rfl) (fun _ h => h) (fun _ h => .inl h) hr.bnd
      ⟨_, upd_same _ _ _, .inl ⟨rfl, rfl⟩⟩ (fun b hb => by simp [blockOf] at hb)
    exact ⟨_, _, _, S, _, rfl, hK, .lstnil _ _ ⟨_, _, upd_same _ _ _, Nat.le_refl _, fun _ => rfl⟩, k1, k2⟩
  · refine Calls.mono (grow_walkD n h0 hn w) ?_
    rintro e w' ⟨cap, us, rfl, hc, hm, hus, rfl⟩
    obtain ⟨k1, k2⟩ := hr.push (l := .tok 0 (.slice (some ⟨w.heap.size, 0, none⟩) 0 cap)) (x := .tok 44 6 0) (S' := S) (w' := (w.alloc (.cells us 44)).drew) rfl rfl rfl (by show _ ≤ (w.heap.push _).size; simp) (fun b hb => alloc_heap w _ _ hb) (fun _ h => h) (fun _ h => .inl h)
      (fun a ha => by have := hr.bnd a ha; show _ < (w.heap.push _).size; simp; omega)
      ⟨_, upd_same _ _ _, .inr (.inr ⟨w.heap.size, cap, us, by omega, hm, rfl, heap_alloc_new w _, hus, fun a ha e => by have := hr.bnd a ha; omega⟩)⟩
      (fun b hb => by simp only [blockOf] at hb; split at hb; cases hb; cases hb; exact Nat.le_refl _)
    refine ⟨_, _, _, S, _, rfl, hK, ?_, k1, k2⟩
    exact .lst _ [] _ _ _ _ (fun _ => undef) rfl (Nat.zero_le _) hm (by simp) (fun j c hj => by simp [flat] at hj) (fun j c hj => by simp [flat] at hj) (fun j c hj => by simp [flat] at hj) ⟨_, _, upd_same _ _ _, Nat.le_refl _, fun _ => rfl⟩

def encsD (l : List DDecl) : AV := .lst 6 (l.map (DDecl.enc)) none
theorem encsD_eq (l : List DDecl) : encsD l = .lst 6 (l.map (DDecl.enc)) none := rfl
attribute [go_sem] encsD_eq
def lensD (ls : List (List DDecl)) : Nat := ls.flatten.length
theorem n86 : (Tryz.f86.name == "runtime.NumGoroutine") = false := by kernel_rfl
theorem concatD (ls : List (List DDecl)) (hl : lensD ls ≤ 4294967296) : PCall Tryz.prog 86 [.lst 1 (ls.map encsD) none] (.lst 6 (ls.flatten.map (DDecl.enc)) none) := by
  refine pcall_of_vc tabOK Tryz.func86 n86 rfl (by repeat' first | exact pure_nil | refine pure_cons ?_ ?_ | exact .raw _ | exact pure_enc _ | exact pure_lst _ | exact pure_strs _ | exact pure_ints _ | exact DTy.pure _ | exact DTy.pures _ | exact DEnum.pure _ | exact DEnum.pures _ | exact DDecl.pure _ | exact DDecl.pures _ | exact DEq.pure _ | exact DEq.pures _ | exact DNode.pure _ | exact DNode.pures _ | exact DProg.pure _ | exact DProg.pures _ | exact DCond.pure _ | exact DCond.pures _ | exact DAtom.pure _ | exact DAtom.pures _ | exact DPlain.pure _ | exact DPlain.pures _ | exact DVar.pure _ | exact DVar.pures _ | exact DFlow.pure _ | exact DFlow.pures _ | exact DFlows.pure _ | exact DFlows.pures _ | exact DAsked.pure _ | exact DAsked.pures _ | exact DFault.pure _ | exact DFault.pures _ | exact DCell.pure _ | exact DCell.pures _ | exact DReply.pure _ | exact DReply.pures _ | exact DAsk.pure _ | exact DAsk.pures _ | exact DOp.pure _ | exact DOp.pures _ | exact pure_list (fun x => DDecl.pures x) _ | exact .fn _ _ _ pure_nil pure_nil | refine .agg _ ?_ | refine .tup _ ?_ | assumption) (by repeat' first | exact pure_nil | refine pure_cons ?_ ?_ | exact .raw _ | exact pure_enc _ | exact pure_lst _ | exact pure_strs _ | exact pure_ints _ | exact DTy.pure _ | exact DTy.pures _ | exact DEnum.pure _ | exact DEnum.pures _ | exact DDecl.pure _ | exact DDecl.pures _ | exact DEq.pure _ | exact DEq.pures _ | exact DNode.pure _ | exact DNode.pures _ | exact DProg.pure _ | exact DProg.pures _ | exact DCond.pure _ | exact DCond.pures _ | exact DAtom.pure _ | exact DAtom.pures _ | exact DPlain.pure _ | exact DPlain.pures _ | exact DVar.pure _ | exact DVar.pures _ | exact DFlow.pure _ | exact DFlow.pures _ | exact DFlows.pure _ | exact DFlows.pures _ | exact DAsked.pure _ | exact DAsked.pures _ | exact DFault.pure _ | exact DFault.pures _ | exact DCell.pure _ | exact DCell.pures _ | exact DReply.pure _ | exact DReply.pures _ | exact DAsk.pure _ | exact DAsk.pures _ | exact DOp.pure _ | exact DOp.pures _ | exact pure_list (fun x => DDecl.pures x) _ | exact .fn _ _ _ pure_nil pure_nil | refine .agg _ ?_ | refine .tup _ ?_ | assumption) (n := 36) rfl (rs := [.tmp 2]) rfl ?_
  simp only [go_sem, Nat.reduceAdd, Nat.reduceSub, Nat.reduceMul, Nat.reduceLT, Nat.reduceLeDiff, Nat.reduceEqDiff, Nat.reduceBEq, Nat.reduceBNe, Nat.reducePow, Int.reduceEq, Int.reduceNe, Int.reduceLT, Int.reduceLE, Int.reduceGT, Int.reduceGE, Int.reduceAdd, Int.reduceSub, Int.reduceNeg, Int.reduceMul, not_true_eq_false, not_false_eq_true, true_and, and_true, Int.reduceToNat]
  intro hlen
  refine loop_frH [5, 11, 12, 13, 14, 15, 16, 17, 18, 3, 19, 20, 21, 22] (fun n C => ∃ (i : Nat), i ≤ ls.length ∧ n = ls.length - i ∧ C = [(11, .raw (.int .i64 (i : Nat))), (3, .i (lensD (ls.take i)))]) ls.length _ ⟨0, by omega, by omega, rfl⟩ (.cons rfl (.cons rfl .nil)) ?_
  rintro n C j ⟨i, hi, rfl, rfl⟩
  simp only [go_sem, Nat.reduceAdd, Nat.reduceSub, Nat.reduceMul, Nat.reduceLT, Nat.reduceLeDiff, Nat.reduceEqDiff, Nat.reduceBEq, Nat.reduceBNe, Nat.reducePow, Int.reduceEq, Int.reduceNe, Int.reduceLT, Int.reduceLE, Int.reduceGT, Int.reduceGE, Int.reduceAdd, Int.reduceSub, Int.reduceNeg, Int.reduceMul, not_true_eq_false, not_false_eq_true, true_and, and_true, Int.reduceToNat]
  refine brK_dec (fun hlt => ?_) (fun hge => ?_)
  · simp only [go_sem, Nat.reduceAdd, Nat.reduceSub, Nat.reduceMul, Nat.reduceLT, Nat.reduceLeDiff, Nat.reduceEqDiff, Nat.reduceBEq, Nat.reduceBNe, Nat.reducePow, Int.reduceEq, Int.reduceNe, Int.reduceLT, Int.reduceLE, Int.reduceGT, Int.reduceGE, Int.reduceAdd, Int.reduceSub, Int.reduceNeg, Int.reduceMul, not_true_eq_false, not_false_eq_true, true_and, and_true, Int.reduceToNat]
    refine elemMap (by omega) (by omega) (fun x hx => ?_)
    rw [Int.toNat_natCast] at hx
    have ht : lensD (ls.take (i + 1)) = lensD (ls.take i) + x.length := by
      unfold lensD
      rw [List.take_add_one, hx]
      simp
    have hle : lensD (ls.take (i + 1)) ≤ lensD ls := take_flatten_le _ _
    simp only [go_sem, Nat.reduceAdd, Nat.reduceSub, Nat.reduceMul, Nat.reduceLT, Nat.reduceLeDiff, Nat.reduceEqDiff, Nat.reduceBEq, Nat.reduceBNe, Nat.reducePow, Int.reduceEq, Int.reduceNe, Int.reduceLT, Int.reduceLE, Int.reduceGT, Int.reduceGE, Int.reduceAdd, Int.reduceSub, Int.reduceNeg, Int.reduceMul, not_true_eq_false, not_false_eq_true, true_and, and_true, Int.reduceToNat]
    intro hxl
    rw [wrap_in _ (by omega) (by omega)]
    refine brK_dec (fun hneg => ?_) (fun _ => ?_)
    · omega
    · simp only [go_sem, Nat.reduceAdd, Nat.reduceSub, Nat.reduceMul, Nat.reduceLT, Nat.reduceLeDiff, Nat.reduceEqDiff, Nat.reduceBEq, Nat.reduceBNe, Nat.reducePow, Int.reduceEq, Int.reduceNe, Int.reduceLT, Int.reduceLE, Int.reduceGT, Int.reduceGE, Int.reduceAdd, Int.reduceSub, Int.reduceNeg, Int.reduceMul, not_true_eq_false, not_false_eq_true, true_and, and_true, Int.reduceToNat]
      exact loopFrH (ls.length - (i + 1)) (by omega) ⟨i + 1, by omega, rfl, rfl⟩ (.next rfl (by omega) (.cons (by rw [ht]; rfl) .nil)) rfl
  · simp only [go_sem, Nat.reduceAdd, Nat.reduceSub, Nat.reduceMul, Nat.reduceLT, Nat.reduceLeDiff, Nat.reduceEqDiff, Nat.reduceBEq, Nat.reduceBNe, Nat.reducePow, Int.reduceEq, Int.reduceNe, Int.reduceLT, Int.reduceLE, Int.reduceGT, Int.reduceGE, Int.reduceAdd, Int.reduceSub, Int.reduceNeg, Int.reduceMul, not_true_eq_false, not_false_eq_true, true_and, and_true, Int.reduceToNat]
    rw [List.take_of_length_le (by omega)]
    refine grow_callD hl ?_
    simp only [go_sem, Nat.reduceAdd, Nat.reduceSub, Nat.reduceMul, Nat.reduceLT, Nat.reduceLeDiff, Nat.reduceEqDiff, Nat.reduceBEq, Nat.reduceBNe, Nat.reducePow, Int.reduceEq, Int.reduceNe, Int.reduceLT, Int.reduceLE, Int.reduceGT, Int.reduceGE, Int.reduceAdd, Int.reduceSub, Int.reduceNeg, Int.reduceMul, not_true_eq_false, not_false_eq_true, true_and, and_true, Int.reduceToNat]
    intro _
    refine loop_fr [8, 27, 28, 29, 30, 31, 32, 33, 6, 34] (fun n C h => ∃ (i : Nat), i ≤ ls.length ∧ n = ls.length - i ∧ C = [(27, .raw (.int .i64 (i : Nat))), (6, .lst 6 ((ls.take i).flatten.map (DDecl.enc)) (some 0))] ∧ h = [.tok 44 6 (lensD (ls.take i))]) ls.length _ ⟨0, by omega, by omega, rfl, rfl⟩ (.cons rfl (.cons rfl .nil)) ?_
    rintro n C j' h ⟨i, hi, rfl, rfl, rfl⟩
    simp only [go_sem, Nat.reduceAdd, Nat.reduceSub, Nat.reduceMul, Nat.reduceLT, Nat.reduceLeDiff, Nat.reduceEqDiff, Nat.reduceBEq, Nat.reduceBNe, Nat.reducePow, Int.reduceEq, Int.reduceNe, Int.reduceLT, Int.reduceLE, Int.reduceGT, Int.reduceGE, Int.reduceAdd, Int.reduceSub, Int.reduceNeg, Int.reduceMul, not_true_eq_false, not_false_eq_true, true_and, and_true, Int.reduceToNat]
    refine brK_dec (fun hlt => ?_) (fun hge => ?_)
    · simp only [go_sem, Nat.reduceAdd, Nat.reduceSub, Nat.reduceMul, Nat.reduceLT, Nat.reduceLeDiff, Nat.reduceEqDiff, Nat.reduceBEq, Nat.reduceBNe, Nat.reducePow, Int.reduceEq, Int.reduceNe, Int.reduceLT, Int.reduceLE, Int.reduceGT, Int.reduceGE, Int.reduceAdd, Int.reduceSub, Int.reduceNeg, Int.reduceMul, not_true_eq_false, not_false_eq_true, true_and, and_true, Int.reduceToNat]
      refine elemMap (by omega) (by omega) (fun x hx => ?_)
      rw [Int.toNat_natCast] at hx
      have ht : (ls.take (i + 1)).flatten = (ls.take i).flatten ++ x := by
        rw [List.take_add_one, hx]
        simp
      have hle : lensD (ls.take (i + 1)) ≤ lensD ls := take_flatten_le _ _
      have hle' : (ls.take i).flatten.length + x.length ≤ 4294967296 := by
        have : lensD (ls.take (i + 1)) = (ls.take i).flatten.length + x.length := by unfold lensD; rw [ht]; simp
        omega
      simp only [go_sem, Nat.reduceAdd, Nat.reduceSub, Nat.reduceMul, Nat.reduceLT, Nat.reduceLeDiff, Nat.reduceEqDiff, Nat.reduceBEq, Nat.reduceBNe, Nat.reducePow, Int.reduceEq, Int.reduceNe, Int.reduceLT, Int.reduceLE, Int.reduceGT, Int.reduceGE, Int.reduceAdd, Int.reduceSub, Int.reduceNeg, Int.reduceMul, not_true_eq_false, not_false_eq_true, true_and, and_true, Int.reduceToNat]
      refine ⟨⟨rfl, hle'⟩, ?_⟩
      exact loopFr (ls.length - (i + 1)) (by omega) ⟨i + 1, by omega, rfl, rfl, by simp [lensD, ht]⟩ (.next rfl (by omega) (.cons (by rw [ht, List.map_append]; rfl) .nil)) rfl
    · simp only [go_sem, Nat.reduceAdd, Nat.reduceSub, Nat.reduceMul, Nat.reduceLT, Nat.reduceLeDiff, Nat.reduceEqDiff, Nat.reduceBEq, Nat.reduceBNe, Nat.reducePow, Int.reduceEq, Int.reduceNe, Int.reduceLT, Int.reduceLE, Int.reduceGT, Int.reduceGE, Int.reduceAdd, Int.reduceSub, Int.reduceNeg, Int.reduceMul, not_true_eq_false, not_false_eq_true, true_and, and_true, Int.reduceToNat]
      rw [List.take_of_length_le (by omega)]
      exact ⟨_, rfl, false, .tok _ _ _⟩

end Go.Proofs.YtipcmpkihhfhcaaGreatDoor

namespace Go.Proofs.YtipcmpkihhfhcaaGreatDoor
open Go.Abs
set_option maxRecDepth 20000
set_option linter.unusedSimpArgs false
set_option linter.unusedVariables false
set_option maxHeartbeats 1000000
attribute [local irreducible] vc vcOps vcStep vcGuard prK hrK gK gsK brK callK ElemK SeqK BlockK ScopeK OpsK CallK LoopK LoopGo finPost ACall PCall PCallE BCall vqOps vqStep vqGuard qrK heK pcK gqK gqsK QOpsK qcallK DrawK
abbrev allV (n : DNode) : List DDecl := [n.Ins, n.Outs, n.Vars].flatten
abbrev zeroD : DDecl := ⟨⟨#[]⟩, ⟨0, 0, 0⟩, ⟨#[]⟩, ⟨#[]⟩⟩
def isD (name : ByteArray) (d : DDecl) : Bool := decide (d.Name = name)
def declF (name : ByteArray) : List DDecl → DDecl × Bool
  | [] => (zeroD, false)
  | d :: l => if d.Name = name then (d, true) else declF name l
def decl (n : DNode) (name : ByteArray) : DDecl × Bool := declF name (allV n)
abbrev declA (p : DDecl × Bool) : AV := .tup [p.1.enc, .b p.2]
theorem declF_eq (name : ByteArray) (l : List DDecl) : declF name l = match l.find? (isD name) with | some d => (d, true) | none => (zeroD, false) := by
  induction l with
  | nil => rfl
  | cons d l ih =>
    simp only [declF, List.find?_cons, isD]
    by_cases h : d.Name = name
    · simp [h]
    · simp [h, ih, isD]

theorem declF_next {name : ByteArray} {l : List DDecl} {i : Nat} {x : DDecl} (hx : l[((i : Int)).toNat]? = some x) (hn : ¬ x.Name = name) {D : DDecl × Bool} (hD : declF name (l.drop i) = D) : declF name (l.drop (i + 1)) = D := by
  rw [← hD]
  rw [Int.toNat_natCast] at hx
  obtain ⟨hi, rfl⟩ := List.getElem?_eq_some_iff.1 hx
  rw [List.drop_eq_getElem_cons hi, declF, if_neg hn]

theorem declF_found {name : ByteArray} {l : List DDecl} {i : Nat} {x : DDecl} (hx : l[((i : Int)).toNat]? = some x) (hn : x.Name = name) {D : DDecl × Bool} (hD : declF name (l.drop i) = D) : D = (x, true) := by
  rw [← hD]
  rw [Int.toNat_natCast] at hx
  obtain ⟨hi, rfl⟩ := List.getElem?_eq_some_iff.1 hx
  rw [List.drop_eq_getElem_cons hi, declF, if_pos hn]

theorem n80 : (Tryz.f80.name == "runtime.NumGoroutine") = false := by kernel_rfl
theorem all63 (n : DNode) (hl : (allV n).length ≤ 4294967296) : PCall Tryz.prog 80 [n.enc] (.lst 6 ((allV n).map DDecl.enc) none) := by
  refine pcall_of_vc tabOK Tryz.func80 n80 rfl (by repeat' first | exact pure_nil | refine pure_cons ?_ ?_ | exact .raw _ | exact pure_enc _ | exact pure_lst _ | exact pure_strs _ | exact pure_ints _ | exact DTy.pure _ | exact DTy.pures _ | exact DEnum.pure _ | exact DEnum.pures _ | exact DDecl.pure _ | exact DDecl.pures _ | exact DEq.pure _ | exact DEq.pures _ | exact DNode.pure _ | exact DNode.pures _ | exact DProg.pure _ | exact DProg.pures _ | exact DCond.pure _ | exact DCond.pures _ | exact DAtom.pure _ | exact DAtom.pures _ | exact DPlain.pure _ | exact DPlain.pures _ | exact DVar.pure _ | exact DVar.pures _ | exact DFlow.pure _ | exact DFlow.pures _ | exact DFlows.pure _ | exact DFlows.pures _ | exact DAsked.pure _ | exact DAsked.pures _ | exact DFault.pure _ | exact DFault.pures _ | exact DCell.pure _ | exact DCell.pures _ | exact DReply.pure _ | exact DReply.pures _ | exact DAsk.pure _ | exact DAsk.pures _ | exact DOp.pure _ | exact DOp.pures _ | exact pure_list (fun x => DDecl.pures x) _ | exact .fn _ _ _ pure_nil pure_nil | refine .agg _ ?_ | refine .tup _ ?_ | assumption) (by repeat' first | exact pure_nil | refine pure_cons ?_ ?_ | exact .raw _ | exact pure_enc _ | exact pure_lst _ | exact pure_strs _ | exact pure_ints _ | exact DTy.pure _ | exact DTy.pures _ | exact DEnum.pure _ | exact DEnum.pures _ | exact DDecl.pure _ | exact DDecl.pures _ | exact DEq.pure _ | exact DEq.pures _ | exact DNode.pure _ | exact DNode.pures _ | exact DProg.pure _ | exact DProg.pures _ | exact DCond.pure _ | exact DCond.pures _ | exact DAtom.pure _ | exact DAtom.pures _ | exact DPlain.pure _ | exact DPlain.pures _ | exact DVar.pure _ | exact DVar.pures _ | exact DFlow.pure _ | exact DFlow.pures _ | exact DFlows.pure _ | exact DFlows.pures _ | exact DAsked.pure _ | exact DAsked.pures _ | exact DFault.pure _ | exact DFault.pures _ | exact DCell.pure _ | exact DCell.pures _ | exact DReply.pure _ | exact DReply.pures _ | exact DAsk.pure _ | exact DAsk.pures _ | exact DOp.pure _ | exact DOp.pures _ | exact pure_list (fun x => DDecl.pures x) _ | exact .fn _ _ _ pure_nil pure_nil | refine .agg _ ?_ | refine .tup _ ?_ | assumption) (n := 11) rfl (rs := [.tmp 2]) rfl ?_
  repeat' first
    | exact finB rfl
    | exact finI rfl
    | exact finP rfl
    | exact absurd rfl (by assumption)
    | simp only [go_sem, Nat.reduceAdd, Nat.reduceSub, Nat.reduceMul, Nat.reduceLT, Nat.reduceLeDiff, Nat.reduceEqDiff, Nat.reduceBEq, Nat.reduceBNe, Nat.reducePow, Int.reduceEq, Int.reduceNe, Int.reduceLT, Int.reduceLE, Int.reduceGT, Int.reduceGE, Int.reduceAdd, Int.reduceSub, Int.reduceNeg, Int.reduceMul, not_true_eq_false, not_false_eq_true, true_and, and_true, Int.reduceToNat]
    | (intro _)
    | refine brK_dec (fun _ => ?_) (fun _ => ?_)
    | refine brK_any ?_ ?_
    | refine gK_dec (fun _ => ?_) (fun _ => ?_)
    | refine gK_any ?_ ?_
    | refine gqK_dec (fun _ => ?_) (fun _ => ?_)
    | refine ⟨by omega, ?_⟩
    | refine elemHave (by omega) (by assumption) ?_
    | refine elemMap (by omega) (by omega) (fun x hx => ?_)
    | refine drawK mo (by kernel_rfl) ?_
    | (refine PCall.callW (concatD [n.Ins, n.Outs, n.Vars] hl) ⟨.tok _ _ _, trivial⟩ ?_)

theorem n122 : (Tryz.f122.name == "runtime.NumGoroutine") = false := by kernel_rfl
theorem n174 : (Tryz.f174.name == "runtime.NumGoroutine") = false := by kernel_rfl
theorem n72 : (Tryz.f72.name == "runtime.NumGoroutine") = false := by kernel_rfl
theorem decl25 (n : DNode) (name : ByteArray) (hl : (allV n).length ≤ 4294967296) : PCall Tryz.prog 72 [n.enc, .s name] (declA (decl n name)) := by
  refine pcall_of_vc tabOK Tryz.func72 n72 rfl (by repeat' first | exact pure_nil | refine pure_cons ?_ ?_ | exact .raw _ | exact pure_enc _ | exact pure_lst _ | exact pure_strs _ | exact pure_ints _ | exact DTy.pure _ | exact DTy.pures _ | exact DEnum.pure _ | exact DEnum.pures _ | exact DDecl.pure _ | exact DDecl.pures _ | exact DEq.pure _ | exact DEq.pures _ | exact DNode.pure _ | exact DNode.pures _ | exact DProg.pure _ | exact DProg.pures _ | exact DCond.pure _ | exact DCond.pures _ | exact DAtom.pure _ | exact DAtom.pures _ | exact DPlain.pure _ | exact DPlain.pures _ | exact DVar.pure _ | exact DVar.pures _ | exact DFlow.pure _ | exact DFlow.pures _ | exact DFlows.pure _ | exact DFlows.pures _ | exact DAsked.pure _ | exact DAsked.pures _ | exact DFault.pure _ | exact DFault.pures _ | exact DCell.pure _ | exact DCell.pures _ | exact DReply.pure _ | exact DReply.pures _ | exact DAsk.pure _ | exact DAsk.pures _ | exact DOp.pure _ | exact DOp.pures _ | exact pure_list (fun x => DDecl.pures x) _ | exact .fn _ _ _ pure_nil pure_nil | refine .agg _ ?_ | refine .tup _ ?_ | assumption) (by repeat' first | exact pure_nil | refine pure_cons ?_ ?_ | exact .raw _ | exact pure_enc _ | exact pure_lst _ | exact pure_strs _ | exact pure_ints _ | exact DTy.pure _ | exact DTy.pures _ | exact DEnum.pure _ | exact DEnum.pures _ | exact DDecl.pure _ | exact DDecl.pures _ | exact DEq.pure _ | exact DEq.pures _ | exact DNode.pure _ | exact DNode.pures _ | exact DProg.pure _ | exact DProg.pures _ | exact DCond.pure _ | exact DCond.pures _ | exact DAtom.pure _ | exact DAtom.pures _ | exact DPlain.pure _ | exact DPlain.pures _ | exact DVar.pure _ | exact DVar.pures _ | exact DFlow.pure _ | exact DFlow.pures _ | exact DFlows.pure _ | exact DFlows.pures _ | exact DAsked.pure _ | exact DAsked.pures _ | exact DFault.pure _ | exact DFault.pures _ | exact DCell.pure _ | exact DCell.pures _ | exact DReply.pure _ | exact DReply.pures _ | exact DAsk.pure _ | exact DAsk.pures _ | exact DOp.pure _ | exact DOp.pures _ | exact pure_list (fun x => DDecl.pures x) _ | exact .fn _ _ _ pure_nil pure_nil | refine .agg _ ?_ | refine .tup _ ?_ | assumption) (n := 21) rfl (rs := [.cell 4 44, .tmp 5]) rfl ?_
  simp only [go_sem, Nat.reduceAdd, Nat.reduceSub, Nat.reduceMul, Nat.reduceLT, Nat.reduceLeDiff, Nat.reduceEqDiff, Nat.reduceBEq, Nat.reduceBNe, Nat.reducePow, Int.reduceEq, Int.reduceNe, Int.reduceLT, Int.reduceLE, Int.reduceGT, Int.reduceGE, Int.reduceAdd, Int.reduceSub, Int.reduceNeg, Int.reduceMul, not_true_eq_false, not_false_eq_true, true_and, and_true, Int.reduceToNat]
  refine PCall.call (all63 n hl) ?_
  simp only [go_sem, Nat.reduceAdd, Nat.reduceSub, Nat.reduceMul, Nat.reduceLT, Nat.reduceLeDiff, Nat.reduceEqDiff, Nat.reduceBEq, Nat.reduceBNe, Nat.reducePow, Int.reduceEq, Int.reduceNe, Int.reduceLT, Int.reduceLE, Int.reduceGT, Int.reduceGE, Int.reduceAdd, Int.reduceSub, Int.reduceNeg, Int.reduceMul, not_true_eq_false, not_false_eq_true, true_and, and_true, Int.reduceToNat]
  refine acallK_of_vc tabOK Tryz.func122 n122 rfl (n := 4) rfl (rs := [.tmp 2]) rfl ?_
  simp only [go_sem, Nat.reduceAdd, Nat.reduceSub, Nat.reduceMul, Nat.reduceLT, Nat.reduceLeDiff, Nat.reduceEqDiff, Nat.reduceBEq, Nat.reduceBNe, Nat.reducePow, Int.reduceEq, Int.reduceNe, Int.reduceLT, Int.reduceLE, Int.reduceGT, Int.reduceGE, Int.reduceAdd, Int.reduceSub, Int.reduceNeg, Int.reduceMul, not_true_eq_false, not_false_eq_true, true_and, and_true, Int.reduceToNat]
  refine finK rfl ?_
  simp only [go_sem, Nat.reduceAdd, Nat.reduceSub, Nat.reduceMul, Nat.reduceLT, Nat.reduceLeDiff, Nat.reduceEqDiff, Nat.reduceBEq, Nat.reduceBNe, Nat.reducePow, Int.reduceEq, Int.reduceNe, Int.reduceLT, Int.reduceLE, Int.reduceGT, Int.reduceGE, Int.reduceAdd, Int.reduceSub, Int.reduceNeg, Int.reduceMul, not_true_eq_false, not_false_eq_true, true_and, and_true, Int.reduceToNat]
  refine indexDecl (p := isD name) (fun x hx K hK => ?_) ?_
  · refine acall_of_vc tabOK Tryz.func174 n174 rfl (n := 8) rfl (rs := [.tmp 3]) rfl ?_
    simp only [go_sem, Nat.reduceAdd, Nat.reduceSub, Nat.reduceMul, Nat.reduceLT, Nat.reduceLeDiff, Nat.reduceEqDiff, Nat.reduceBEq, Nat.reduceBNe, Nat.reducePow, Int.reduceEq, Int.reduceNe, Int.reduceLT, Int.reduceLE, Int.reduceGT, Int.reduceGE, Int.reduceAdd, Int.reduceSub, Int.reduceNeg, Int.reduceMul, not_true_eq_false, not_false_eq_true, true_and, and_true, Int.reduceToNat]
    exact finH0 _ rfl (.raw _) hK
  have hd := declF_eq name (allV n)
  unfold decl
  rcases idxOf_cases (isD name) (allV n) with ⟨h1, h2⟩ | ⟨i, x, h1, h2, h3, _, h4⟩
  · rw [h1]
    rw [h2] at hd
    rw [hd]
    repeat' first
    | exact finB rfl
    | exact finI rfl
    | exact finP rfl
    | exact absurd rfl (by assumption)
    | simp only [go_sem, Nat.reduceAdd, Nat.reduceSub, Nat.reduceMul, Nat.reduceLT, Nat.reduceLeDiff, Nat.reduceEqDiff, Nat.reduceBEq, Nat.reduceBNe, Nat.reducePow, Int.reduceEq, Int.reduceNe, Int.reduceLT, Int.reduceLE, Int.reduceGT, Int.reduceGE, Int.reduceAdd, Int.reduceSub, Int.reduceNeg, Int.reduceMul, not_true_eq_false, not_false_eq_true, true_and, and_true, Int.reduceToNat]
    | (intro _)
    | refine brK_dec (fun _ => ?_) (fun _ => ?_)
    | refine brK_any ?_ ?_
    | refine gK_dec (fun _ => ?_) (fun _ => ?_)
    | refine gK_any ?_ ?_
    | refine gqK_dec (fun _ => ?_) (fun _ => ?_)
    | refine ⟨by omega, ?_⟩
    | refine elemHave (by omega) (by assumption) ?_
    | refine elemMap (by omega) (by omega) (fun x hx => ?_)
    | refine drawK mo (by kernel_rfl) ?_
    | (exact finT rfl)
    | omega
    | (rw [show declA (zeroD, false) = .tup [zeroD.enc, .b false] from rfl, DDecl.enc_eq]; exact ⟨_, (by first | (simp only [go_sem, Nat.reduceAdd, Nat.reduceSub, Nat.reduceMul, Nat.reduceLT, Nat.reduceLeDiff, Nat.reduceEqDiff, Nat.reduceBEq, Nat.reduceBNe, Nat.reducePow, Int.reduceEq, Int.reduceNe, Int.reduceLT, Int.reduceLE, Int.reduceGT, Int.reduceGE, Int.reduceAdd, Int.reduceSub, Int.reduceNeg, Int.reduceMul, not_true_eq_false, not_false_eq_true, true_and, and_true, Int.reduceToNat]; done) | (simp only [go_sem, Nat.reduceAdd, Nat.reduceSub, Nat.reduceMul, Nat.reduceLT, Nat.reduceLeDiff, Nat.reduceEqDiff, Nat.reduceBEq, Nat.reduceBNe, Nat.reducePow, Int.reduceEq, Int.reduceNe, Int.reduceLT, Int.reduceLE, Int.reduceGT, Int.reduceGE, Int.reduceAdd, Int.reduceSub, Int.reduceNeg, Int.reduceMul, not_true_eq_false, not_false_eq_true, true_and, and_true, Int.reduceToNat]; exact rfl) | exact rfl), false, .refl _⟩)
  · rw [h1]
    rw [h3] at hd
    rw [hd]
    repeat' first
    | exact finB rfl
    | exact finI rfl
    | exact finP rfl
    | exact absurd rfl (by assumption)
    | simp only [go_sem, Nat.reduceAdd, Nat.reduceSub, Nat.reduceMul, Nat.reduceLT, Nat.reduceLeDiff, Nat.reduceEqDiff, Nat.reduceBEq, Nat.reduceBNe, Nat.reducePow, Int.reduceEq, Int.reduceNe, Int.reduceLT, Int.reduceLE, Int.reduceGT, Int.reduceGE, Int.reduceAdd, Int.reduceSub, Int.reduceNeg, Int.reduceMul, not_true_eq_false, not_false_eq_true, true_and, and_true, Int.reduceToNat]
    | (intro _)
    | refine brK_dec (fun _ => ?_) (fun _ => ?_)
    | refine brK_any ?_ ?_
    | refine gK_dec (fun _ => ?_) (fun _ => ?_)
    | refine gK_any ?_ ?_
    | refine gqK_dec (fun _ => ?_) (fun _ => ?_)
    | refine ⟨by omega, ?_⟩
    | refine elemHave (by omega) (by assumption) ?_
    | refine elemMap (by omega) (by omega) (fun x hx => ?_)
    | refine drawK mo (by kernel_rfl) ?_
    | exact ⟨_, (by first | (simp only [go_sem, Nat.reduceAdd, Nat.reduceSub, Nat.reduceMul, Nat.reduceLT, Nat.reduceLeDiff, Nat.reduceEqDiff, Nat.reduceBEq, Nat.reduceBNe, Nat.reducePow, Int.reduceEq, Int.reduceNe, Int.reduceLT, Int.reduceLE, Int.reduceGT, Int.reduceGE, Int.reduceAdd, Int.reduceSub, Int.reduceNeg, Int.reduceMul, not_true_eq_false, not_false_eq_true, true_and, and_true, Int.reduceToNat]; done) | (simp only [go_sem, Nat.reduceAdd, Nat.reduceSub, Nat.reduceMul, Nat.reduceLT, Nat.reduceLeDiff, Nat.reduceEqDiff, Nat.reduceBEq, Nat.reduceBNe, Nat.reducePow, Int.reduceEq, Int.reduceNe, Int.reduceLT, Int.reduceLE, Int.reduceGT, Int.reduceGE, Int.reduceAdd, Int.reduceSub, Int.reduceNeg, Int.reduceMul, not_true_eq_false, not_false_eq_true, true_and, and_true, Int.reduceToNat]; exact rfl) | exact rfl), false, .refl _⟩
    | omega
    | (refine elemHave (by omega) (by rw [Int.toNat_natCast]; exact h2) ?_)

/-- The document's variables of a node. -/
theorem n17 : (Tryz.f17.name == "runtime.NumGoroutine") = false := by kernel_rfl
theorem all66 (n : DNode) (hl : (allV n).length ≤ 4294967296) : PCall Tryz.prog 17 [n.enc] (.lst 6 ((allV n).map DDecl.enc) none) := by
  refine pcall_of_vc tabOK Tryz.func17 n17 rfl (by repeat' first | exact pure_nil | refine pure_cons ?_ ?_ | exact .raw _ | exact pure_enc _ | exact pure_lst _ | exact pure_strs _ | exact pure_ints _ | exact DTy.pure _ | exact DTy.pures _ | exact DEnum.pure _ | exact DEnum.pures _ | exact DDecl.pure _ | exact DDecl.pures _ | exact DEq.pure _ | exact DEq.pures _ | exact DNode.pure _ | exact DNode.pures _ | exact DProg.pure _ | exact DProg.pures _ | exact DCond.pure _ | exact DCond.pures _ | exact DAtom.pure _ | exact DAtom.pures _ | exact DPlain.pure _ | exact DPlain.pures _ | exact DVar.pure _ | exact DVar.pures _ | exact DFlow.pure _ | exact DFlow.pures _ | exact DFlows.pure _ | exact DFlows.pures _ | exact DAsked.pure _ | exact DAsked.pures _ | exact DFault.pure _ | exact DFault.pures _ | exact DCell.pure _ | exact DCell.pures _ | exact DReply.pure _ | exact DReply.pures _ | exact DAsk.pure _ | exact DAsk.pures _ | exact DOp.pure _ | exact DOp.pures _ | exact pure_list (fun x => DDecl.pures x) _ | exact .fn _ _ _ pure_nil pure_nil | refine .agg _ ?_ | refine .tup _ ?_ | assumption) (by repeat' first | exact pure_nil | refine pure_cons ?_ ?_ | exact .raw _ | exact pure_enc _ | exact pure_lst _ | exact pure_strs _ | exact pure_ints _ | exact DTy.pure _ | exact DTy.pures _ | exact DEnum.pure _ | exact DEnum.pures _ | exact DDecl.pure _ | exact DDecl.pures _ | exact DEq.pure _ | exact DEq.pures _ | exact DNode.pure _ | exact DNode.pures _ | exact DProg.pure _ | exact DProg.pures _ | exact DCond.pure _ | exact DCond.pures _ | exact DAtom.pure _ | exact DAtom.pures _ | exact DPlain.pure _ | exact DPlain.pures _ | exact DVar.pure _ | exact DVar.pures _ | exact DFlow.pure _ | exact DFlow.pures _ | exact DFlows.pure _ | exact DFlows.pures _ | exact DAsked.pure _ | exact DAsked.pures _ | exact DFault.pure _ | exact DFault.pures _ | exact DCell.pure _ | exact DCell.pures _ | exact DReply.pure _ | exact DReply.pures _ | exact DAsk.pure _ | exact DAsk.pures _ | exact DOp.pure _ | exact DOp.pures _ | exact pure_list (fun x => DDecl.pures x) _ | exact .fn _ _ _ pure_nil pure_nil | refine .agg _ ?_ | refine .tup _ ?_ | assumption) (n := 13) rfl (rs := [.tmp 2]) rfl ?_
  have hl' : n.Ins.length + n.Outs.length + n.Vars.length ≤ 4294967296 := by simpa [allV, Nat.add_assoc] using hl
  have e : (allV n).map DDecl.enc = n.Ins.map DDecl.enc ++ (n.Outs.map DDecl.enc ++ n.Vars.map DDecl.enc) := by simp [allV]
  repeat' first
    | exact finB rfl
    | exact finI rfl
    | exact finP rfl
    | exact absurd rfl (by assumption)
    | simp only [go_sem, Nat.reduceAdd, Nat.reduceSub, Nat.reduceMul, Nat.reduceLT, Nat.reduceLeDiff, Nat.reduceEqDiff, Nat.reduceBEq, Nat.reduceBNe, Nat.reducePow, Int.reduceEq, Int.reduceNe, Int.reduceLT, Int.reduceLE, Int.reduceGT, Int.reduceGE, Int.reduceAdd, Int.reduceSub, Int.reduceNeg, Int.reduceMul, not_true_eq_false, not_false_eq_true, true_and, and_true, Int.reduceToNat]
    | (intro _)
    | refine brK_dec (fun _ => ?_) (fun _ => ?_)
    | refine brK_any ?_ ?_
    | refine gK_dec (fun _ => ?_) (fun _ => ?_)
    | refine gK_any ?_ ?_
    | refine gqK_dec (fun _ => ?_) (fun _ => ?_)
    | refine ⟨by omega, ?_⟩
    | refine elemHave (by omega) (by assumption) ?_
    | refine elemMap (by omega) (by omega) (fun x hx => ?_)
    | refine drawK mo (by kernel_rfl) ?_
    | (refine ⟨⟨by simp, by simp; omega⟩, ?_⟩)
    | (rw [e]; exact ⟨_, rfl, false, .tok _ _ _⟩)

theorem n69 : (Tryz.f69.name == "runtime.NumGoroutine") = false := by kernel_rfl
theorem decl26 (n : DNode) (name : ByteArray) (hl : (allV n).length ≤ 4294967296) : PCall Tryz.prog 69 [n.enc, .s name] (declA (decl n name)) := by
  refine pcall_of_vc tabOK Tryz.func69 n69 rfl (by repeat' first | exact pure_nil | refine pure_cons ?_ ?_ | exact .raw _ | exact pure_enc _ | exact pure_lst _ | exact pure_strs _ | exact pure_ints _ | exact DTy.pure _ | exact DTy.pures _ | exact DEnum.pure _ | exact DEnum.pures _ | exact DDecl.pure _ | exact DDecl.pures _ | exact DEq.pure _ | exact DEq.pures _ | exact DNode.pure _ | exact DNode.pures _ | exact DProg.pure _ | exact DProg.pures _ | exact DCond.pure _ | exact DCond.pures _ | exact DAtom.pure _ | exact DAtom.pures _ | exact DPlain.pure _ | exact DPlain.pures _ | exact DVar.pure _ | exact DVar.pures _ | exact DFlow.pure _ | exact DFlow.pures _ | exact DFlows.pure _ | exact DFlows.pures _ | exact DAsked.pure _ | exact DAsked.pures _ | exact DFault.pure _ | exact DFault.pures _ | exact DCell.pure _ | exact DCell.pures _ | exact DReply.pure _ | exact DReply.pures _ | exact DAsk.pure _ | exact DAsk.pures _ | exact DOp.pure _ | exact DOp.pures _ | exact pure_list (fun x => DDecl.pures x) _ | exact .fn _ _ _ pure_nil pure_nil | refine .agg _ ?_ | refine .tup _ ?_ | assumption) (by repeat' first | exact pure_nil | refine pure_cons ?_ ?_ | exact .raw _ | exact pure_enc _ | exact pure_lst _ | exact pure_strs _ | exact pure_ints _ | exact DTy.pure _ | exact DTy.pures _ | exact DEnum.pure _ | exact DEnum.pures _ | exact DDecl.pure _ | exact DDecl.pures _ | exact DEq.pure _ | exact DEq.pures _ | exact DNode.pure _ | exact DNode.pures _ | exact DProg.pure _ | exact DProg.pures _ | exact DCond.pure _ | exact DCond.pures _ | exact DAtom.pure _ | exact DAtom.pures _ | exact DPlain.pure _ | exact DPlain.pures _ | exact DVar.pure _ | exact DVar.pures _ | exact DFlow.pure _ | exact DFlow.pures _ | exact DFlows.pure _ | exact DFlows.pures _ | exact DAsked.pure _ | exact DAsked.pures _ | exact DFault.pure _ | exact DFault.pures _ | exact DCell.pure _ | exact DCell.pures _ | exact DReply.pure _ | exact DReply.pures _ | exact DAsk.pure _ | exact DAsk.pures _ | exact DOp.pure _ | exact DOp.pures _ | exact pure_list (fun x => DDecl.pures x) _ | exact .fn _ _ _ pure_nil pure_nil | refine .agg _ ?_ | refine .tup _ ?_ | assumption) (n := 28) rfl (rs := [.cell 4 44, .tmp 5]) rfl ?_
  unfold decl
  repeat' first
    | exact finB rfl
    | exact finI rfl
    | exact finP rfl
    | exact absurd rfl (by assumption)
    | simp only [go_sem, Nat.reduceAdd, Nat.reduceSub, Nat.reduceMul, Nat.reduceLT, Nat.reduceLeDiff, Nat.reduceEqDiff, Nat.reduceBEq, Nat.reduceBNe, Nat.reducePow, Int.reduceEq, Int.reduceNe, Int.reduceLT, Int.reduceLE, Int.reduceGT, Int.reduceGE, Int.reduceAdd, Int.reduceSub, Int.reduceNeg, Int.reduceMul, not_true_eq_false, not_false_eq_true, true_and, and_true, Int.reduceToNat]
    | (intro _)
    | refine brK_dec (fun _ => ?_) (fun _ => ?_)
    | refine brK_any ?_ ?_
    | refine gK_dec (fun _ => ?_) (fun _ => ?_)
    | refine gK_any ?_ ?_
    | refine gqK_dec (fun _ => ?_) (fun _ => ?_)
    | refine ⟨by omega, ?_⟩
    | refine elemHave (by omega) (by assumption) ?_
    | refine elemMap (by omega) (by omega) (fun x hx => ?_)
    | refine drawK mo (by kernel_rfl) ?_
    | (refine PCall.call (all66 n hl) ?_)
    | (rw [← hpi, List.drop_of_length_le (by omega)]; simp only [declF]; rw [show declA (zeroD, false) = .tup [zeroD.enc, .b false] from rfl, DDecl.enc_eq]; exact ⟨_, (by first | (simp only [go_sem, Nat.reduceAdd, Nat.reduceSub, Nat.reduceMul, Nat.reduceLT, Nat.reduceLeDiff, Nat.reduceEqDiff, Nat.reduceBEq, Nat.reduceBNe, Nat.reducePow, Int.reduceEq, Int.reduceNe, Int.reduceLT, Int.reduceLE, Int.reduceGT, Int.reduceGE, Int.reduceAdd, Int.reduceSub, Int.reduceNeg, Int.reduceMul, not_true_eq_false, not_false_eq_true, true_and, and_true, Int.reduceToNat]; done) | (simp only [go_sem, Nat.reduceAdd, Nat.reduceSub, Nat.reduceMul, Nat.reduceLT, Nat.reduceLeDiff, Nat.reduceEqDiff, Nat.reduceBEq, Nat.reduceBNe, Nat.reducePow, Int.reduceEq, Int.reduceNe, Int.reduceLT, Int.reduceLE, Int.reduceGT, Int.reduceGE, Int.reduceAdd, Int.reduceSub, Int.reduceNeg, Int.reduceMul, not_true_eq_false, not_false_eq_true, true_and, and_true, Int.reduceToNat]; exact rfl) | exact rfl), false, .refl _⟩)
    | (rw [declF_found (by assumption) (by assumption) hpi]; exact ⟨_, (by first | (simp only [go_sem, Nat.reduceAdd, Nat.reduceSub, Nat.reduceMul, Nat.reduceLT, Nat.reduceLeDiff, Nat.reduceEqDiff, Nat.reduceBEq, Nat.reduceBNe, Nat.reducePow, Int.reduceEq, Int.reduceNe, Int.reduceLT, Int.reduceLE, Int.reduceGT, Int.reduceGE, Int.reduceAdd, Int.reduceSub, Int.reduceNeg, Int.reduceMul, not_true_eq_false, not_false_eq_true, true_and, and_true, Int.reduceToNat]; done) | (simp only [go_sem, Nat.reduceAdd, Nat.reduceSub, Nat.reduceMul, Nat.reduceLT, Nat.reduceLeDiff, Nat.reduceEqDiff, Nat.reduceBEq, Nat.reduceBNe, Nat.reducePow, Int.reduceEq, Int.reduceNe, Int.reduceLT, Int.reduceLE, Int.reduceGT, Int.reduceGE, Int.reduceAdd, Int.reduceSub, Int.reduceNeg, Int.reduceMul, not_true_eq_false, not_false_eq_true, true_and, and_true, Int.reduceToNat]; exact rfl) | exact rfl), false, .refl _⟩)
    | exact loopFrH _ (by omega) ⟨i + 1, by omega, rfl, declF_next (by assumption) (by assumption) hpi, rfl⟩ (.next rfl (by omega) .nil) rfl
    | (refine loop_frH [5, 7, 10, 11, 12, 13, 14, 15, 16, 17, 18, 19, 20, 21, 22, 23, 24, 25, 26] (fun mm_ CC_ => ∃ (i : Nat), i ≤ (allV n).length ∧ mm_ = (allV n).length - i ∧ (declF name ((allV n).drop i) = declF name (allV n)) ∧ CC_ = [(7, .raw (.int .i64 ((i : Nat) : Int)))]) ((allV n).length) _ ⟨0, by omega, by omega, rfl, rfl⟩ (.cons rfl .nil) ?_; rintro mm_ CC_ ji ⟨i, hi, rfl, hpi, rfl⟩)

def findF (p : DProg) (name : ByteArray) : Int := idxOf (fun n => decide (n.Name = name)) p.Nodes
theorem n190 : (Tryz.f190.name == "runtime.NumGoroutine") = false := by kernel_rfl
theorem n179 : (Tryz.f179.name == "runtime.NumGoroutine") = false := by kernel_rfl
theorem find23 (p : DProg) (name : ByteArray) : PCall Tryz.prog 179 [p.enc, .s name] (.i (findF p name)) := by
  refine pcall_of_vc tabOK Tryz.func179 n179 rfl (by repeat' first | exact pure_nil | refine pure_cons ?_ ?_ | exact .raw _ | exact pure_enc _ | exact pure_lst _ | exact pure_strs _ | exact pure_ints _ | exact DTy.pure _ | exact DTy.pures _ | exact DEnum.pure _ | exact DEnum.pures _ | exact DDecl.pure _ | exact DDecl.pures _ | exact DEq.pure _ | exact DEq.pures _ | exact DNode.pure _ | exact DNode.pures _ | exact DProg.pure _ | exact DProg.pures _ | exact DCond.pure _ | exact DCond.pures _ | exact DAtom.pure _ | exact DAtom.pures _ | exact DPlain.pure _ | exact DPlain.pures _ | exact DVar.pure _ | exact DVar.pures _ | exact DFlow.pure _ | exact DFlow.pures _ | exact DFlows.pure _ | exact DFlows.pures _ | exact DAsked.pure _ | exact DAsked.pures _ | exact DFault.pure _ | exact DFault.pures _ | exact DCell.pure _ | exact DCell.pures _ | exact DReply.pure _ | exact DReply.pures _ | exact DAsk.pure _ | exact DAsk.pures _ | exact DOp.pure _ | exact DOp.pures _ | exact pure_list (fun x => DDecl.pures x) _ | exact .fn _ _ _ pure_nil pure_nil | refine .agg _ ?_ | refine .tup _ ?_ | assumption) (by repeat' first | exact pure_nil | refine pure_cons ?_ ?_ | exact .raw _ | exact pure_enc _ | exact pure_lst _ | exact pure_strs _ | exact pure_ints _ | exact DTy.pure _ | exact DTy.pures _ | exact DEnum.pure _ | exact DEnum.pures _ | exact DDecl.pure _ | exact DDecl.pures _ | exact DEq.pure _ | exact DEq.pures _ | exact DNode.pure _ | exact DNode.pures _ | exact DProg.pure _ | exact DProg.pures _ | exact DCond.pure _ | exact DCond.pures _ | exact DAtom.pure _ | exact DAtom.pures _ | exact DPlain.pure _ | exact DPlain.pures _ | exact DVar.pure _ | exact DVar.pures _ | exact DFlow.pure _ | exact DFlow.pures _ | exact DFlows.pure _ | exact DFlows.pures _ | exact DAsked.pure _ | exact DAsked.pures _ | exact DFault.pure _ | exact DFault.pures _ | exact DCell.pure _ | exact DCell.pures _ | exact DReply.pure _ | exact DReply.pures _ | exact DAsk.pure _ | exact DAsk.pures _ | exact DOp.pure _ | exact DOp.pures _ | exact pure_list (fun x => DDecl.pures x) _ | exact .fn _ _ _ pure_nil pure_nil | refine .agg _ ?_ | refine .tup _ ?_ | assumption) (n := 9) rfl (rs := [.tmp 4]) rfl ?_
  simp only [go_sem, Nat.reduceAdd, Nat.reduceSub, Nat.reduceMul, Nat.reduceLT, Nat.reduceLeDiff, Nat.reduceEqDiff, Nat.reduceBEq, Nat.reduceBNe, Nat.reducePow, Int.reduceEq, Int.reduceNe, Int.reduceLT, Int.reduceLE, Int.reduceGT, Int.reduceGE, Int.reduceAdd, Int.reduceSub, Int.reduceNeg, Int.reduceMul, not_true_eq_false, not_false_eq_true, true_and, and_true, Int.reduceToNat]
  refine indexNode (p := fun n => decide (n.Name = name)) (fun x hx K hK => ?_) ?_
  · refine acall_of_vc tabOK Tryz.func190 n190 rfl (n := 8) rfl (rs := [.tmp 3]) rfl ?_
    simp only [go_sem, Nat.reduceAdd, Nat.reduceSub, Nat.reduceMul, Nat.reduceLT, Nat.reduceLeDiff, Nat.reduceEqDiff, Nat.reduceBEq, Nat.reduceBNe, Nat.reducePow, Int.reduceEq, Int.reduceNe, Int.reduceLT, Int.reduceLE, Int.reduceGT, Int.reduceGE, Int.reduceAdd, Int.reduceSub, Int.reduceNeg, Int.reduceMul, not_true_eq_false, not_false_eq_true, true_and, and_true, Int.reduceToNat]
    exact finH0 _ rfl (.raw _) hK
  repeat' first
    | exact finB rfl
    | exact finI rfl
    | exact finP rfl
    | exact absurd rfl (by assumption)
    | simp only [go_sem, Nat.reduceAdd, Nat.reduceSub, Nat.reduceMul, Nat.reduceLT, Nat.reduceLeDiff, Nat.reduceEqDiff, Nat.reduceBEq, Nat.reduceBNe, Nat.reducePow, Int.reduceEq, Int.reduceNe, Int.reduceLT, Int.reduceLE, Int.reduceGT, Int.reduceGE, Int.reduceAdd, Int.reduceSub, Int.reduceNeg, Int.reduceMul, not_true_eq_false, not_false_eq_true, true_and, and_true, Int.reduceToNat]
    | (intro _)
    | refine brK_dec (fun _ => ?_) (fun _ => ?_)
    | refine brK_any ?_ ?_
    | refine gK_dec (fun _ => ?_) (fun _ => ?_)
    | refine gK_any ?_ ?_
    | refine gqK_dec (fun _ => ?_) (fun _ => ?_)
    | refine ⟨by omega, ?_⟩
    | refine elemHave (by omega) (by assumption) ?_
    | refine elemMap (by omega) (by omega) (fun x hx => ?_)
    | refine drawK mo (by kernel_rfl) ?_

theorem n20 : (Tryz.f20.name == "runtime.NumGoroutine") = false := by kernel_rfl
theorem find24 (p : DProg) (name : ByteArray) : PCall Tryz.prog 20 [p.enc, .s name] (.i (findF p name)) := by
  refine pcall_of_vc tabOK Tryz.func20 n20 rfl (by repeat' first | exact pure_nil | refine pure_cons ?_ ?_ | exact .raw _ | exact pure_enc _ | exact pure_lst _ | exact pure_strs _ | exact pure_ints _ | exact DTy.pure _ | exact DTy.pures _ | exact DEnum.pure _ | exact DEnum.pures _ | exact DDecl.pure _ | exact DDecl.pures _ | exact DEq.pure _ | exact DEq.pures _ | exact DNode.pure _ | exact DNode.pures _ | exact DProg.pure _ | exact DProg.pures _ | exact DCond.pure _ | exact DCond.pures _ | exact DAtom.pure _ | exact DAtom.pures _ | exact DPlain.pure _ | exact DPlain.pures _ | exact DVar.pure _ | exact DVar.pures _ | exact DFlow.pure _ | exact DFlow.pures _ | exact DFlows.pure _ | exact DFlows.pures _ | exact DAsked.pure _ | exact DAsked.pures _ | exact DFault.pure _ | exact DFault.pures _ | exact DCell.pure _ | exact DCell.pures _ | exact DReply.pure _ | exact DReply.pures _ | exact DAsk.pure _ | exact DAsk.pures _ | exact DOp.pure _ | exact DOp.pures _ | exact pure_list (fun x => DDecl.pures x) _ | exact .fn _ _ _ pure_nil pure_nil | refine .agg _ ?_ | refine .tup _ ?_ | assumption) (by repeat' first | exact pure_nil | refine pure_cons ?_ ?_ | exact .raw _ | exact pure_enc _ | exact pure_lst _ | exact pure_strs _ | exact pure_ints _ | exact DTy.pure _ | exact DTy.pures _ | exact DEnum.pure _ | exact DEnum.pures _ | exact DDecl.pure _ | exact DDecl.pures _ | exact DEq.pure _ | exact DEq.pures _ | exact DNode.pure _ | exact DNode.pures _ | exact DProg.pure _ | exact DProg.pures _ | exact DCond.pure _ | exact DCond.pures _ | exact DAtom.pure _ | exact DAtom.pures _ | exact DPlain.pure _ | exact DPlain.pures _ | exact DVar.pure _ | exact DVar.pures _ | exact DFlow.pure _ | exact DFlow.pures _ | exact DFlows.pure _ | exact DFlows.pures _ | exact DAsked.pure _ | exact DAsked.pures _ | exact DFault.pure _ | exact DFault.pures _ | exact DCell.pure _ | exact DCell.pures _ | exact DReply.pure _ | exact DReply.pures _ | exact DAsk.pure _ | exact DAsk.pures _ | exact DOp.pure _ | exact DOp.pures _ | exact pure_list (fun x => DDecl.pures x) _ | exact .fn _ _ _ pure_nil pure_nil | refine .agg _ ?_ | refine .tup _ ?_ | assumption) (n := 22) rfl (rs := [.tmp 4]) rfl ?_
  unfold findF
  repeat' first
    | exact finB rfl
    | exact finI rfl
    | exact finP rfl
    | exact absurd rfl (by assumption)
    | simp only [go_sem, Nat.reduceAdd, Nat.reduceSub, Nat.reduceMul, Nat.reduceLT, Nat.reduceLeDiff, Nat.reduceEqDiff, Nat.reduceBEq, Nat.reduceBNe, Nat.reducePow, Int.reduceEq, Int.reduceNe, Int.reduceLT, Int.reduceLE, Int.reduceGT, Int.reduceGE, Int.reduceAdd, Int.reduceSub, Int.reduceNeg, Int.reduceMul, not_true_eq_false, not_false_eq_true, true_and, and_true, Int.reduceToNat]
    | (intro _)
    | refine brK_dec (fun _ => ?_) (fun _ => ?_)
    | refine brK_any ?_ ?_
    | refine gK_dec (fun _ => ?_) (fun _ => ?_)
    | refine gK_any ?_ ?_
    | refine gqK_dec (fun _ => ?_) (fun _ => ?_)
    | refine ⟨by omega, ?_⟩
    | refine elemHave (by omega) (by assumption) ?_
    | refine elemMap (by omega) (by omega) (fun x hx => ?_)
    | refine drawK mo (by kernel_rfl) ?_
    | (rw [idxOf_none (take_full hpi (by omega))]; exact ⟨_, (by first | (simp only [go_sem, Nat.reduceAdd, Nat.reduceSub, Nat.reduceMul, Nat.reduceLT, Nat.reduceLeDiff, Nat.reduceEqDiff, Nat.reduceBEq, Nat.reduceBNe, Nat.reducePow, Int.reduceEq, Int.reduceNe, Int.reduceLT, Int.reduceLE, Int.reduceGT, Int.reduceGE, Int.reduceAdd, Int.reduceSub, Int.reduceNeg, Int.reduceMul, not_true_eq_false, not_false_eq_true, true_and, and_true, Int.reduceToNat]; done) | (simp only [go_sem, Nat.reduceAdd, Nat.reduceSub, Nat.reduceMul, Nat.reduceLT, Nat.reduceLeDiff, Nat.reduceEqDiff, Nat.reduceBEq, Nat.reduceBNe, Nat.reducePow, Int.reduceEq, Int.reduceNe, Int.reduceLT, Int.reduceLE, Int.reduceGT, Int.reduceGE, Int.reduceAdd, Int.reduceSub, Int.reduceNeg, Int.reduceMul, not_true_eq_false, not_false_eq_true, true_and, and_true, Int.reduceToNat]; exact rfl) | exact rfl), false, .refl _⟩)
    | (rw [idxOf_at hpi (by assumption) (by simpa using (by assumption))]; exact ⟨_, (by first | (simp only [go_sem, Nat.reduceAdd, Nat.reduceSub, Nat.reduceMul, Nat.reduceLT, Nat.reduceLeDiff, Nat.reduceEqDiff, Nat.reduceBEq, Nat.reduceBNe, Nat.reducePow, Int.reduceEq, Int.reduceNe, Int.reduceLT, Int.reduceLE, Int.reduceGT, Int.reduceGE, Int.reduceAdd, Int.reduceSub, Int.reduceNeg, Int.reduceMul, not_true_eq_false, not_false_eq_true, true_and, and_true, Int.reduceToNat]; done) | (simp only [go_sem, Nat.reduceAdd, Nat.reduceSub, Nat.reduceMul, Nat.reduceLT, Nat.reduceLeDiff, Nat.reduceEqDiff, Nat.reduceBEq, Nat.reduceBNe, Nat.reducePow, Int.reduceEq, Int.reduceNe, Int.reduceLT, Int.reduceLE, Int.reduceGT, Int.reduceGE, Int.reduceAdd, Int.reduceSub, Int.reduceNeg, Int.reduceMul, not_true_eq_false, not_false_eq_true, true_and, and_true, Int.reduceToNat]; exact rfl) | exact rfl), false, .refl _⟩)
    | exact loopFrH _ (by omega) ⟨i + 1, by omega, rfl, take_all hpi (by assumption) (by simpa using (by assumption)), rfl⟩ (.next rfl (by omega) .nil) rfl
    | (refine loop_frH [4, 5, 6, 7, 8, 9, 10, 11, 12, 13, 14, 15, 16, 17, 18, 19, 20, 21] (fun mm_ CC_ => ∃ (i : Nat), i ≤ p.Nodes.length ∧ mm_ = p.Nodes.length - i ∧ (∀ n ∈ p.Nodes.take i, decide (n.Name = name) = false) ∧ CC_ = [(5, .raw (.int .i64 ((i : Nat) : Int)))]) (p.Nodes.length) _ ⟨0, by omega, by omega, by simp, rfl⟩ (.cons rfl .nil) ?_; rintro mm_ CC_ ji ⟨i, hi, rfl, hpi, rfl⟩)
end Go.Proofs.YtipcmpkihhfhcaaGreatDoor

/-
  The abstract layer, part V: a slice of the call's own, turned round in place by the library.
-/
namespace Go.Abs
open Go.RowKit Go.Proofs Go.Sort

/-- An element as k cells. -/
def Cells (k : Nat) : Type := { l : List Value // l.length = k ∧ ∀ v ∈ l, v.oneCell' = true }
instance (k : Nat) : Inhabited (Cells k) := ⟨⟨List.replicate k (.bool false), by simp, fun v hv => by rw [List.eq_of_mem_replicate hv]; rfl⟩⟩

theorem own_reverse {P : Program} {f : FuncId} {e : TypeId} {k : Nat} (hk0 : 0 < k) (hent : ∀ vs w, (callFunc f vs).run P w = .ok (.enter f vs) w)
    (hcon : ∀ (blk cap : Nat) (d : Array (Cells k)) (w : World), HoldsK (fun x : Cells k => x.1) k w blk 0 d → d.size ≤ 9223372036854775807 →
      Calls P f #[.slice (some ⟨blk, 0, none⟩) d.size cap] w fun e w' => e = .returned (.tuple #[]) ∧ ∃ n, w' = putRowK (fun x : Cells k => x.1) k (Sort.ahead w n) blk 0 d.reverse)
    (hemp : ∀ (a : Option Addr) (cap : Nat) (w : World), Calls P f #[.slice a 0 cap] w fun e w' => e = .returned (.tuple #[]) ∧ w' = w)
    {es : List AV} {kk : Nat} {h : List Blk} {K : AV → List Blk → Prop} (hk : h[kk]? = some (.own e k es)) (hK : K (.tup []) (h.set kk (.own e k es.reverse))) : ACall P f [.own k kk es.length] h K := by
  intro S φ w vs0 hr hargs
  refine ⟨hent _ _, ?_⟩
  obtain ⟨v0, hv0, c0⟩ := hargs.at (i := 0) rfl
  have hvs0 : vs0 = #[v0] := by
    have hl := hargs.1
    apply Array.ext_getElem?
    intro i
    match i with
    | 0 => exact hv0
    | i + 1 => simp at hl ⊢; omega
  subst hvs0
  obtain ⟨u, g1, g2, g3⟩ := hr.blk kk _ hk
  have hsame : es.length = 0 → h.set kk (.own e k es.reverse) = h := by
    intro h0
    have : es = [] := List.eq_nil_of_length_eq_zero h0
    subst this
    apply List.ext_getElem?
    intro j
    rw [List.getElem?_set]
    by_cases ej : kk = j
    · subst ej; rw [if_pos rfl, if_pos (lookupD hk)]; exact hk.symm
    · rw [if_neg ej]
  have ret : C S w φ (.tup []) (.tuple #[]) := .tup [] #[] rfl (fun i a v h => by simp at h)
  rcases Nat.eq_zero_or_pos es.length with h0 | hpos
  · rw [h0] at c0
    cases c0 with
    | own _ _ _ a cap hcap hmax ht =>
      refine Calls.mono (hemp a cap w) ?_
      rintro e w' ⟨rfl, rfl⟩
      rw [hsame h0] at hK
      exact ⟨_, _, _, S, φ, rfl, hK, ret, hr, Ext.refl _ _ _ _⟩
  · rcases g3 with ⟨_, rfl⟩ | ⟨b, cap, vs, q1, q2, rfl, q4, q5, q6, q7⟩
    · simp at hpos
    · have hv : v0 = .slice (some ⟨b, 0, none⟩) es.length cap := by
        cases c0 with
        | own _ _ _ a cap' _ _ ht =>
          obtain ⟨n', u', e1, _, e3⟩ := ht
          rw [g1] at e1
          cases e1
          exact e3 rfl
      subst hv
      have hfl := flat_length g2
      have hcell : ∀ j, j < es.length * k → ∃ x, vs[j]? = some x ∧ x.oneCell' = true := by
        intro j hj
        have : ∃ c, (flat es)[j]? = some c := ⟨_, List.getElem?_eq_getElem (by rw [hfl]; exact hj)⟩
        obtain ⟨c, hc⟩ := this
        obtain ⟨x, x1, _, x3⟩ := q6 j c hc
        exact ⟨x, x1, x3⟩
      have hsz : es.length * k ≤ vs.size := by rw [q5]; exact Nat.mul_le_mul_right _ q1
      have hrow : ∀ i, i < es.length → i * k + k ≤ es.length * k := fun i hi => by
        have := Nat.mul_le_mul_right k (show i + 1 ≤ es.length from hi); rwa [Nat.add_mul, Nat.one_mul] at this
      let el (i : Nat) (hi : i < es.length) : Cells k := ⟨(vs.toList.drop (i * k)).take k, by
        have := hrow i hi
        refine ⟨by rw [List.length_take, List.length_drop, Array.length_toList]; omega, fun v hv => ?_⟩
        obtain ⟨c, hc, rfl⟩ := List.getElem_of_mem hv
        rw [List.length_take] at hc
        obtain ⟨x, x1, x3⟩ := hcell (i * k + c) (by omega)
        have : x = ((vs.toList.drop (i * k)).take k)[c]'(by rw [List.length_take]; exact hc) := by
          have e1 : ((vs.toList.drop (i * k)).take k)[c]? = some x := by
            rw [List.getElem?_take, if_pos (by omega), List.getElem?_drop]
            simpa using x1
          rw [List.getElem?_eq_getElem (by rw [List.length_take]; exact hc)] at e1
          exact (Option.some.inj e1).symm
        rw [← this]
        exact x3⟩
      let d : Array (Cells k) := Array.ofFn (n := es.length) fun i => el i.1 i.2
      have hd : d.size = es.length := by simp [d]
      have hdi : ∀ i (hi : i < es.length), d[i]! = el i hi := fun i hi => by
        rw [getElem!_pos d i (by rw [hd]; exact hi)]
        simp [d]
      have hdc : ∀ i c, i < es.length → c < k → (d[i]!.1)[c]! = vs[i * k + c]! := fun i c hi hc => by
        rw [hdi i hi]
        have hlt : i * k + c < vs.size := by have := hrow i hi; omega
        have h2 : ((vs.toList.drop (i * k)).take k)[c]? = some vs[i * k + c] := by
          rw [List.getElem?_take, if_pos hc, List.getElem?_drop]
          simp [hlt]
        rw [getElem!_pos vs _ hlt]
        have hl := (el i hi).2.1
        rw [getElem!_pos (el i hi).1 c (by rw [hl]; exact hc)]
        have h3 : (el i hi).1[c]? = some vs[i * k + c] := h2
        rw [List.getElem?_eq_getElem (by rw [hl]; exact hc)] at h3
        exact Option.some.inj h3
      have hH : HoldsK (fun x : Cells k => x.1) k w b 0 d := by
        intro j hj
        rw [size_flatK, hd] at hj
        have hlt : j < vs.size := by omega
        refine ⟨?_, by simp [World.frozen?, q4]⟩
        rw [get_flatK _ _ _ _ (by rw [hd]; exact hj), hdc _ _ (by rw [Nat.div_lt_iff_lt_mul hk0]; exact hj) (Nat.mod_lt _ hk0)]
        have e1 : j / k * k + j % k = j := by rw [Nat.mul_comm]; exact Nat.div_add_mod _ _
        rw [e1, Nat.zero_add, getElem!_pos vs j hlt]
        simp [World.cell?, q4, hlt]
      have hmx : es.length ≤ 9223372036854775807 := by have : maxLen = 9223372036854775807 := by decide
                                                       omega
      have hcl := hcon b cap d w hH (by rw [hd]; exact hmx)
      rw [hd] at hcl
      refine Calls.mono hcl ?_
      rintro ee w' ⟨rfl, n, rfl⟩
      let F := flatK (fun x : Cells k => x.1) k d.reverse
      have hFs : F.size = es.length * k := by simp [F, hd]
      let vs' := putCells id 0 F vs
      have hvs' : vs'.size = vs.size := by simp [vs', putCells]
      have hheap : (putRowK (fun x : Cells k => x.1) k (Sort.ahead w n) b 0 d.reverse).heap[b]? = some (.cells vs' e (0, 0)) := by
        show ((w.heap.modify b _)[b]?) = _
        rw [Array.getElem?_modify]
        simp only [if_true, q4]
        rfl
      have hoth : ∀ b', b' ≠ b → (putRowK (fun x : Cells k => x.1) k (Sort.ahead w n) b 0 d.reverse).heap[b']? = w.heap[b']? := by
        intro b' hb'
        show ((w.heap.modify b _)[b']?) = _
        rw [Array.getElem?_modify, if_neg (fun e => hb' e.symm)]
      have hown : blockOf (φ kk) (.own e k es) = some b := by rw [g1]; rfl
      have hc : ∀ a, S a → (putRowK (fun x : Cells k => x.1) k (Sort.ahead w n) b 0 d.reverse).cell? a = w.cell? a := fun a ha => cell_of_heap (hoth _ (q7 a ha))
      have hupd : upd φ kk (φ kk) = φ := by
        funext j
        by_cases ej : j = kk
        · subst ej; rw [upd_same]
        · rw [upd_other _ ej]
      have hput := hr.put (S' := S) (w' := putRowK (fun x : Cells k => x.1) k (Sort.ahead w n) b 0 d.reverse) (l := φ kk) (x := .own e k es.reverse) hk rfl rfl rfl (by show w.heap.size ≤ (w.heap.modify b _).size; simp) (fun b' _ hne => hoth b' (fun e0 => hne (by rw [e0]; exact hown)))
        (fun _ h => h) hc (fun _ h => .inl h) (fun a ha => by have := hr.bnd a ha; show _ < (w.heap.modify b _).size; simpa using this) (Loc.le_refl _)
        (by
          rw [hupd]
          refine ⟨_, by rw [List.length_reverse]; exact g1, fun x hx => g2 x (by simpa using hx), .inr ⟨b, cap, vs', by simpa using q1, q2, by rw [List.length_reverse], hheap, by rw [hvs', q5], fun j c hj => ?_, q7⟩⟩
          have hrev : ∀ x ∈ es.reverse, x.cells.length = k := fun x hx => g2 x (by simpa using hx)
          have hjl := lookupD hj
          rw [flat_length hrev, List.length_reverse] at hjl
          have hi : j / k < es.length := by rw [Nat.div_lt_iff_lt_mul hk0]; exact hjl
          have hm : j % k < k := Nat.mod_lt _ hk0
          have e1 : j / k * k + j % k = j := by rw [Nat.mul_comm]; exact Nat.div_add_mod _ _
          have hF : F[j]! = (d.reverse[j / k]!.1)[j % k]! := get_flatK _ _ _ _ (by simp [hd]; exact hjl)
          have hlt : j < vs.size := by omega
          have hv1 : vs'[j]? = some (F[j]!) := by
            simp only [vs', putCells, Array.getElem?_mapIdx, Array.getElem?_eq_getElem hlt, Option.map_some]
            rw [if_pos (by rw [hFs]; exact ⟨Nat.zero_le _, by omega⟩), Nat.sub_zero]
            rfl
          generalize j / k = q at hi e1 hF
          generalize j % k = r at hm e1 hF
          have hx : es.reverse[q]? = some es[es.length - 1 - q] := by
            rw [List.getElem?_reverse hi, List.getElem?_eq_getElem (by omega)]
          have hcl : r < es[es.length - 1 - q].cells.length := by rw [g2 _ (List.getElem_mem _)]; exact hm
          have h1 := flat_at hrev hx (j := r) (List.getElem?_eq_getElem hcl)
          rw [e1, hj] at h1
          have h2 := flat_at g2 (List.getElem?_eq_getElem (l := es) (i := es.length - 1 - q) (by omega)) (j := r) (List.getElem?_eq_getElem hcl)
          obtain ⟨x, x1, x2, x3⟩ := q6 _ _ h2
          refine ⟨x, ?_, by cases h1; exact x2.mono (fun _ h => h) hc (fun _ => Loc.le_refl _), x3⟩
          rw [hv1, hF]
          have hdr : d.reverse[q]! = d[es.length - 1 - q]! := by
            rw [getElem!_pos d.reverse _ (by simp [hd]; exact hi), getElem!_pos d _ (by rw [hd]; omega), Array.getElem_reverse]
            simp only [hd]
          rw [hdr, hdc _ _ (by omega) hm]
          have hlt2 : (es.length - 1 - q) * k + r < vs.size := (Array.getElem?_eq_some_iff.1 x1).1
          rw [getElem!_pos vs _ hlt2, ← x1, Array.getElem?_eq_getElem hlt2])
        (fun b' hb' => by rw [g1] at hb'; simp only [blockOf] at hb'; cases hb'; exact .inr hown)
      rw [hupd] at hput
      exact ⟨_, _, _, S, φ, rfl, hK, ret.mono (fun _ h => h) hc (fun _ => Loc.le_refl _), hput.1, hput.2⟩
end Go.Abs

namespace Go.Proofs.YtipcmpkihhfhcaaGreatDoor
open Go.Abs
set_option maxRecDepth 20000
set_option linter.unusedSimpArgs false
set_option linter.unusedVariables false
set_option maxHeartbeats 1000000
attribute [local irreducible] vc vcOps vcStep vcGuard prK hrK gK gsK brK callK ElemK SeqK BlockK ScopeK OpsK CallK LoopK LoopGo finPost ACall PCall PCallE BCall vqOps vqStep vqGuard qrK heK pcK gqK gqsK QOpsK qcallK DrawK
theorem n73 : (Tryz.f73.name == "runtime.NumGoroutine") = false := by kernel_rfl
def layRevD_ren : Go.Shelf.Ren := ⟨fun | 35 => 73 | n => n, fun | 22 => 35 | 23 => 44 | 3 => 3 | 4 => 4 | 0 => 0 | n => n, fun | n => n⟩
theorem layRevD : Go.Proofs.SlLaysE0.n35 Tryz.prog layRevD_ren := {
  mixed := by kernel_rfl
  f35 := ⟨Tryz.f73.name, by decide, Tryz.func73.trans (congrArg some (by kernel_rfl))⟩
  t0 := Tryz.underlying0
  a0 := Tryz.isAgg0
  z0 := Tryz.sizeOf0
  v0 := Tryz.zeroValue0
  t3 := Tryz.underlying3
  a3 := Tryz.isAgg3
  z3 := Tryz.sizeOf3
  v3 := Tryz.zeroValue3
  t4 := Tryz.underlying4
  a4 := Tryz.isAgg4
  z4 := Tryz.sizeOf4
  v4 := Tryz.zeroValue4
  t22 := Tryz.underlying35
  a22 := Tryz.isAgg35
  z22 := Tryz.sizeOf35
  v22 := Tryz.zeroValue35 }
/-- slices.Reverse on a slice of the call's own. -/
theorem reverseD {es : List AV} {kk n : Nat} {h : List Blk} {K : AV → List Blk → Prop} (hn : n = es.length) (hk : h[kk]? = some (.own 44 6 es)) (hK : K (.tup []) (h.set kk (.own 44 6 es.reverse))) :
    ACall Tryz.prog 73 [.own 6 kk n] h K := by
  subst hn
  exact own_reverse (by decide) (fun vs w => run_callFunc Tryz.func73 n73 rfl vs w)
    (fun blk cap d w hH hsz => Go.Proofs.AnyQ.slices_Reverse layRevD 6 Tryz.isAgg44 Tryz.sizeOf44 (fun x : Cells 6 => x.1) (fun x => x.2.1) (fun x => x.2.2) blk 0 cap d w hH hsz)
    (fun a cap w => Go.Proofs.AnyQ.slices_Reverse_empty layRevD a cap w) hk hK

end Go.Proofs.YtipcmpkihhfhcaaGreatDoor

namespace Go.Proofs.YtipcmpkihhfhcaaGreatDoor
open Go.Abs
set_option maxRecDepth 20000
set_option linter.unusedSimpArgs false
set_option linter.unusedVariables false
set_option maxHeartbeats 1000000
attribute [local irreducible] vc vcOps vcStep vcGuard prK hrK gK gsK brK callK ElemK SeqK BlockK ScopeK OpsK CallK LoopK LoopGo finPost ACall PCall PCallE BCall vqOps vqStep vqGuard qrK heK pcK gqK gqsK QOpsK qcallK DrawK
theorem Weak.tups {cs ds : List AV} (h : WeakL cs ds) : Weak (.tup cs) (.tup ds) := .tup cs ds h.at.1 h.at.2

def clk (n : DNode) : Nat → ByteArray → List DDecl → List DDecl × Bool
  | 0, _, _ => ([], false)
  | k + 1, name, acc => if (decl n name).2 = true then (if (decl n name).1.On = ⟨#[]⟩ then (acc, true) else clk n k (decl n name).1.On ((decl n name).1 :: acc)) else ([], false)
def clock (n : DNode) (name : ByteArray) : List DDecl × Bool := clk n 13 name []
abbrev clockA (p : List DDecl × Bool) : AV := .tup [.lst 6 (p.1.map DDecl.enc) none, .b p.2]
theorem clk_succ (n : DNode) (k : Nat) (name : ByteArray) (acc : List DDecl) : clk n (k + 1) name acc = if (decl n name).2 = true then (if (decl n name).1.On = ⟨#[]⟩ then (acc, true) else clk n k (decl n name).1.On ((decl n name).1 :: acc)) else ([], false) := rfl
theorem pure_clockA (p : List DDecl × Bool) : Go.Abs.Pure (clockA p) := .tup _ (pure_cons (DDecl.pures _) (pure_cons (.raw _) pure_nil))
theorem weak_no : Weak (.tup [.raw (.slice none 0 0), .b false]) (clockA ([], false)) := Weak.tups ⟨.nil _, .refl _, trivial⟩

abbrev nodeB (n : DNode) : Blk := .cells 38 [.s n.Name, .lst 6 (n.Ins.map DDecl.enc) none, .lst 6 (n.Outs.map DDecl.enc) none, .lst 6 (n.Vars.map DDecl.enc) none, .lst 7 (n.Eqs.map DEq.enc) none]

theorem n35 : (Tryz.f35.name == "runtime.NumGoroutine") = false := by kernel_rfl
theorem clock21 (n : DNode) (name : ByteArray) (hl : (allV n).length ≤ 4294967296) : PCall Tryz.prog 35 [n.enc, .s name] (clockA (clock n name)) := by
  refine pcall_of_vc tabOK Tryz.func35 n35 rfl (by repeat' first | exact pure_nil | refine pure_cons ?_ ?_ | exact .raw _ | exact pure_enc _ | exact pure_lst _ | exact pure_strs _ | exact pure_ints _ | exact DTy.pure _ | exact DTy.pures _ | exact DEnum.pure _ | exact DEnum.pures _ | exact DDecl.pure _ | exact DDecl.pures _ | exact DEq.pure _ | exact DEq.pures _ | exact DNode.pure _ | exact DNode.pures _ | exact DProg.pure _ | exact DProg.pures _ | exact DCond.pure _ | exact DCond.pures _ | exact DAtom.pure _ | exact DAtom.pures _ | exact DPlain.pure _ | exact DPlain.pures _ | exact DVar.pure _ | exact DVar.pures _ | exact DFlow.pure _ | exact DFlow.pures _ | exact DFlows.pure _ | exact DFlows.pures _ | exact DAsked.pure _ | exact DAsked.pures _ | exact DFault.pure _ | exact DFault.pures _ | exact DCell.pure _ | exact DCell.pures _ | exact DReply.pure _ | exact DReply.pures _ | exact DAsk.pure _ | exact DAsk.pures _ | exact DOp.pure _ | exact DOp.pures _ | exact pure_list (fun x => DDecl.pures x) _ | exact .fn _ _ _ pure_nil pure_nil | refine .agg _ ?_ | refine .tup _ ?_ | assumption) (pure_clockA _) (n := 32) rfl (rs := [.tmp 4, .tmp 5]) rfl ?_
  simp only [go_sem, Nat.reduceAdd, Nat.reduceSub, Nat.reduceMul, Nat.reduceLT, Nat.reduceLeDiff, Nat.reduceEqDiff, Nat.reduceBEq, Nat.reduceBNe, Nat.reducePow, Int.reduceEq, Int.reduceNe, Int.reduceLT, Int.reduceLE, Int.reduceGT, Int.reduceGE, Int.reduceAdd, Int.reduceSub, Int.reduceNeg, Int.reduceMul, not_true_eq_false, not_false_eq_true, true_and, and_true, Int.reduceToNat]
  refine loop_ghost (ghost_own 6 44 6 rfl) ?_
  simp only [go_sem, Nat.reduceAdd, Nat.reduceSub, Nat.reduceMul, Nat.reduceLT, Nat.reduceLeDiff, Nat.reduceEqDiff, Nat.reduceBEq, Nat.reduceBNe, Nat.reducePow, Int.reduceEq, Int.reduceNe, Int.reduceLT, Int.reduceLE, Int.reduceGT, Int.reduceGE, Int.reduceAdd, Int.reduceSub, Int.reduceNeg, Int.reduceMul, not_true_eq_false, not_false_eq_true, true_and, and_true, Int.reduceToNat]
  refine loop_fr [1, 6, 7, 8, 9, 10, 11, 12, 13, 14, 15, 16, 17, 18, 19, 20, 21, 22, 23, 24, 25, 26, 27, 28, 29, 30, 31, 4, 5]
    (fun m C h => ∃ (i : Nat) (nm : ByteArray) (acc : List DDecl) (r : List Blk), i ≤ 13 ∧ acc.length ≤ i ∧ m = 13 - i ∧ clk n (13 - i) nm acc = clock n name ∧ C = [(9, .raw (.int .i64 (i : Nat))), (1, .s nm), (6, .own 6 1 (acc.reverse.map DDecl.enc).length)] ∧
      h = nodeB n :: .own 44 6 (acc.reverse.map DDecl.enc) :: r) 13 _ ⟨0, name, [], [], by omega, by simp, rfl, rfl, rfl, rfl⟩ (.cons rfl (.cons rfl (.cons rfl .nil))) ?_
  rintro m C j h ⟨i, nm, acc, r, hi, hal, rfl, hc, rfl, rfl⟩
  simp only [go_sem, Nat.reduceAdd, Nat.reduceSub, Nat.reduceMul, Nat.reduceLT, Nat.reduceLeDiff, Nat.reduceEqDiff, Nat.reduceBEq, Nat.reduceBNe, Nat.reducePow, Int.reduceEq, Int.reduceNe, Int.reduceLT, Int.reduceLE, Int.reduceGT, Int.reduceGE, Int.reduceAdd, Int.reduceSub, Int.reduceNeg, Int.reduceMul, not_true_eq_false, not_false_eq_true, true_and, and_true, Int.reduceToNat]
  refine brK_dec (fun hlt => ?_) (fun hge => ?_)
  · simp only [go_sem, Nat.reduceAdd, Nat.reduceSub, Nat.reduceMul, Nat.reduceLT, Nat.reduceLeDiff, Nat.reduceEqDiff, Nat.reduceBEq, Nat.reduceBNe, Nat.reducePow, Int.reduceEq, Int.reduceNe, Int.reduceLT, Int.reduceLE, Int.reduceGT, Int.reduceGE, Int.reduceAdd, Int.reduceSub, Int.reduceNeg, Int.reduceMul, not_true_eq_false, not_false_eq_true, true_and, and_true, Int.reduceToNat]
    refine PCall.call (decl25 n nm hl) ?_
    have he : 13 - i = (13 - (i + 1)) + 1 := by omega
    rw [he, clk_succ] at hc
    generalize decl n nm = d at hc ⊢
    obtain ⟨d, ok⟩ := d
    simp only [go_sem, Nat.reduceAdd, Nat.reduceSub, Nat.reduceMul, Nat.reduceLT, Nat.reduceLeDiff, Nat.reduceEqDiff, Nat.reduceBEq, Nat.reduceBNe, Nat.reducePow, Int.reduceEq, Int.reduceNe, Int.reduceLT, Int.reduceLE, Int.reduceGT, Int.reduceGE, Int.reduceAdd, Int.reduceSub, Int.reduceNeg, Int.reduceMul, not_true_eq_false, not_false_eq_true, true_and, and_true, Int.reduceToNat]
    cases ok with
    | false =>
      simp only [Bool.false_eq_true, if_false] at hc
      rw [← hc]
      simp only [go_sem, Nat.reduceAdd, Nat.reduceSub, Nat.reduceMul, Nat.reduceLT, Nat.reduceLeDiff, Nat.reduceEqDiff, Nat.reduceBEq, Nat.reduceBNe, Nat.reducePow, Int.reduceEq, Int.reduceNe, Int.reduceLT, Int.reduceLE, Int.reduceGT, Int.reduceGE, Int.reduceAdd, Int.reduceSub, Int.reduceNeg, Int.reduceMul, not_true_eq_false, not_false_eq_true, true_and, and_true, Int.reduceToNat]
      exact ⟨_, rfl, false, weak_no⟩
    | true =>
      simp only [if_true] at hc
      simp only [go_sem, Nat.reduceAdd, Nat.reduceSub, Nat.reduceMul, Nat.reduceLT, Nat.reduceLeDiff, Nat.reduceEqDiff, Nat.reduceBEq, Nat.reduceBNe, Nat.reducePow, Int.reduceEq, Int.reduceNe, Int.reduceLT, Int.reduceLE, Int.reduceGT, Int.reduceGE, Int.reduceAdd, Int.reduceSub, Int.reduceNeg, Int.reduceMul, not_true_eq_false, not_false_eq_true, true_and, and_true, Int.reduceToNat]
      refine brK_dec (fun hon => ?_) (fun hon => ?_)
      · rw [if_pos hon] at hc
        rw [← hc]
        simp only [go_sem, Nat.reduceAdd, Nat.reduceSub, Nat.reduceMul, Nat.reduceLT, Nat.reduceLeDiff, Nat.reduceEqDiff, Nat.reduceBEq, Nat.reduceBNe, Nat.reducePow, Int.reduceEq, Int.reduceNe, Int.reduceLT, Int.reduceLE, Int.reduceGT, Int.reduceGE, Int.reduceAdd, Int.reduceSub, Int.reduceNeg, Int.reduceMul, not_true_eq_false, not_false_eq_true, true_and, and_true, Int.reduceToNat]
        refine reverseD (es := acc.reverse.map DDecl.enc) (kk := 1) (by simp) rfl ?_
        simp only [go_sem, Nat.reduceAdd, Nat.reduceSub, Nat.reduceMul, Nat.reduceLT, Nat.reduceLeDiff, Nat.reduceEqDiff, Nat.reduceBEq, Nat.reduceBNe, Nat.reducePow, Int.reduceEq, Int.reduceNe, Int.reduceLT, Int.reduceLE, Int.reduceGT, Int.reduceGE, Int.reduceAdd, Int.reduceSub, Int.reduceNeg, Int.reduceMul, not_true_eq_false, not_false_eq_true, true_and, and_true, Int.reduceToNat]
        refine ⟨_, rfl, true, ?_⟩
        have hz : ∀ R : List Blk, frz (nodeB n :: .own 44 6 (acc.reverse.map DDecl.enc).reverse :: R) (.own 6 1 acc.reverse.length) = .lst 6 (acc.map DDecl.enc) none := by
          intro R
          simp [frz]
        show Weak (.tup [frz _ (.own 6 1 acc.reverse.length), .b true]) _
        rw [hz]
        exact .refl _
      · rw [if_neg hon] at hc
        simp only [go_sem, Nat.reduceAdd, Nat.reduceSub, Nat.reduceMul, Nat.reduceLT, Nat.reduceLeDiff, Nat.reduceEqDiff, Nat.reduceBEq, Nat.reduceBNe, Nat.reducePow, Int.reduceEq, Int.reduceNe, Int.reduceLT, Int.reduceLE, Int.reduceGT, Int.reduceGE, Int.reduceAdd, Int.reduceSub, Int.reduceNeg, Int.reduceMul, not_true_eq_false, not_false_eq_true, true_and, and_true, Int.reduceToNat]
        refine ⟨by simp; omega, ?_⟩
        exact loopFr (13 - (i + 1)) (by omega) ⟨i + 1, d.On, d :: acc, r ++ [.cells 44 [.s d.Name, .i d.Ty.Kind, .i d.Ty.Enum, .i d.Ty.Len, .s d.On, .s d.Ctor], .tok 44 6 1], by omega, by simp; omega, rfl, hc, rfl, by simp⟩
          (.next rfl (by omega) (.cons rfl (.cons (by simp) .nil))) rfl
  · have : i = 13 := by omega
    subst this
    simp only [go_sem, Nat.reduceAdd, Nat.reduceSub, Nat.reduceMul, Nat.reduceLT, Nat.reduceLeDiff, Nat.reduceEqDiff, Nat.reduceBEq, Nat.reduceBNe, Nat.reducePow, Int.reduceEq, Int.reduceNe, Int.reduceLT, Int.reduceLE, Int.reduceGT, Int.reduceGE, Int.reduceAdd, Int.reduceSub, Int.reduceNeg, Int.reduceMul, not_true_eq_false, not_false_eq_true, true_and, and_true, Int.reduceToNat]
    rw [← hc]
    exact ⟨_, rfl, false, weak_no⟩

theorem weak_yes (acc : List DDecl) (k : Option Nat) : Weak (.tup [.lst 6 (acc.map DDecl.enc) k, .b true]) (clockA (acc, true)) := Weak.tups ⟨by cases k <;> first | exact .refl _ | exact .tok _ _ _, .refl _, trivial⟩

end Go.Proofs.YtipcmpkihhfhcaaGreatDoor

namespace Go.Proofs.YtipcmpkihhfhcaaGreatDoor
open Go.Abs
set_option maxRecDepth 20000
set_option linter.unusedSimpArgs false
set_option linter.unusedVariables false
set_option maxHeartbeats 1000000
attribute [local irreducible] vc vcOps vcStep vcGuard prK hrK gK gsK brK callK ElemK SeqK BlockK ScopeK OpsK CallK LoopK LoopGo finPost ACall PCall PCallE BCall vqOps vqStep vqGuard qrK heK pcK gqK gqsK QOpsK qcallK DrawK
abbrev liveC : DDecl := ⟨⟨#[99]⟩, ⟨2, 0, 0⟩, ⟨#[]⟩, ⟨#[]⟩⟩
abbrev liveH : DDecl := ⟨⟨#[104]⟩, ⟨1, 0, 0⟩, ⟨#[99]⟩, ⟨#[116, 114, 117, 101]⟩⟩
abbrev liveN : DNode := ⟨⟨#[102]⟩, [liveC], [], [liveH], []⟩
theorem live_clock : clock liveN ⟨#[104]⟩ = ([liveH], true) := by decide +kernel
theorem Weak.tok' {sz : Nat} {es ds : List AV} {k : Nat} (h : es = ds) : Weak (.lst sz es (some k)) (.lst sz ds none) := h ▸ .tok _ _ _
theorem weakN (i j : Nat) : Weak (.agg [.s ⟨#[102]⟩, .lst 6 [.agg [.s ⟨#[99]⟩, .i 2, .i 0, .i 0, .s ⟨#[]⟩, .s ⟨#[]⟩]] (some i), .raw (.slice none 0 0), .lst 6 [.agg [.s ⟨#[104]⟩, .i 1, .i 0, .i 0, .s ⟨#[99]⟩, .s ⟨#[116, 114, 117, 101]⟩]] (some j), .raw (.slice none 0 0)]) liveN.enc := by
  rw [DNode.enc_eq]
  exact Weak.aggs ⟨.refl _, Weak.tok' (by simp [DDecl.enc_eq]), .nil _, Weak.tok' (by simp [DDecl.enc_eq]), .nil _, trivial⟩

theorem n10 : (Tryz.f10.name == "runtime.NumGoroutine") = false := by kernel_rfl
theorem live20  : PCall Tryz.prog 10 [] (.b true) := by
  refine pcall_of_vc tabOK Tryz.func10 n10 rfl (by repeat' first | exact pure_nil | refine pure_cons ?_ ?_ | exact .raw _ | exact pure_enc _ | exact pure_lst _ | exact pure_strs _ | exact pure_ints _ | exact DTy.pure _ | exact DTy.pures _ | exact DEnum.pure _ | exact DEnum.pures _ | exact DDecl.pure _ | exact DDecl.pures _ | exact DEq.pure _ | exact DEq.pures _ | exact DNode.pure _ | exact DNode.pures _ | exact DProg.pure _ | exact DProg.pures _ | exact DCond.pure _ | exact DCond.pures _ | exact DAtom.pure _ | exact DAtom.pures _ | exact DPlain.pure _ | exact DPlain.pures _ | exact DVar.pure _ | exact DVar.pures _ | exact DFlow.pure _ | exact DFlow.pures _ | exact DFlows.pure _ | exact DFlows.pures _ | exact DAsked.pure _ | exact DAsked.pures _ | exact DFault.pure _ | exact DFault.pures _ | exact DCell.pure _ | exact DCell.pures _ | exact DReply.pure _ | exact DReply.pures _ | exact DAsk.pure _ | exact DAsk.pures _ | exact DOp.pure _ | exact DOp.pures _ | exact pure_list (fun x => DDecl.pures x) _ | exact .fn _ _ _ pure_nil pure_nil | refine .agg _ ?_ | refine .tup _ ?_ | assumption) (by repeat' first | exact pure_nil | refine pure_cons ?_ ?_ | exact .raw _ | exact pure_enc _ | exact pure_lst _ | exact pure_strs _ | exact pure_ints _ | exact DTy.pure _ | exact DTy.pures _ | exact DEnum.pure _ | exact DEnum.pures _ | exact DDecl.pure _ | exact DDecl.pures _ | exact DEq.pure _ | exact DEq.pures _ | exact DNode.pure _ | exact DNode.pures _ | exact DProg.pure _ | exact DProg.pures _ | exact DCond.pure _ | exact DCond.pures _ | exact DAtom.pure _ | exact DAtom.pures _ | exact DPlain.pure _ | exact DPlain.pures _ | exact DVar.pure _ | exact DVar.pures _ | exact DFlow.pure _ | exact DFlow.pures _ | exact DFlows.pure _ | exact DFlows.pures _ | exact DAsked.pure _ | exact DAsked.pures _ | exact DFault.pure _ | exact DFault.pures _ | exact DCell.pure _ | exact DCell.pures _ | exact DReply.pure _ | exact DReply.pures _ | exact DAsk.pure _ | exact DAsk.pures _ | exact DOp.pure _ | exact DOp.pures _ | exact pure_list (fun x => DDecl.pures x) _ | exact .fn _ _ _ pure_nil pure_nil | refine .agg _ ?_ | refine .tup _ ?_ | assumption) (n := 29) rfl (rs := [.tmp 0]) rfl ?_
  simp only [go_sem, Nat.reduceAdd, Nat.reduceSub, Nat.reduceMul, Nat.reduceLT, Nat.reduceLeDiff, Nat.reduceEqDiff, Nat.reduceBEq, Nat.reduceBNe, Nat.reducePow, Int.reduceEq, Int.reduceNe, Int.reduceLT, Int.reduceLE, Int.reduceGT, Int.reduceGE, Int.reduceAdd, Int.reduceSub, Int.reduceNeg, Int.reduceMul, not_true_eq_false, not_false_eq_true, true_and, and_true, Int.reduceToNat]
  refine PCall.callW (clock21 liveN ⟨#[104]⟩ (by decide)) ⟨weakN _ _, .refl _, trivial⟩ ?_
  rw [live_clock]
  simp only [go_sem, Nat.reduceAdd, Nat.reduceSub, Nat.reduceMul, Nat.reduceLT, Nat.reduceLeDiff, Nat.reduceEqDiff, Nat.reduceBEq, Nat.reduceBNe, Nat.reducePow, Int.reduceEq, Int.reduceNe, Int.reduceLT, Int.reduceLE, Int.reduceGT, Int.reduceGE, Int.reduceAdd, Int.reduceSub, Int.reduceNeg, Int.reduceMul, not_true_eq_false, not_false_eq_true, true_and, and_true, Int.reduceToNat]
  repeat' first
    | exact finB rfl
    | exact finI rfl
    | exact finP rfl
    | exact absurd rfl (by assumption)
    | simp only [go_sem, Nat.reduceAdd, Nat.reduceSub, Nat.reduceMul, Nat.reduceLT, Nat.reduceLeDiff, Nat.reduceEqDiff, Nat.reduceBEq, Nat.reduceBNe, Nat.reducePow, Int.reduceEq, Int.reduceNe, Int.reduceLT, Int.reduceLE, Int.reduceGT, Int.reduceGE, Int.reduceAdd, Int.reduceSub, Int.reduceNeg, Int.reduceMul, not_true_eq_false, not_false_eq_true, true_and, and_true, Int.reduceToNat]
    | (intro _)
    | refine brK_dec (fun _ => ?_) (fun _ => ?_)
    | refine brK_any ?_ ?_
    | refine gK_dec (fun _ => ?_) (fun _ => ?_)
    | refine gK_any ?_ ?_
    | refine gqK_dec (fun _ => ?_) (fun _ => ?_)
    | refine ⟨by omega, ?_⟩
    | refine elemHave (by omega) (by assumption) ?_
    | refine elemMap (by omega) (by omega) (fun x hx => ?_)
    | refine drawK mo (by kernel_rfl) ?_
    | (refine elemK _ (by omega) rfl ?_)
    | (exact absurd rfl (by assumption))

theorem allV_le {n : DNode} (h : okNode n) : (allV n).length ≤ 4294967296 := by
  have h1 := h.1.1
  have h2 := h.2.1.1
  have h3 := h.2.2.1.1
  simp [allV]
  omega

end Go.Proofs.YtipcmpkihhfhcaaGreatDoor

/-
  Plain data of names: bytes of texts, what a name is, texts cut at a byte.
-/
namespace Go.Abs

abbrev bts (t : ByteArray) : List UInt8 := t.data.toList
theorem bts_len (t : ByteArray) : (bts t).length = t.size := by
  show t.data.toList.length = t.data.size
  rw [Array.length_toList]
theorem bts_inj {s t : ByteArray} (h : bts s = bts t) : s = t := by
  cases s; cases t
  simp only [bts] at h
  congr 1
  exact Array.ext' h
def inB (a b c : Int) : Bool := decide (a ≤ c) && decide (c ≤ b)
/-- A byte, or a rune, that a name may have. -/
def okB (c : Int) : Bool := inB 97 122 c || inB 65 90 c || inB 48 57 c || decide (c = 95)
def firstB (F : Int → Bool) : List UInt8 → Bool
  | [] => false
  | c :: _ => F c.toNat
def nameG (F : Int → Bool) (t : ByteArray) : Bool := decide (1 ≤ t.size) && decide (t.size ≤ 12) && firstB F (bts t) && (bts t).all fun c => okB c.toNat
def firstNo0 : List UInt8 → Bool
  | [] => true
  | c :: _ => !decide (c.toNat = 48)
def numG (t : ByteArray) : Bool := decide (1 ≤ t.size) && decide (t.size ≤ 3) && firstNo0 (bts t) && (bts t).all fun c => inB 48 57 c.toNat

theorem decode_lo {s : ByteArray} {p : Nat} {c : UInt8} (hc : (bts s)[p]? = some c) (hlo : c.toNat < 128) : Utf8.decode s p = (c.toNat, 1) := by
  obtain ⟨h, he⟩ := List.getElem?_eq_some_iff.1 hc
  have hp : p < s.size := by rw [bts_len] at h; exact h
  have e : s[p]'hp = c := by rw [← he]; rfl
  rw [decode_ascii s p hp (by rw [e]; exact hlo), e]
theorem decode_hi {s : ByteArray} {p : Nat} {c : UInt8} (hc : (bts s)[p]? = some c) (hhi : 128 ≤ c.toNat) : 128 ≤ (Utf8.decode s p).1 := by
  obtain ⟨h, he⟩ := List.getElem?_eq_some_iff.1 hc
  have hp : p < s.size := by rw [bts_len] at h; exact h
  have e : (s.get! (p + 0)).toNat = c.toNat := by
    have : s.get! (p + 0) = s[p]'hp := by
      show s.get! p = _
      simp [ByteArray.get!, getElem!_pos, hp]
      rfl
    rw [this, ← he]; rfl
  unfold Utf8.decode
  simp only [e, Utf8.runeError]
  rw [if_neg (by omega)]
  repeat' split
  all_goals (first | (simp_all; done) | (simp_all; omega) | (dsimp only; omega))

/-- A text cut at a byte. -/
def splitL (c : UInt8) : List UInt8 → List (List UInt8)
  | [] => [[]]
  | x :: xs => if x = c then [] :: splitL c xs else match splitL c xs with
    | [] => [[x]]
    | y :: ys => (x :: y) :: ys
theorem splitL_ne (c : UInt8) (l : List UInt8) : splitL c l ≠ [] := by
  cases l with
  | nil => simp [splitL]
  | cons x l =>
    rw [splitL]
    split
    · simp
    · split <;> simp
theorem splitL_no {c : UInt8} : ∀ {a : List UInt8}, c ∉ a → splitL c a = [a]
  | [], _ => rfl
  | x :: a, h => by
    rw [splitL, if_neg (fun e => h (by simp [e])), splitL_no (fun hm => h (by simp [hm]))]
theorem splitL_at {c : UInt8} : ∀ {a : List UInt8} (b : List UInt8), c ∉ a → splitL c (a ++ c :: b) = a :: splitL c b
  | [], b, _ => by rw [List.nil_append, splitL, if_pos rfl]
  | x :: a, b, h => by
    rw [List.cons_append, splitL, if_neg (fun e => h (by simp [e])), splitL_at b (fun hm => h (by simp [hm]))]
theorem splitL_join {c : UInt8} : ∀ (a b : List UInt8), splitL c (a ++ c :: b) = splitL c a ++ splitL c b
  | [], b => by simp [splitL]
  | x :: a, b => by
    rw [List.cons_append, splitL, splitL, splitL_join a b]
    split
    · rfl
    · cases h : splitL c a with
      | nil => exact absurd h (splitL_ne c a)
      | cons y ys => rfl
theorem splitL_len {c : UInt8} : ∀ (a : List UInt8), (splitL c a).length = a.count c + 1
  | [] => rfl
  | x :: a => by
    rw [splitL, List.count_cons]
    have ih := splitL_len (c := c) a
    split
    · rename_i h
      simp [h, ih]
    · rename_i h
      cases hs : splitL c a with
      | nil => exact absurd hs (splitL_ne c a)
      | cons y ys =>
        rw [hs] at ih
        simp at ih ⊢
        simp [h, ih]
def pieces (c : UInt8) (t : ByteArray) : List ByteArray := (splitL c (bts t)).map fun l => ⟨l.toArray⟩
theorem pieces_ne (c : UInt8) (t : ByteArray) : pieces c t ≠ [] := by
  unfold pieces
  intro h
  exact splitL_ne c _ (List.map_eq_nil_iff.1 h)

/-- The words. -/
def words : List ByteArray := [⟨#[110, 111, 100, 101]⟩, ⟨#[114, 101, 116, 117, 114, 110, 115]⟩, ⟨#[118, 97, 114]⟩, ⟨#[108, 101, 116]⟩, ⟨#[116, 101, 108]⟩, ⟨#[101, 110, 117, 109]⟩, ⟨#[105, 102]⟩, ⟨#[116, 104, 101, 110]⟩, ⟨#[101, 108, 115, 101]⟩, ⟨#[102, 98, 121]⟩, ⟨#[112, 114, 101]⟩, ⟨#[119, 104, 101, 110]⟩, ⟨#[109, 101, 114, 103, 101]⟩, ⟨#[101, 118, 101, 114, 121]⟩, ⟨#[110, 111, 116]⟩, ⟨#[97, 110, 100]⟩, ⟨#[111, 114]⟩, ⟨#[120, 111, 114]⟩, ⟨#[109, 111, 100]⟩, ⟨#[116, 114, 117, 101]⟩, ⟨#[102, 97, 108, 115, 101]⟩, ⟨#[105, 110, 116]⟩, ⟨#[98, 111, 111, 108]⟩, ⟨#[119, 105, 116, 104]⟩]
def wordF (t : ByteArray) : Bool := words.any fun w => decide (t = w)
def lowF (t : ByteArray) : Bool := nameG (inB 97 122) t && !wordF t
def highF (t : ByteArray) : Bool := nameG (inB 65 90) t
def partF (t : ByteArray) : Bool := match pieces 46 t with
  | [p] => lowF p
  | [p, q] => lowF p && numG q
  | _ => false
def pathF (t : ByteArray) : Bool := (pieces 47 t).all partF
end Go.Abs

namespace Go.Abs
theorem raw_vals {S : Addr → Prop} {w : World} {φ : Nat → Loc} {vals : List Value} {vs : Array Value} (h : CAll S w φ (vals.map AV.raw) vs) : vs = vals.toArray := by
  apply Array.ext'
  apply List.ext_getElem?
  intro i
  rw [Array.getElem?_toList, List.toList_toArray]
  cases hv : vals[i]? with
  | none =>
    have : vals.length ≤ i := List.getElem?_eq_none_iff.1 hv
    rw [Array.getElem?_eq_none_iff]
    have := h.1
    simp at this
    omega
  | some v =>
    obtain ⟨u, hu, hc⟩ := h.at (i := i) (a := .raw v) (by simp [hv])
    cases hc
    exact hu
/-- A contract of the shelf's, of values that are plain: it is a pure call's. -/
theorem pcall_raw {P : Program} {f : FuncId} {vals : List Value} {v : Value} (hent : ∀ vs w, (callFunc f vs).run P w = .ok (.enter f vs) w) (hc : ∀ w, Calls P f vals.toArray w fun e w' => e = .returned v ∧ w' = w) : PCall P f (vals.map AV.raw) (.raw v) := by
  refine ⟨fun x hx => by obtain ⟨y, _, rfl⟩ := List.mem_map.1 hx; exact .raw _, .raw _, fun S w vs hb hargs => ?_⟩
  have := raw_vals hargs
  subst this
  refine ⟨hent _ _, Calls.mono (hc w) ?_⟩
  rintro e w' ⟨rfl, rfl⟩
  exact ⟨v, S, rfl, .raw _, R.nil hb, Ext.refl _ _ _ _⟩
end Go.Abs

namespace Go.Proofs.YtipcmpkihhfhcaaGreatDoor
open Go.Abs
set_option maxRecDepth 20000
set_option linter.unusedSimpArgs false
set_option linter.unusedVariables false
set_option maxHeartbeats 1000000
attribute [local irreducible] vc vcOps vcStep vcGuard prK hrK gK gsK brK callK ElemK SeqK BlockK ScopeK OpsK CallK LoopK LoopGo finPost ACall PCall PCallE BCall vqOps vqStep vqGuard qrK heK pcK gqK gqsK QOpsK qcallK DrawK
theorem moX : Tryz.prog.follows .mixedOrders = true := by kernel_rfl

theorem in_x (x a b : Int) : PCall Tryz.prog 160 [.raw (.int .u8 x), .raw (.int .u8 a), .raw (.int .u8 b)] (.b (inB a b x)) := by
  refine pcall_of_vc tabOK Tryz.func160 n160 rfl (by repeat' first | exact pure_nil | refine pure_cons ?_ ?_ | exact .raw _ | exact pure_enc _ | exact pure_lst _ | exact pure_strs _ | exact pure_ints _ | exact DTy.pure _ | exact DTy.pures _ | exact DEnum.pure _ | exact DEnum.pures _ | exact DDecl.pure _ | exact DDecl.pures _ | exact DEq.pure _ | exact DEq.pures _ | exact DNode.pure _ | exact DNode.pures _ | exact DProg.pure _ | exact DProg.pures _ | exact DCond.pure _ | exact DCond.pures _ | exact DAtom.pure _ | exact DAtom.pures _ | exact DPlain.pure _ | exact DPlain.pures _ | exact DVar.pure _ | exact DVar.pures _ | exact DFlow.pure _ | exact DFlow.pures _ | exact DFlows.pure _ | exact DFlows.pures _ | exact DAsked.pure _ | exact DAsked.pures _ | exact DFault.pure _ | exact DFault.pures _ | exact DCell.pure _ | exact DCell.pures _ | exact DReply.pure _ | exact DReply.pures _ | exact DAsk.pure _ | exact DAsk.pures _ | exact DOp.pure _ | exact DOp.pures _ | exact pure_list (fun x => DDecl.pures x) _ | exact .fn _ _ _ pure_nil pure_nil | refine .agg _ ?_ | refine .tup _ ?_ | assumption) (by repeat' first | exact pure_nil | refine pure_cons ?_ ?_ | exact .raw _ | exact pure_enc _ | exact pure_lst _ | exact pure_strs _ | exact pure_ints _ | exact DTy.pure _ | exact DTy.pures _ | exact DEnum.pure _ | exact DEnum.pures _ | exact DDecl.pure _ | exact DDecl.pures _ | exact DEq.pure _ | exact DEq.pures _ | exact DNode.pure _ | exact DNode.pures _ | exact DProg.pure _ | exact DProg.pures _ | exact DCond.pure _ | exact DCond.pures _ | exact DAtom.pure _ | exact DAtom.pures _ | exact DPlain.pure _ | exact DPlain.pures _ | exact DVar.pure _ | exact DVar.pures _ | exact DFlow.pure _ | exact DFlow.pures _ | exact DFlows.pure _ | exact DFlows.pures _ | exact DAsked.pure _ | exact DAsked.pures _ | exact DFault.pure _ | exact DFault.pures _ | exact DCell.pure _ | exact DCell.pures _ | exact DReply.pure _ | exact DReply.pures _ | exact DAsk.pure _ | exact DAsk.pures _ | exact DOp.pure _ | exact DOp.pures _ | exact pure_list (fun x => DDecl.pures x) _ | exact .fn _ _ _ pure_nil pure_nil | refine .agg _ ?_ | refine .tup _ ?_ | assumption) (n := 15) rfl (rs := [.tmp 6]) rfl ?_
  repeat' first
    | exact finB rfl
    | exact finI rfl
    | exact finP rfl
    | exact absurd rfl (by assumption)
    | simp only [go_sem, Nat.reduceAdd, Nat.reduceSub, Nat.reduceMul, Nat.reduceLT, Nat.reduceLeDiff, Nat.reduceEqDiff, Nat.reduceBEq, Nat.reduceBNe, Nat.reducePow, Int.reduceEq, Int.reduceNe, Int.reduceLT, Int.reduceLE, Int.reduceGT, Int.reduceGE, Int.reduceAdd, Int.reduceSub, Int.reduceNeg, Int.reduceMul, not_true_eq_false, not_false_eq_true, true_and, and_true, Int.reduceToNat]
    | (intro _)
    | refine brK_dec (fun _ => ?_) (fun _ => ?_)
    | refine brK_any ?_ ?_
    | refine gK_dec (fun _ => ?_) (fun _ => ?_)
    | refine gK_any ?_ ?_
    | refine gqK_dec (fun _ => ?_) (fun _ => ?_)
    | refine ⟨by omega, ?_⟩
    | refine elemHave (by omega) (by assumption) ?_
    | refine elemMap (by omega) (by omega) (fun x hx => ?_)
    | refine drawK mo (by kernel_rfl) ?_
    | (refine finBq rfl ?_; unfold inB; simp; omega)

theorem bat {t : ByteArray} {i : Nat} {c : UInt8} (h : (bts t)[i]? = some c) : (t.data.toList.getD ((i : Int)).toNat 0).toNat = c.toNat := by
  rw [Int.toNat_natCast, List.getD_eq_getElem?_getD, show t.data.toList[i]? = some c from h]
  rfl
theorem bts_at {t : ByteArray} {i : Nat} (h : i < t.size) : ∃ c, (bts t)[i]? = some c := ⟨_, List.getElem?_eq_getElem (by rw [bts_len]; exact h)⟩
theorem bts_cons {t : ByteArray} {c : UInt8} (h : (bts t)[0]? = some c) : ∃ l, bts t = c :: l := by
  cases hb : bts t with
  | nil => rw [hb] at h; cases h
  | cons x l => rw [hb] at h; cases h; exact ⟨l, rfl⟩
theorem all_no {t : ByteArray} {i : Nat} {c : UInt8} {p : UInt8 → Bool} (h : (bts t)[i]? = some c) (hp : p c = false) : (bts t).all p = false := by
  rw [List.all_eq_false]
  exact ⟨c, List.mem_of_getElem? h, by simp [hp]⟩
theorem all_yes {t : ByteArray} {i : Nat} {p : UInt8 → Bool} (h : ∀ c ∈ (bts t).take i, p c = true) (hi : t.size ≤ i) : (bts t).all p = true :=
  List.all_eq_true.2 fun c hc => by
    rw [List.take_of_length_le (by rw [bts_len]; exact hi)] at h
    exact h c hc

theorem name_x (t : ByteArray) (a b : Int) : PCall Tryz.prog 105 [.s t, .raw (.int .u8 a), .raw (.int .u8 b)] (.b (nameG (inB a b) t)) := by
  refine pcall_of_vc tabOK Tryz.func105 n105 rfl (by repeat' first | exact pure_nil | refine pure_cons ?_ ?_ | exact .raw _ | exact pure_enc _ | exact pure_lst _ | exact pure_strs _ | exact pure_ints _ | exact DTy.pure _ | exact DTy.pures _ | exact DEnum.pure _ | exact DEnum.pures _ | exact DDecl.pure _ | exact DDecl.pures _ | exact DEq.pure _ | exact DEq.pures _ | exact DNode.pure _ | exact DNode.pures _ | exact DProg.pure _ | exact DProg.pures _ | exact DCond.pure _ | exact DCond.pures _ | exact DAtom.pure _ | exact DAtom.pures _ | exact DPlain.pure _ | exact DPlain.pures _ | exact DVar.pure _ | exact DVar.pures _ | exact DFlow.pure _ | exact DFlow.pures _ | exact DFlows.pure _ | exact DFlows.pures _ | exact DAsked.pure _ | exact DAsked.pures _ | exact DFault.pure _ | exact DFault.pures _ | exact DCell.pure _ | exact DCell.pures _ | exact DReply.pure _ | exact DReply.pures _ | exact DAsk.pure _ | exact DAsk.pures _ | exact DOp.pure _ | exact DOp.pures _ | exact pure_list (fun x => DDecl.pures x) _ | exact .fn _ _ _ pure_nil pure_nil | refine .agg _ ?_ | refine .tup _ ?_ | assumption) (by repeat' first | exact pure_nil | refine pure_cons ?_ ?_ | exact .raw _ | exact pure_enc _ | exact pure_lst _ | exact pure_strs _ | exact pure_ints _ | exact DTy.pure _ | exact DTy.pures _ | exact DEnum.pure _ | exact DEnum.pures _ | exact DDecl.pure _ | exact DDecl.pures _ | exact DEq.pure _ | exact DEq.pures _ | exact DNode.pure _ | exact DNode.pures _ | exact DProg.pure _ | exact DProg.pures _ | exact DCond.pure _ | exact DCond.pures _ | exact DAtom.pure _ | exact DAtom.pures _ | exact DPlain.pure _ | exact DPlain.pures _ | exact DVar.pure _ | exact DVar.pures _ | exact DFlow.pure _ | exact DFlow.pures _ | exact DFlows.pure _ | exact DFlows.pures _ | exact DAsked.pure _ | exact DAsked.pures _ | exact DFault.pure _ | exact DFault.pures _ | exact DCell.pure _ | exact DCell.pures _ | exact DReply.pure _ | exact DReply.pures _ | exact DAsk.pure _ | exact DAsk.pures _ | exact DOp.pure _ | exact DOp.pures _ | exact pure_list (fun x => DDecl.pures x) _ | exact .fn _ _ _ pure_nil pure_nil | refine .agg _ ?_ | refine .tup _ ?_ | assumption) (n := 55) rfl (rs := [.tmp 6]) rfl ?_
  by_cases h1 : 1 ≤ t.size ∧ t.size ≤ 12
  · obtain ⟨c0, hc0⟩ := bts_at (t := t) (i := 0) (by omega)
    obtain ⟨l0, hl0⟩ := bts_cons hc0
    have hn : nameG (inB a b) t = (inB a b c0.toNat && (bts t).all fun c => okB c.toNat) := by
      unfold nameG
      rw [decide_eq_true h1.1, decide_eq_true h1.2, Bool.true_and, Bool.true_and]
      rw [hl0]; rfl
    rw [hn]
    have hb0 : (t.data.toList.getD 0 0).toNat = c0.toNat := by have := bat hc0; simpa using this
    repeat' first
    | exact finB rfl
    | exact finI rfl
    | exact finP rfl
    | exact absurd rfl (by assumption)
    | simp only [go_sem, Nat.reduceAdd, Nat.reduceSub, Nat.reduceMul, Nat.reduceLT, Nat.reduceLeDiff, Nat.reduceEqDiff, Nat.reduceBEq, Nat.reduceBNe, Nat.reducePow, Int.reduceEq, Int.reduceNe, Int.reduceLT, Int.reduceLE, Int.reduceGT, Int.reduceGE, Int.reduceAdd, Int.reduceSub, Int.reduceNeg, Int.reduceMul, not_true_eq_false, not_false_eq_true, true_and, and_true, Int.reduceToNat]
    | (intro _)
    | refine brK_dec (fun _ => ?_) (fun _ => ?_)
    | refine brK_split (fun hb_ => ?_) (fun hb_ => ?_)
    | refine gK_dec (fun _ => ?_) (fun _ => ?_)
    | refine gK_split (fun hb_ => ?_) (fun hb_ => ?_)
    | refine gqK_dec (fun _ => ?_) (fun _ => ?_)
    | refine ⟨by omega, ?_⟩
    | refine elemHave (by omega) (by assumption) ?_
    | refine elemMap (by omega) (by omega) (fun x hx => ?_)
    | refine drawK mo (by kernel_rfl) ?_
    | (exfalso; omega)
    | (rw [hb0]; refine PCall.call (in_x _ a b) ?_; generalize hq0 : inB a b (c0.toNat : Nat) = q0; cases q0)
    | ((fail_if_success (clear hcc)); have hlt_ : i < t.size := (by omega); have hcx := bts_at hlt_; obtain ⟨c, hcc⟩ := hcx; have hbi := bat hcc)
    | (rw [hbi])
    | (refine PCall.call (in_x _ _ _) ?_)
    | (exact finP rfl)
    | (refine finBq rfl ?_; first | (rw [all_yes hpi (by omega)]) | (rw [all_no (p := fun c => okB c.toNat) hcc (by simp_all [okB] <;> omega)]))
    | exact loopFrH _ (by omega) ⟨i + 1, by omega, rfl, take_all hpi hcc (by simp_all [okB] <;> omega), rfl⟩ (.next rfl (by omega) .nil) rfl
    | (refine loop_frH [6, 7, 24, 25, 26, 27, 28, 29, 30, 31, 32, 33, 34, 35, 36, 37, 38, 39, 40, 41, 42, 43, 44, 45, 46, 47, 48, 49, 50, 51, 52, 53, 54] (fun mm_ CC_ => ∃ (i : Nat), i ≤ t.size ∧ mm_ = t.size - i ∧ (∀ c ∈ (bts t).take i, okB c.toNat = true) ∧ CC_ = [(7, .raw (.int .i64 ((i : Nat) : Int)))]) (t.size) _ ⟨0, by omega, by omega, by simp, rfl⟩ (.cons rfl .nil) ?_; rintro mm_ CC_ ji ⟨i, hi, rfl, hpi, rfl⟩)
  · have hn : nameG (inB a b) t = false := by
      unfold nameG
      rcases Classical.em (1 ≤ t.size) with q | q
      · have : ¬ t.size ≤ 12 := fun q' => h1 ⟨q, q'⟩
        simp [this]
      · simp [q]
    rw [hn]
    repeat' first
    | exact finB rfl
    | exact finI rfl
    | exact finP rfl
    | exact absurd rfl (by assumption)
    | simp only [go_sem, Nat.reduceAdd, Nat.reduceSub, Nat.reduceMul, Nat.reduceLT, Nat.reduceLeDiff, Nat.reduceEqDiff, Nat.reduceBEq, Nat.reduceBNe, Nat.reducePow, Int.reduceEq, Int.reduceNe, Int.reduceLT, Int.reduceLE, Int.reduceGT, Int.reduceGE, Int.reduceAdd, Int.reduceSub, Int.reduceNeg, Int.reduceMul, not_true_eq_false, not_false_eq_true, true_and, and_true, Int.reduceToNat]
    | (intro _)
    | refine brK_dec (fun _ => ?_) (fun _ => ?_)
    | refine brK_any ?_ ?_
    | refine gK_dec (fun _ => ?_) (fun _ => ?_)
    | refine gK_any ?_ ?_
    | refine gqK_dec (fun _ => ?_) (fun _ => ?_)
    | refine ⟨by omega, ?_⟩
    | refine elemHave (by omega) (by assumption) ?_
    | refine elemMap (by omega) (by omega) (fun x hx => ?_)
    | refine drawK mo (by kernel_rfl) ?_
    | (exfalso; omega)
    | (exact finP rfl)

theorem words_x : PCall Tryz.prog 161 [] (.lst 1 (words.map AV.s) none) := by
  refine pcall_of_vc tabOK Tryz.func161 n161 rfl pure_nil (pure_strs _) (n := 2) rfl (rs := [.tmp 0]) rfl ?_
  simp only [go_sem, Nat.reduceAdd, Nat.reduceSub, Nat.reduceMul, Nat.reduceLT, Nat.reduceLeDiff, Nat.reduceEqDiff, Nat.reduceBEq, Nat.reduceBNe, Nat.reducePow, Int.reduceEq, Int.reduceNe, Int.reduceLT, Int.reduceLE, Int.reduceGT, Int.reduceGE, Int.reduceAdd, Int.reduceSub, Int.reduceNeg, Int.reduceMul, not_true_eq_false, not_false_eq_true, true_and, and_true, Int.reduceToNat]
  exact ⟨_, rfl, false, .tok _ _ _⟩

theorem word_no {t : ByteArray} {i : Nat} (h : ∀ w ∈ words.take i, ¬ w = t) (hi : words.length ≤ i) : wordF t = false := by
  unfold wordF
  rw [List.any_eq_false]
  intro w hw
  rw [List.take_of_length_le hi] at h
  simpa using fun e => h w hw e.symm
theorem word_yes {t w : ByteArray} (h : w ∈ words) (e : w = t) : wordF t = true := by
  unfold wordF
  rw [List.any_eq_true]
  exact ⟨w, h, by simp [e]⟩
theorem word_x (t : ByteArray) : PCall Tryz.prog 106 [.s t] (.b (wordF t)) := by
  refine pcall_of_vc tabOK Tryz.func106 n106 rfl (by repeat' first | exact pure_nil | refine pure_cons ?_ ?_ | exact .raw _ | exact pure_enc _ | exact pure_lst _ | exact pure_strs _ | exact pure_ints _ | exact DTy.pure _ | exact DTy.pures _ | exact DEnum.pure _ | exact DEnum.pures _ | exact DDecl.pure _ | exact DDecl.pures _ | exact DEq.pure _ | exact DEq.pures _ | exact DNode.pure _ | exact DNode.pures _ | exact DProg.pure _ | exact DProg.pures _ | exact DCond.pure _ | exact DCond.pures _ | exact DAtom.pure _ | exact DAtom.pures _ | exact DPlain.pure _ | exact DPlain.pures _ | exact DVar.pure _ | exact DVar.pures _ | exact DFlow.pure _ | exact DFlow.pures _ | exact DFlows.pure _ | exact DFlows.pures _ | exact DAsked.pure _ | exact DAsked.pures _ | exact DFault.pure _ | exact DFault.pures _ | exact DCell.pure _ | exact DCell.pures _ | exact DReply.pure _ | exact DReply.pures _ | exact DAsk.pure _ | exact DAsk.pures _ | exact DOp.pure _ | exact DOp.pures _ | exact pure_list (fun x => DDecl.pures x) _ | exact .fn _ _ _ pure_nil pure_nil | refine .agg _ ?_ | refine .tup _ ?_ | assumption) (by repeat' first | exact pure_nil | refine pure_cons ?_ ?_ | exact .raw _ | exact pure_enc _ | exact pure_lst _ | exact pure_strs _ | exact pure_ints _ | exact DTy.pure _ | exact DTy.pures _ | exact DEnum.pure _ | exact DEnum.pures _ | exact DDecl.pure _ | exact DDecl.pures _ | exact DEq.pure _ | exact DEq.pures _ | exact DNode.pure _ | exact DNode.pures _ | exact DProg.pure _ | exact DProg.pures _ | exact DCond.pure _ | exact DCond.pures _ | exact DAtom.pure _ | exact DAtom.pures _ | exact DPlain.pure _ | exact DPlain.pures _ | exact DVar.pure _ | exact DVar.pures _ | exact DFlow.pure _ | exact DFlow.pures _ | exact DFlows.pure _ | exact DFlows.pures _ | exact DAsked.pure _ | exact DAsked.pures _ | exact DFault.pure _ | exact DFault.pures _ | exact DCell.pure _ | exact DCell.pures _ | exact DReply.pure _ | exact DReply.pures _ | exact DAsk.pure _ | exact DAsk.pures _ | exact DOp.pure _ | exact DOp.pures _ | exact pure_list (fun x => DDecl.pures x) _ | exact .fn _ _ _ pure_nil pure_nil | refine .agg _ ?_ | refine .tup _ ?_ | assumption) (n := 18) rfl (rs := [.tmp 2]) rfl ?_
  repeat' first
    | exact finB rfl
    | exact finI rfl
    | exact finP rfl
    | exact absurd rfl (by assumption)
    | simp only [go_sem, Nat.reduceAdd, Nat.reduceSub, Nat.reduceMul, Nat.reduceLT, Nat.reduceLeDiff, Nat.reduceEqDiff, Nat.reduceBEq, Nat.reduceBNe, Nat.reducePow, Int.reduceEq, Int.reduceNe, Int.reduceLT, Int.reduceLE, Int.reduceGT, Int.reduceGE, Int.reduceAdd, Int.reduceSub, Int.reduceNeg, Int.reduceMul, not_true_eq_false, not_false_eq_true, true_and, and_true, Int.reduceToNat]
    | (intro _)
    | refine brK_dec (fun _ => ?_) (fun _ => ?_)
    | refine brK_any ?_ ?_
    | refine gK_dec (fun _ => ?_) (fun _ => ?_)
    | refine gK_any ?_ ?_
    | refine gqK_dec (fun _ => ?_) (fun _ => ?_)
    | refine ⟨by omega, ?_⟩
    | refine elemHave (by omega) (by assumption) ?_
    | refine elemMap (by omega) (by omega) (fun x hx => ?_)
    | refine drawK mo (by kernel_rfl) ?_
    | (refine PCall.call words_x ?_)
    | (refine finBq rfl ?_; first | (rw [word_no hpi (by omega)]) | (rw [word_yes (List.mem_of_getElem? hx) (by assumption)]))
    | exact loopFrH _ (by omega) ⟨i + 1, by omega, rfl, take_all hpi (by simpa using hx) (by assumption), rfl⟩ (.next rfl (by omega) .nil) rfl
    | (refine loop_frH [2, 4, 6, 7, 8, 9, 10, 11, 12, 13, 14, 15, 16, 17] (fun mm_ CC_ => ∃ (i : Nat), i ≤ words.length ∧ mm_ = words.length - i ∧ (∀ w ∈ words.take i, ¬ w = t) ∧ CC_ = [(4, .raw (.int .i64 ((i : Nat) : Int)))]) (words.length) _ ⟨0, by omega, by omega, by simp, rfl⟩ (.cons rfl .nil) ?_; rintro mm_ CC_ ji ⟨i, hi, rfl, hpi, rfl⟩)

theorem low_x (t : ByteArray) : PCall Tryz.prog 58 [.s t] (.b (lowF t)) := by
  refine pcall_of_vc tabOK Tryz.func58 n58 rfl (by repeat' first | exact pure_nil | refine pure_cons ?_ ?_ | exact .raw _ | exact pure_enc _ | exact pure_lst _ | exact pure_strs _ | exact pure_ints _ | exact DTy.pure _ | exact DTy.pures _ | exact DEnum.pure _ | exact DEnum.pures _ | exact DDecl.pure _ | exact DDecl.pures _ | exact DEq.pure _ | exact DEq.pures _ | exact DNode.pure _ | exact DNode.pures _ | exact DProg.pure _ | exact DProg.pures _ | exact DCond.pure _ | exact DCond.pures _ | exact DAtom.pure _ | exact DAtom.pures _ | exact DPlain.pure _ | exact DPlain.pures _ | exact DVar.pure _ | exact DVar.pures _ | exact DFlow.pure _ | exact DFlow.pures _ | exact DFlows.pure _ | exact DFlows.pures _ | exact DAsked.pure _ | exact DAsked.pures _ | exact DFault.pure _ | exact DFault.pures _ | exact DCell.pure _ | exact DCell.pures _ | exact DReply.pure _ | exact DReply.pures _ | exact DAsk.pure _ | exact DAsk.pures _ | exact DOp.pure _ | exact DOp.pures _ | exact pure_list (fun x => DDecl.pures x) _ | exact .fn _ _ _ pure_nil pure_nil | refine .agg _ ?_ | refine .tup _ ?_ | assumption) (by repeat' first | exact pure_nil | refine pure_cons ?_ ?_ | exact .raw _ | exact pure_enc _ | exact pure_lst _ | exact pure_strs _ | exact pure_ints _ | exact DTy.pure _ | exact DTy.pures _ | exact DEnum.pure _ | exact DEnum.pures _ | exact DDecl.pure _ | exact DDecl.pures _ | exact DEq.pure _ | exact DEq.pures _ | exact DNode.pure _ | exact DNode.pures _ | exact DProg.pure _ | exact DProg.pures _ | exact DCond.pure _ | exact DCond.pures _ | exact DAtom.pure _ | exact DAtom.pures _ | exact DPlain.pure _ | exact DPlain.pures _ | exact DVar.pure _ | exact DVar.pures _ | exact DFlow.pure _ | exact DFlow.pures _ | exact DFlows.pure _ | exact DFlows.pures _ | exact DAsked.pure _ | exact DAsked.pures _ | exact DFault.pure _ | exact DFault.pures _ | exact DCell.pure _ | exact DCell.pures _ | exact DReply.pure _ | exact DReply.pures _ | exact DAsk.pure _ | exact DAsk.pures _ | exact DOp.pure _ | exact DOp.pures _ | exact pure_list (fun x => DDecl.pures x) _ | exact .fn _ _ _ pure_nil pure_nil | refine .agg _ ?_ | refine .tup _ ?_ | assumption) (n := 10) rfl (rs := [.tmp 2]) rfl ?_
  unfold lowF
  repeat' first
    | exact finB rfl
    | exact finI rfl
    | exact finP rfl
    | exact absurd rfl (by assumption)
    | simp only [go_sem, Nat.reduceAdd, Nat.reduceSub, Nat.reduceMul, Nat.reduceLT, Nat.reduceLeDiff, Nat.reduceEqDiff, Nat.reduceBEq, Nat.reduceBNe, Nat.reducePow, Int.reduceEq, Int.reduceNe, Int.reduceLT, Int.reduceLE, Int.reduceGT, Int.reduceGE, Int.reduceAdd, Int.reduceSub, Int.reduceNeg, Int.reduceMul, not_true_eq_false, not_false_eq_true, true_and, and_true, Int.reduceToNat]
    | (intro _)
    | refine brK_dec (fun _ => ?_) (fun _ => ?_)
    | refine brK_any ?_ ?_
    | refine gK_dec (fun _ => ?_) (fun _ => ?_)
    | refine gK_any ?_ ?_
    | refine gqK_dec (fun _ => ?_) (fun _ => ?_)
    | refine ⟨by omega, ?_⟩
    | refine elemHave (by omega) (by assumption) ?_
    | refine elemMap (by omega) (by omega) (fun x hx => ?_)
    | refine drawK mo (by kernel_rfl) ?_
    | (refine PCall.call (name_x _ _ _) ?_; generalize nameG (inB 97 122) t = q; cases q)
    | (refine PCall.call (word_x _) ?_)
    | (exact finBq rfl (by simp))
theorem high_x (t : ByteArray) : PCall Tryz.prog 59 [.s t] (.b (highF t)) := by
  refine pcall_of_vc tabOK Tryz.func59 n59 rfl (by repeat' first | exact pure_nil | refine pure_cons ?_ ?_ | exact .raw _ | exact pure_enc _ | exact pure_lst _ | exact pure_strs _ | exact pure_ints _ | exact DTy.pure _ | exact DTy.pures _ | exact DEnum.pure _ | exact DEnum.pures _ | exact DDecl.pure _ | exact DDecl.pures _ | exact DEq.pure _ | exact DEq.pures _ | exact DNode.pure _ | exact DNode.pures _ | exact DProg.pure _ | exact DProg.pures _ | exact DCond.pure _ | exact DCond.pures _ | exact DAtom.pure _ | exact DAtom.pures _ | exact DPlain.pure _ | exact DPlain.pures _ | exact DVar.pure _ | exact DVar.pures _ | exact DFlow.pure _ | exact DFlow.pures _ | exact DFlows.pure _ | exact DFlows.pures _ | exact DAsked.pure _ | exact DAsked.pures _ | exact DFault.pure _ | exact DFault.pures _ | exact DCell.pure _ | exact DCell.pures _ | exact DReply.pure _ | exact DReply.pures _ | exact DAsk.pure _ | exact DAsk.pures _ | exact DOp.pure _ | exact DOp.pures _ | exact pure_list (fun x => DDecl.pures x) _ | exact .fn _ _ _ pure_nil pure_nil | refine .agg _ ?_ | refine .tup _ ?_ | assumption) (by repeat' first | exact pure_nil | refine pure_cons ?_ ?_ | exact .raw _ | exact pure_enc _ | exact pure_lst _ | exact pure_strs _ | exact pure_ints _ | exact DTy.pure _ | exact DTy.pures _ | exact DEnum.pure _ | exact DEnum.pures _ | exact DDecl.pure _ | exact DDecl.pures _ | exact DEq.pure _ | exact DEq.pures _ | exact DNode.pure _ | exact DNode.pures _ | exact DProg.pure _ | exact DProg.pures _ | exact DCond.pure _ | exact DCond.pures _ | exact DAtom.pure _ | exact DAtom.pures _ | exact DPlain.pure _ | exact DPlain.pures _ | exact DVar.pure _ | exact DVar.pures _ | exact DFlow.pure _ | exact DFlow.pures _ | exact DFlows.pure _ | exact DFlows.pures _ | exact DAsked.pure _ | exact DAsked.pures _ | exact DFault.pure _ | exact DFault.pures _ | exact DCell.pure _ | exact DCell.pures _ | exact DReply.pure _ | exact DReply.pures _ | exact DAsk.pure _ | exact DAsk.pures _ | exact DOp.pure _ | exact DOp.pures _ | exact pure_list (fun x => DDecl.pures x) _ | exact .fn _ _ _ pure_nil pure_nil | refine .agg _ ?_ | refine .tup _ ?_ | assumption) (n := 5) rfl (rs := [.tmp 2]) rfl ?_
  unfold highF
  repeat' first
    | exact finB rfl
    | exact finI rfl
    | exact finP rfl
    | exact absurd rfl (by assumption)
    | simp only [go_sem, Nat.reduceAdd, Nat.reduceSub, Nat.reduceMul, Nat.reduceLT, Nat.reduceLeDiff, Nat.reduceEqDiff, Nat.reduceBEq, Nat.reduceBNe, Nat.reducePow, Int.reduceEq, Int.reduceNe, Int.reduceLT, Int.reduceLE, Int.reduceGT, Int.reduceGE, Int.reduceAdd, Int.reduceSub, Int.reduceNeg, Int.reduceMul, not_true_eq_false, not_false_eq_true, true_and, and_true, Int.reduceToNat]
    | (intro _)
    | refine brK_dec (fun _ => ?_) (fun _ => ?_)
    | refine brK_any ?_ ?_
    | refine gK_dec (fun _ => ?_) (fun _ => ?_)
    | refine gK_any ?_ ?_
    | refine gqK_dec (fun _ => ?_) (fun _ => ?_)
    | refine ⟨by omega, ?_⟩
    | refine elemHave (by omega) (by assumption) ?_
    | refine elemMap (by omega) (by omega) (fun x hx => ?_)
    | refine drawK mo (by kernel_rfl) ?_
    | (refine PCall.call (name_x _ _ _) ?_)
    | (exact finBq rfl (by simp))
end Go.Proofs.YtipcmpkihhfhcaaGreatDoor

/-
  Plain data of texts cut at a byte: the first place of a byte, and what lies ahead of it and behind it.
-/
namespace Go.Abs
open Go

theorem bts_extract (t : ByteArray) (i j : Nat) : bts (t.extract i j) = ((bts t).take j).drop i := by
  simp only [bts, ByteArray.data_extract, Array.toList_extract, List.extract_eq_take_drop]
  rw [List.drop_take]
theorem of_bts (t : ByteArray) : (⟨(bts t).toArray⟩ : ByteArray) = t := by cases t; simp [bts]
theorem idx_no {c : UInt8} : ∀ {l : List UInt8}, c ∉ l → Lib.indexByte l c = -1
  | [], _ => rfl
  | b :: l, h => by
    have h1 : (b == c) = false := by simp; exact fun e => h (by simp [e])
    have h2 := idx_no (l := l) (c := c) fun hm => h (by simp [hm])
    rw [Lib.indexByte, h1, h2]; rfl
theorem idx_at {c : UInt8} : ∀ {l : List UInt8}, c ∈ l → ∃ m : Nat, Lib.indexByte l c = m ∧ m < l.length ∧ l = l.take m ++ c :: l.drop (m + 1) ∧ c ∉ l.take m
  | [], h => by simp at h
  | b :: l, h => by
    by_cases hb : b = c
    · exact ⟨0, by simp [Lib.indexByte, hb], by simp, by simp [hb], by simp⟩
    · have hm : c ∈ l := by
        rcases List.mem_cons.1 h with e | e
        · exact absurd e.symm hb
        · exact e
      obtain ⟨m, h1, h2, h3, h4⟩ := idx_at hm
      refine ⟨m + 1, ?_, by simp; omega, ?_, ?_⟩
      · have h0 : (b == c) = false := by simpa using hb
        have hne : ((m : Int) == -1) = false := by first | (simp; done) | (simp; omega)
        rw [Lib.indexByte, h0, h1, hne]
        simp
      · simp only [List.take_succ_cons, List.drop_succ_cons, List.cons_append]
        rw [← h3]
      · simp only [List.take_succ_cons, List.mem_cons, not_or]
        exact ⟨fun e => hb e.symm, h4⟩
theorem pieces_no {c : UInt8} {t : ByteArray} (h : c ∉ bts t) : pieces c t = [t] := by
  unfold pieces
  rw [splitL_no h]
  simp
theorem pieces_at {c : UInt8} {t : ByteArray} {m : Nat} (_hm : m < (bts t).length) (h3 : bts t = (bts t).take m ++ c :: (bts t).drop (m + 1)) (h4 : c ∉ (bts t).take m) :
    pieces c t = t.extract 0 m :: pieces c (t.extract (m + 1) t.size) := by
  unfold pieces
  have e1 : bts (t.extract 0 m) = (bts t).take m := by rw [bts_extract]; simp
  have e2 : bts (t.extract (m + 1) t.size) = (bts t).drop (m + 1) := by rw [bts_extract, List.take_of_length_le (by rw [bts_len]; exact Nat.le_refl _)]
  rw [e2]
  conv => lhs; rw [h3]
  rw [splitL_at _ h4, List.map_cons, ← e1, of_bts]
theorem pieces_len (c : UInt8) (t : ByteArray) : (pieces c t).length = (bts t).count c + 1 := by
  unfold pieces
  rw [List.length_map, splitL_len]
theorem pieces_join (c : UInt8) (s t : ByteArray) : pieces c (s ++ ⟨#[c]⟩ ++ t) = pieces c s ++ pieces c t := by
  unfold pieces
  have : bts (s ++ ⟨#[c]⟩ ++ t) = bts s ++ c :: bts t := by simp [bts]
  rw [this, splitL_join, List.map_append]
theorem splitL_le {c : UInt8} : ∀ {l p : List UInt8}, p ∈ splitL c l → p.length ≤ l.length
  | [], p, h => by simp [splitL] at h; simp [h]
  | x :: l, p, h => by
    rw [splitL] at h
    split at h
    · rcases List.mem_cons.1 h with e | e
      · simp [e]
      · have := splitL_le e; simp; omega
    · cases hs : splitL c l with
      | nil => exact absurd hs (splitL_ne c l)
      | cons y ys =>
        rw [hs] at h
        rcases List.mem_cons.1 h with e | e
        · have := splitL_le (c := c) (l := l) (p := y) (by rw [hs]; simp)
          rw [e]; simp; omega
        · have := splitL_le (c := c) (l := l) (p := p) (by rw [hs]; simp [e])
          simp; omega
theorem pieces_le {c : UInt8} {t p : ByteArray} (h : p ∈ pieces c t) : p.size ≤ t.size := by
  obtain ⟨l, hl, rfl⟩ := List.mem_map.1 h
  have := splitL_le hl
  rw [bts_len] at this
  have e : (⟨l.toArray⟩ : ByteArray).size = l.length := by show l.toArray.size = _; rw [List.size_toArray]
  rw [e]; exact this
theorem nameG_bytes {F : Int → Bool} {t : ByteArray} (h : nameG F t = true) : ∀ c ∈ bts t, okB c.toNat = true := by
  unfold nameG at h
  simp only [Bool.and_eq_true] at h
  exact List.all_eq_true.1 h.2
theorem low_high {t : ByteArray} (h : lowF t = true) : highF t = false := by
  have hn : nameG (inB 97 122) t = true := by unfold lowF at h; simp only [Bool.and_eq_true] at h; exact h.1
  unfold highF
  unfold nameG at hn ⊢
  simp only [Bool.and_eq_true] at hn
  have hf := hn.1.2
  cases hb : bts t with
  | nil => simp [firstB]
  | cons c l =>
    rw [hb] at hf
    have : inB 65 90 c.toNat = false := by
      simp only [firstB, inB, Bool.and_eq_true, decide_eq_true_eq] at hf
      unfold inB; simp; omega
    simp [firstB, this]
theorem low_word {t : ByteArray} (h : lowF t = true) : wordF t = false := by
  unfold lowF at h
  simp only [Bool.and_eq_true] at h
  simpa using h.2
theorem path_join (s t : ByteArray) : pathF (s ++ ⟨#[47]⟩ ++ t) = (pathF s && pathF t) := by
  unfold pathF
  rw [pieces_join, List.all_append]
theorem numG_no {t : ByteArray} (h : (46 : UInt8) ∈ bts t) : numG t = false := by
  unfold numG
  have : ((bts t).all fun c => inB 48 57 c.toNat) = false := by
    rw [List.all_eq_false]
    exact ⟨46, h, by decide⟩
  rw [this]; simp
/-- A path's part, by what lies ahead of its first point and behind it. -/
theorem partF_no {t : ByteArray} (h : (46 : UInt8) ∉ bts t) : partF t = lowF t := by
  unfold partF
  rw [pieces_no h]
theorem low_path {t : ByteArray} (h : lowF t = true) : pathF t = true := by
  have hn : nameG (inB 97 122) t = true := by unfold lowF at h; simp only [Bool.and_eq_true] at h; exact h.1
  have hb := nameG_bytes hn
  have h47 : (47 : UInt8) ∉ bts t := fun hm => by have := hb _ hm; exact absurd this (by decide)
  have h46 : (46 : UInt8) ∉ bts t := fun hm => by have := hb _ hm; exact absurd this (by decide)
  unfold pathF
  rw [pieces_no h47]
  simp [partF_no h46, h]
theorem partF_at {t : ByteArray} {m : Nat} (hm : m < (bts t).length) (h3 : bts t = (bts t).take m ++ 46 :: (bts t).drop (m + 1)) (h4 : (46 : UInt8) ∉ (bts t).take m) :
    partF t = (lowF (t.extract 0 m) && numG (t.extract (m + 1) t.size)) := by
  unfold partF
  rw [pieces_at hm h3 h4]
  by_cases h : (46 : UInt8) ∈ bts (t.extract (m + 1) t.size)
  · rw [numG_no h]
    have hl := pieces_len 46 (t.extract (m + 1) t.size)
    have hc : 0 < (bts (t.extract (m + 1) t.size)).count 46 := List.count_pos_iff.2 h
    cases hp : pieces 46 (t.extract (m + 1) t.size) with
    | nil => rw [hp] at hl; simp at hl
    | cons x l =>
      cases l with
      | nil => rw [hp, List.length_singleton] at hl; omega
      | cons y l => simp
  · rw [pieces_no h]
end Go.Abs

namespace Go.Abs
theorem bts_from (t : ByteArray) (f : Nat) : bts (t.extract f t.size) = (bts t).drop f := by
  rw [bts_extract, List.take_of_length_le (by rw [bts_len]; exact Nat.le_refl _)]
theorem ext_of_bts {s t : ByteArray} (h : bts s = bts t) : s = t := bts_inj h
/-- One more piece: the byte at i parts. -/
theorem pieces_step {c : UInt8} {t : ByteArray} {f i : Nat} (hf : f ≤ i) (hc : (bts t)[i]? = some c) (hno : c ∉ ((bts t).take i).drop f) :
    pieces c (t.extract f t.size) = t.extract f i :: pieces c (t.extract (i + 1) t.size) := by
  obtain ⟨hi, he⟩ := List.getElem?_eq_some_iff.1 hc
  have hb := bts_from t f
  have h4 : ((bts t).drop f).take (i - f) = ((bts t).take i).drop f := by rw [List.drop_take]
  have hm : i - f < (bts (t.extract f t.size)).length := by rw [hb, List.length_drop]; omega
  have h3 : bts (t.extract f t.size) = (bts (t.extract f t.size)).take (i - f) ++ c :: (bts (t.extract f t.size)).drop (i - f + 1) := by
    rw [hb, List.drop_drop, show f + (i - f + 1) = i + 1 by omega]
    have : (bts t).drop i = c :: (bts t).drop (i + 1) := by rw [List.drop_eq_getElem_cons hi, he]
    conv => lhs; rw [← List.take_append_drop (i - f) ((bts t).drop f)]
    rw [List.drop_drop, show f + (i - f) = i by omega, this]
  rw [pieces_at hm h3 (by rw [hb, h4]; exact hno)]
  have e1 : (t.extract f t.size).extract 0 (i - f) = t.extract f i := by
    apply bts_inj
    rw [bts_extract, hb, bts_extract, h4]
    simp
  have e2 : (t.extract f t.size).extract (i - f + 1) (t.extract f t.size).size = t.extract (i + 1) t.size := by
    apply bts_inj
    rw [bts_from, hb, bts_from, List.drop_drop, show f + (i - f + 1) = i + 1 by omega]
  rw [e1, e2]
theorem pieces_last {c : UInt8} {t : ByteArray} {f : Nat} (hno : c ∉ ((bts t).take t.size).drop f) : pieces c (t.extract f t.size) = [t.extract f t.size] := by
  apply pieces_no
  rw [bts_from]
  rwa [List.take_of_length_le (by rw [bts_len]; exact Nat.le_refl _)] at hno
theorem no_next {c x : UInt8} {t : ByteArray} {f i : Nat} (hf : f ≤ i) (hx : (bts t)[i]? = some x) (hne : ¬ x = c) (hno : c ∉ ((bts t).take i).drop f) : c ∉ ((bts t).take (i + 1)).drop f := by
  obtain ⟨hi, he⟩ := List.getElem?_eq_some_iff.1 hx
  rw [List.take_succ_eq_append_getElem hi, List.drop_append_of_le_length (by rw [List.length_take]; omega), he]
  intro hm
  rcases List.mem_append.1 hm with q | q
  · exact hno q
  · simp at q; exact hne q.symm
end Go.Abs

namespace Go.Proofs.YtipcmpkihhfhcaaGreatDoor
open Go.Abs
set_option maxRecDepth 20000
set_option linter.unusedSimpArgs false
set_option linter.unusedVariables false
set_option maxHeartbeats 1000000
attribute [local irreducible] vc vcOps vcStep vcGuard prK hrK gK gsK brK callK ElemK SeqK BlockK ScopeK OpsK CallK LoopK LoopGo finPost ACall PCall PCallE BCall vqOps vqStep vqGuard qrK heK pcK gqK gqsK QOpsK qcallK DrawK
theorem cut_x (t : ByteArray) (c : UInt8) (ht : t.size ≤ 1000000) : PCall Tryz.prog 180 [.s t, .raw (.int .u8 c.toNat)] (.lst 1 ((pieces c t).map AV.s) none) := by
  refine pcall_of_vc tabOK Tryz.func180 n180 rfl (pure_cons (.raw _) (pure_cons (.raw _) pure_nil)) (pure_strs _) (n := 36) rfl (rs := [.tmp 4]) rfl ?_
  simp only [go_sem, Nat.reduceAdd, Nat.reduceSub, Nat.reduceMul, Nat.reduceLT, Nat.reduceLeDiff, Nat.reduceEqDiff, Nat.reduceBEq, Nat.reduceBNe, Nat.reducePow, Int.reduceEq, Int.reduceNe, Int.reduceLT, Int.reduceLE, Int.reduceGT, Int.reduceGE, Int.reduceAdd, Int.reduceSub, Int.reduceNeg, Int.reduceMul, not_true_eq_false, not_false_eq_true, true_and, and_true, Int.reduceToNat]
  refine loop_rule (fun n s h => ∃ (i fr : Nat) (D : List ByteArray) (rest : List Blk), i ≤ t.size + 1 ∧ fr ≤ i ∧ D.length ≤ i ∧ n = t.size + 1 - i ∧ (i ≤ t.size → D ++ pieces c (t.extract fr t.size) = pieces c t ∧ c ∉ ((bts t).take i).drop fr) ∧ (i = t.size + 1 → D = pieces c t) ∧
    Vis 36 [(7, .i i), (0, .s t), (1, .raw (.int .u8 c.toNat)), (5, .lst 1 (D.map AV.s) (some 0)), (6, .i fr)] s ∧ h = .tok 9 1 D.length :: rest) (t.size + 1) ?_ ?_
  · refine ⟨0, 0, [], [], by omega, by omega, by simp, by omega, fun _ => ⟨?_, by simp⟩, by omega, .cons rfl (.cons rfl (.cons rfl (.cons rfl (.cons rfl (.nil rfl))))), rfl⟩
    have : t.extract 0 t.size = t := bts_inj (by rw [bts_from]; rfl)
    rw [List.nil_append, this]
  rintro n s h ⟨i, fr, D, rest, hi, hfr, hl, rfl, hinv, hend, hv, rfl⟩
  obtain ⟨j, rfl⟩ := hv.out
  repeat' first
    | exact finB rfl
    | exact finI rfl
    | exact finP rfl
    | exact absurd rfl (by assumption)
    | simp only [go_sem, Nat.reduceAdd, Nat.reduceSub, Nat.reduceMul, Nat.reduceLT, Nat.reduceLeDiff, Nat.reduceEqDiff, Nat.reduceBEq, Nat.reduceBNe, Nat.reducePow, Int.reduceEq, Int.reduceNe, Int.reduceLT, Int.reduceLE, Int.reduceGT, Int.reduceGE, Int.reduceAdd, Int.reduceSub, Int.reduceNeg, Int.reduceMul, not_true_eq_false, not_false_eq_true, true_and, and_true, Int.reduceToNat]
    | (intro _)
    | refine brK_dec (fun _ => ?_) (fun _ => ?_)
    | refine brK_any ?_ ?_
    | refine gK_dec (fun _ => ?_) (fun _ => ?_)
    | refine gK_any ?_ ?_
    | refine gqK_dec (fun _ => ?_) (fun _ => ?_)
    | refine ⟨by omega, ?_⟩
    | refine elemHave (by omega) (by assumption) ?_
    | refine elemMap (by omega) (by omega) (fun x hx => ?_)
    | refine drawK mo (by kernel_rfl) ?_
    | (exfalso; omega)
    | ((fail_if_success (clear hcc)); have hlt_ : i < t.size := (by omega); have hcx := bts_at hlt_; obtain ⟨x, hcc⟩ := hcx; have hbi := bat hcc)
    | (rw [hbi])
  · have hie : i = t.size := by omega
    obtain ⟨h1, h2⟩ := hinv (by omega)
    rw [hie] at h2
    have hp := pieces_last h2
    rw [hp] at h1
    exact loopGo (t.size + 1 - (i + 1)) (by omega) ⟨i + 1, i + 1, D ++ [t.extract (fr : Int).toNat (i : Int).toNat], rest ++ [.tok 9 1 1], by omega, by omega, by simp; omega, rfl, fun h => by omega, fun _ => by rw [← h1, hie, Int.toNat_natCast, Int.toNat_natCast],
      .next rfl (by omega) (.cons rfl (.cons rfl (.cons (by rw [List.map_append]; rfl) (.next rfl (by omega) (.nil rfl))))), by simp⟩
  · have hxc : x = c := UInt8.toNat_inj.1 (by omega)
    subst hxc
    obtain ⟨h1, h2⟩ := hinv (by omega)
    have hp := pieces_step hfr hcc h2
    rw [hp] at h1
    exact loopGo (t.size + 1 - (i + 1)) (by omega) ⟨i + 1, i + 1, D ++ [t.extract (fr : Int).toNat (i : Int).toNat], rest ++ [.tok 9 1 1], by omega, by omega, by simp; omega, rfl, fun _ => ⟨by rw [Int.toNat_natCast, Int.toNat_natCast, List.append_assoc]; exact h1, by simp⟩, fun h => by omega,
      .next rfl (by omega) (.cons rfl (.cons rfl (.cons (by rw [List.map_append]; rfl) (.next rfl (by omega) (.nil rfl))))), by simp⟩
  · have hxc : ¬ x = c := fun e => by subst e; omega
    obtain ⟨h1, h2⟩ := hinv (by omega)
    exact loopGo (t.size + 1 - (i + 1)) (by omega) ⟨i + 1, fr, D, rest, by omega, by omega, by omega, rfl, fun _ => ⟨h1, no_next hfr hcc hxc h2⟩, fun h => by omega,
      .next rfl (by omega) (.cons rfl (.cons rfl (.cons rfl (.cons rfl (.nil rfl))))), rfl⟩
  · rw [← hend (by omega)]
    exact ⟨_, rfl, false, .tok _ _ _⟩

theorem numG_bad {t : ByteArray} (h : ¬ (1 ≤ t.size ∧ t.size ≤ 3)) : numG t = false := by
  unfold numG
  rcases Classical.em (1 ≤ t.size) with q | q
  · have : ¬ t.size ≤ 3 := fun q' => h ⟨q, q'⟩
    simp [this]
  · simp [q]
theorem partF_one {t p : ByteArray} {l : List ByteArray} (hp : pieces 46 t = l) (hl : l.length = 1) (h0 : l[0]? = some p) : partF t = lowF p := by
  match l, hl with
  | [x], _ => simp at h0; subst h0; unfold partF; rw [hp]
theorem partF_two {t p q : ByteArray} {l : List ByteArray} (hp : pieces 46 t = l) (hl : l.length = 2) (h0 : l[0]? = some p) (h1 : l[1]? = some q) : partF t = (lowF p && numG q) := by
  match l, hl with
  | [x, y], _ => simp at h0 h1; subst h0; subst h1; unfold partF; rw [hp]
theorem partF_more {t : ByteArray} {l : List ByteArray} (hp : pieces 46 t = l) (hl : 2 < l.length) : partF t = false := by
  match l, hl with
  | x :: y :: z :: l, _ => unfold partF; rw [hp]
theorem partF_low0 {t p : ByteArray} {l : List ByteArray} (hp : pieces 46 t = l) (h0 : l[0]? = some p) (h : lowF p = false) : partF t = false := by
  unfold partF
  rw [hp]
  match l with
  | [] => rfl
  | [x] => simp at h0; subst h0; exact h
  | [x, y] => simp at h0; subst h0; simp [h]
  | x :: y :: z :: l => rfl
theorem cut_x' (t : ByteArray) (c : UInt8) (k : Int) (hk : (c.toNat : Int) = k) (ht : t.size ≤ 1000000) : PCall Tryz.prog 180 [.s t, .raw (.int .u8 k)] (.lst 1 ((pieces c t).map AV.s) none) := hk ▸ cut_x t c ht
theorem numG_of {t : ByteArray} {b : Bool} {c : UInt8} (h1 : 1 ≤ t.size) (h2 : t.size ≤ 3) (h0 : (bts t)[0]? = some c) (h48 : ¬ c.toNat = 48) (hb : ((bts t).all fun c => inB 48 57 c.toNat) = b) : numG t = b := by
  unfold numG
  obtain ⟨l, hl⟩ := bts_cons h0
  rw [decide_eq_true h1, decide_eq_true h2, hb, hl]
  simp [firstNo0, h48]
theorem numG_48 {t : ByteArray} {c : UInt8} (h0 : (bts t)[0]? = some c) (h48 : c.toNat = 48) : numG t = false := by
  unfold numG
  obtain ⟨l, hl⟩ := bts_cons h0
  rw [hl]
  simp [firstNo0, h48]
theorem path_x (t : ByteArray) (ht : t.size ≤ 1000000) : PCall Tryz.prog 144 [.s t] (.b (pathF t)) := by
  refine pcall_of_vc tabOK Tryz.func144 n144 rfl (by repeat' first | exact pure_nil | refine pure_cons ?_ ?_ | exact .raw _ | exact pure_enc _ | exact pure_lst _ | exact pure_strs _ | exact pure_ints _ | exact DTy.pure _ | exact DTy.pures _ | exact DEnum.pure _ | exact DEnum.pures _ | exact DDecl.pure _ | exact DDecl.pures _ | exact DEq.pure _ | exact DEq.pures _ | exact DNode.pure _ | exact DNode.pures _ | exact DProg.pure _ | exact DProg.pures _ | exact DCond.pure _ | exact DCond.pures _ | exact DAtom.pure _ | exact DAtom.pures _ | exact DPlain.pure _ | exact DPlain.pures _ | exact DVar.pure _ | exact DVar.pures _ | exact DFlow.pure _ | exact DFlow.pures _ | exact DFlows.pure _ | exact DFlows.pures _ | exact DAsked.pure _ | exact DAsked.pures _ | exact DFault.pure _ | exact DFault.pures _ | exact DCell.pure _ | exact DCell.pures _ | exact DReply.pure _ | exact DReply.pures _ | exact DAsk.pure _ | exact DAsk.pures _ | exact DOp.pure _ | exact DOp.pures _ | exact pure_list (fun x => DDecl.pures x) _ | exact .fn _ _ _ pure_nil pure_nil | refine .agg _ ?_ | refine .tup _ ?_ | assumption) (by repeat' first | exact pure_nil | refine pure_cons ?_ ?_ | exact .raw _ | exact pure_enc _ | exact pure_lst _ | exact pure_strs _ | exact pure_ints _ | exact DTy.pure _ | exact DTy.pures _ | exact DEnum.pure _ | exact DEnum.pures _ | exact DDecl.pure _ | exact DDecl.pures _ | exact DEq.pure _ | exact DEq.pures _ | exact DNode.pure _ | exact DNode.pures _ | exact DProg.pure _ | exact DProg.pures _ | exact DCond.pure _ | exact DCond.pures _ | exact DAtom.pure _ | exact DAtom.pures _ | exact DPlain.pure _ | exact DPlain.pures _ | exact DVar.pure _ | exact DVar.pures _ | exact DFlow.pure _ | exact DFlow.pures _ | exact DFlows.pure _ | exact DFlows.pures _ | exact DAsked.pure _ | exact DAsked.pures _ | exact DFault.pure _ | exact DFault.pures _ | exact DCell.pure _ | exact DCell.pures _ | exact DReply.pure _ | exact DReply.pures _ | exact DAsk.pure _ | exact DAsk.pures _ | exact DOp.pure _ | exact DOp.pures _ | exact pure_list (fun x => DDecl.pures x) _ | exact .fn _ _ _ pure_nil pure_nil | refine .agg _ ?_ | refine .tup _ ?_ | assumption) (n := 61) rfl (rs := [.tmp 2]) rfl ?_
  unfold pathF
  simp only [go_sem, Nat.reduceAdd, Nat.reduceSub, Nat.reduceMul, Nat.reduceLT, Nat.reduceLeDiff, Nat.reduceEqDiff, Nat.reduceBEq, Nat.reduceBNe, Nat.reducePow, Int.reduceEq, Int.reduceNe, Int.reduceLT, Int.reduceLE, Int.reduceGT, Int.reduceGE, Int.reduceAdd, Int.reduceSub, Int.reduceNeg, Int.reduceMul, not_true_eq_false, not_false_eq_true, true_and, and_true, Int.reduceToNat]
  refine PCall.call (cut_x' t 47 47 rfl ht) ?_
  simp only [go_sem, Nat.reduceAdd, Nat.reduceSub, Nat.reduceMul, Nat.reduceLT, Nat.reduceLeDiff, Nat.reduceEqDiff, Nat.reduceBEq, Nat.reduceBNe, Nat.reducePow, Int.reduceEq, Int.reduceNe, Int.reduceLT, Int.reduceLE, Int.reduceGT, Int.reduceGE, Int.reduceAdd, Int.reduceSub, Int.reduceNeg, Int.reduceMul, not_true_eq_false, not_false_eq_true, true_and, and_true, Int.reduceToNat]
  refine loop_frH [2, 4, 5, 6, 7, 10, 11, 12, 13, 14, 15, 16, 17, 18, 19, 20, 21, 22, 23, 24, 25, 26, 27, 28, 29, 30, 31, 32, 33, 34, 35, 36, 37, 38, 39, 40, 41, 42, 43, 44, 45, 46, 47, 48, 49, 50, 51, 52, 53, 54, 55, 56, 57, 58, 59, 60] (fun m C => ∃ i : Nat, i ≤ (pieces 47 t).length ∧ m = (pieces 47 t).length - i ∧ (∀ x ∈ (pieces 47 t).take i, partF x = true) ∧ C = [(4, .raw (.int .i64 (i : Nat)))]) (pieces 47 t).length _ ⟨0, by omega, by omega, by simp, rfl⟩ (.cons rfl .nil) ?_
  rintro m C j ⟨i, hi, rfl, hpi, rfl⟩
  simp only [go_sem, Nat.reduceAdd, Nat.reduceSub, Nat.reduceMul, Nat.reduceLT, Nat.reduceLeDiff, Nat.reduceEqDiff, Nat.reduceBEq, Nat.reduceBNe, Nat.reducePow, Int.reduceEq, Int.reduceNe, Int.reduceLT, Int.reduceLE, Int.reduceGT, Int.reduceGE, Int.reduceAdd, Int.reduceSub, Int.reduceNeg, Int.reduceMul, not_true_eq_false, not_false_eq_true, true_and, and_true, Int.reduceToNat]
  intro _
  refine brK_dec (fun hlt => ?_) (fun hge => ?_)
  · simp only [go_sem, Nat.reduceAdd, Nat.reduceSub, Nat.reduceMul, Nat.reduceLT, Nat.reduceLeDiff, Nat.reduceEqDiff, Nat.reduceBEq, Nat.reduceBNe, Nat.reducePow, Int.reduceEq, Int.reduceNe, Int.reduceLT, Int.reduceLE, Int.reduceGT, Int.reduceGE, Int.reduceAdd, Int.reduceSub, Int.reduceNeg, Int.reduceMul, not_true_eq_false, not_false_eq_true, true_and, and_true, Int.reduceToNat]
    refine elemMap (by omega) (by omega) (fun x hx => ?_)
    have hx' : (pieces 47 t)[i]? = some x := by simpa using hx
    have hle := pieces_le (List.mem_of_getElem? hx')
    have next : partF x = true → ∀ y ∈ (pieces 47 t).take (i + 1), partF y = true := fun h => take_all hpi hx' h
    have stop : partF x = false → false = (pieces 47 t).all partF := fun h => (List.all_eq_false.2 ⟨x, List.mem_of_getElem? hx', by simp [h]⟩).symm
    simp only [go_sem, Nat.reduceAdd, Nat.reduceSub, Nat.reduceMul, Nat.reduceLT, Nat.reduceLeDiff, Nat.reduceEqDiff, Nat.reduceBEq, Nat.reduceBNe, Nat.reducePow, Int.reduceEq, Int.reduceNe, Int.reduceLT, Int.reduceLE, Int.reduceGT, Int.reduceGE, Int.reduceAdd, Int.reduceSub, Int.reduceNeg, Int.reduceMul, not_true_eq_false, not_false_eq_true, true_and, and_true, Int.reduceToNat]
    refine PCall.call (cut_x' x 46 46 rfl (by omega)) ?_
    have hne := pieces_ne 46 x
    generalize hp : pieces 46 x = l at hne ⊢
    have hl0 : 0 < l.length := List.length_pos_iff.2 hne
    obtain ⟨p0, hp0⟩ : ∃ p0, l[0]? = some p0 := ⟨_, List.getElem?_eq_getElem hl0⟩
    by_cases h2 : l.length = 2
    · obtain ⟨q, hq⟩ : ∃ q, l[1]? = some q := ⟨_, List.getElem?_eq_getElem (by omega)⟩
      have hpt := partF_two hp h2 hp0 hq
      by_cases hsz : ¬ (1 ≤ q.size ∧ q.size ≤ 3)
      · have hbad := numG_bad hsz
        repeat' first
          | (exfalso; omega)
          | simp only [go_sem, Nat.reduceAdd, Nat.reduceSub, Nat.reduceMul, Nat.reduceLT, Nat.reduceLeDiff, Nat.reduceEqDiff, Nat.reduceBEq, Nat.reduceBNe, Nat.reducePow, Int.reduceEq, Int.reduceNe, Int.reduceLT, Int.reduceLE, Int.reduceGT, Int.reduceGE, Int.reduceAdd, Int.reduceSub, Int.reduceNeg, Int.reduceMul, not_true_eq_false, not_false_eq_true, true_and, and_true, Int.reduceToNat]
          | (intro _)
          | refine brK_dec (fun _ => ?_) (fun _ => ?_)
          | refine gK_dec (fun _ => ?_) (fun _ => ?_)
          | refine elemHave (by omega) hp0 ?_
          | refine elemHave (by omega) hq ?_
          | (refine PCall.call (low_x p0) ?_; generalize hlo : lowF p0 = lo; cases lo)
          | exact finBq rfl (stop (by rw [hpt, hbad]; simp))
      · have hsz := Classical.not_not.1 hsz
        obtain ⟨c0, hc0⟩ := bts_at (t := q) (i := 0) (by omega)
        have hb0 : (q.data.toList.getD 0 0).toNat = c0.toNat := by have := bat hc0; simpa using this
        (repeat' first
    | exact finB rfl
    | exact finI rfl
    | exact finP rfl
    | exact absurd rfl (by assumption)
    | simp only [go_sem, Nat.reduceAdd, Nat.reduceSub, Nat.reduceMul, Nat.reduceLT, Nat.reduceLeDiff, Nat.reduceEqDiff, Nat.reduceBEq, Nat.reduceBNe, Nat.reducePow, Int.reduceEq, Int.reduceNe, Int.reduceLT, Int.reduceLE, Int.reduceGT, Int.reduceGE, Int.reduceAdd, Int.reduceSub, Int.reduceNeg, Int.reduceMul, not_true_eq_false, not_false_eq_true, true_and, and_true, Int.reduceToNat]
    | (intro _)
    | refine brK_dec (fun _ => ?_) (fun _ => ?_)
    | refine brK_split (fun hb_ => ?_) (fun hb_ => ?_)
    | refine gK_dec (fun _ => ?_) (fun _ => ?_)
    | refine gK_split (fun hb_ => ?_) (fun hb_ => ?_)
    | refine gqK_dec (fun _ => ?_) (fun _ => ?_)
    | refine ⟨by omega, ?_⟩
    | refine elemHave (by omega) (by assumption) ?_
    | refine elemMap (by omega) (by omega) (fun x hx => ?_)
    | refine drawK mo (by kernel_rfl) ?_
    | (exfalso; omega)
    | (refine elemHave (by omega) hp0 ?_)
    | (refine elemHave (by omega) hq ?_)
    | (rw [hb0])
    | (refine PCall.call (low_x p0) ?_; generalize hlo : lowF p0 = lo; cases lo)
    | ((fail_if_success (clear hcc)); have hlt_ : k < q.size := (by omega); have hcx := bts_at hlt_; obtain ⟨c, hcc⟩ := hcx; have hbi := bat hcc)
    | (rw [hbi])
    | (refine PCall.call (in_x _ _ _) ?_; generalize hin : inB 48 57 (c.toNat : Nat) = bb; cases bb)
    | (exact finBq rfl (stop (partF_low0 hp hp0 hlo)))
    | (have h48 : c0.toNat = 48 := (by omega); exact finBq rfl (stop (by rw [hpt, numG_48 hc0 h48]; simp)))
    | (have hall := all_no (p := fun c => inB 48 57 c.toNat) hcc hin; have h48 : ¬ c0.toNat = 48 := (by omega); exact finBq rfl (stop (by rw [hpt, numG_of hsz.1 hsz.2 hc0 h48 hall]; simp)))
    | exact loopFrH _ (by omega) ⟨k + 1, by omega, rfl, take_all hpk hcc hin, rfl⟩ (.next rfl (by omega) .nil) rfl
    | (refine loop_frH [2, 7, 50, 51, 52, 53, 54, 55, 56, 57, 58, 59, 60] (fun mm_ CC_ => ∃ (k : Nat), k ≤ q.size ∧ mm_ = q.size - k ∧ (∀ c ∈ (bts q).take k, inB 48 57 c.toNat = true) ∧ CC_ = [(7, .raw (.int .i64 ((k : Nat) : Int)))]) (q.size) _ ⟨0, by omega, by omega, by simp, rfl⟩ (.cons rfl .nil) ?_; rintro mm_ CC_ jk ⟨k, hk, rfl, hpk, rfl⟩)
    | (have hall := all_yes (p := fun c => inB 48 57 c.toNat) hpk (by omega); have h48 : ¬ c0.toNat = 48 := (by omega); exact loopFrH _ (by omega) ⟨i + 1, by omega, rfl, next (by rw [hpt, hlo, numG_of hsz.1 hsz.2 hc0 h48 hall, Bool.and_self]), rfl⟩ (.next rfl (by omega) .nil) rfl))
    · have h1 : l.length = 1 ∨ 2 < l.length := by omega
      repeat' first
        | (exfalso; omega)
        | simp only [go_sem, Nat.reduceAdd, Nat.reduceSub, Nat.reduceMul, Nat.reduceLT, Nat.reduceLeDiff, Nat.reduceEqDiff, Nat.reduceBEq, Nat.reduceBNe, Nat.reducePow, Int.reduceEq, Int.reduceNe, Int.reduceLT, Int.reduceLE, Int.reduceGT, Int.reduceGE, Int.reduceAdd, Int.reduceSub, Int.reduceNeg, Int.reduceMul, not_true_eq_false, not_false_eq_true, true_and, and_true, Int.reduceToNat]
        | (intro _)
        | refine brK_dec (fun _ => ?_) (fun _ => ?_)
        | refine gK_dec (fun _ => ?_) (fun _ => ?_)
        | refine elemHave (by omega) hp0 ?_
        | (refine PCall.call (low_x p0) ?_; generalize hlo : lowF p0 = lo; cases lo)
        | (have h3 : 2 < l.length := (by omega); exact finBq rfl (stop (partF_more hp h3)))
        | exact finBq rfl (stop (partF_low0 hp hp0 hlo))
        | (have h3 : l.length = 1 := (by omega); exact loopFrH _ (by omega) ⟨i + 1, by omega, rfl, next (by rw [partF_one hp h3 hp0, hlo]), rfl⟩ (.next rfl (by omega) .nil) rfl)
  · simp only [go_sem, Nat.reduceAdd, Nat.reduceSub, Nat.reduceMul, Nat.reduceLT, Nat.reduceLeDiff, Nat.reduceEqDiff, Nat.reduceBEq, Nat.reduceBNe, Nat.reducePow, Int.reduceEq, Int.reduceNe, Int.reduceLT, Int.reduceLE, Int.reduceGT, Int.reduceGE, Int.reduceAdd, Int.reduceSub, Int.reduceNeg, Int.reduceMul, not_true_eq_false, not_false_eq_true, true_and, and_true, Int.reduceToNat]
    refine finBq rfl (List.all_eq_true.2 (take_full hpi (by omega))).symm
end Go.Proofs.YtipcmpkihhfhcaaGreatDoor

/-
  The plain law of an order of equations: each names some texts and hangs on some; the first that hangs on none unplaced comes next.
-/
namespace Go.Abs
open Go

def cntL (s : ByteArray) : List ByteArray → Nat
  | [] => 0
  | x :: l => (if x = s then 1 else 0) + cntL s l
def opn (s : ByteArray) : List (List ByteArray) → List Bool → Nat
  | ns :: N, p :: pl => (if p = true then 0 else cntL s ns) + opn s N pl
  | _, _ => 0
def waitsF (N : List (List ByteArray)) (pl : List Bool) (s : ByteArray) : Bool := decide (0 < opn s N pl)
def readyF (N H : List (List ByteArray)) (pl : List Bool) (i : Nat) : Bool := !(pl.getD i true) && (H.getD i []).all fun s => !waitsF N pl s
def pickF (N H : List (List ByteArray)) (pl : List Bool) : Nat → Nat → Option Nat
  | _, 0 => none
  | i, n + 1 => if readyF N H pl i = true then some i else pickF N H pl (i + 1) n
def orderG (N H : List (List ByteArray)) : Nat → List Bool → List Nat → List Nat × Bool
  | 0, _, out => (out, true)
  | k + 1, pl, out => match pickF N H pl 0 N.length with
    | none => (out, false)
    | some i => orderG N H k (pl.set i true) (out ++ [i])
def orderF (N H : List (List ByteArray)) : List Nat × Bool := orderG N H N.length (List.replicate N.length false) []

theorem cntL_append (s : ByteArray) (l m : List ByteArray) : cntL s (l ++ m) = cntL s l + cntL s m := by
  induction l with
  | nil => simp [cntL]
  | cons x l ih => simp only [List.cons_append, cntL, ih]; omega
theorem cntL_take {s : ByteArray} {l : List ByteArray} {k : Nat} (h : k < l.length) : cntL s (l.take (k + 1)) = cntL s (l.take k) + (if l[k] = s then 1 else 0) := by
  rw [List.take_succ_eq_append_getElem h, cntL_append]
  simp [cntL]
theorem cntL_le (s : ByteArray) (l : List ByteArray) : cntL s l ≤ l.length := by
  induction l with
  | nil => simp [cntL]
  | cons x l ih => simp only [cntL, List.length_cons]; split <;> omega
theorem cntL_take_le (s : ByteArray) (l : List ByteArray) (k : Nat) : cntL s (l.take k) ≤ cntL s l := by
  have := cntL_append s (l.take k) (l.drop k)
  rw [List.take_append_drop] at this
  omega
theorem cntL_mem {s : ByteArray} {l : List ByteArray} (h : s ∈ l) : 0 < cntL s l := by
  induction l with
  | nil => simp at h
  | cons x l ih =>
    simp only [cntL]
    rcases List.mem_cons.1 h with rfl | h
    · simp; omega
    · have := ih h; omega
theorem cntL_zero {s : ByteArray} {l : List ByteArray} (h : s ∉ l) : cntL s l = 0 := by
  induction l with
  | nil => simp [cntL]
  | cons x l ih =>
    simp only [cntL]
    rw [if_neg (fun e => h (by rw [e]; exact List.mem_cons_self)), ih (fun m => h (List.mem_cons_of_mem _ m))]

theorem opn_set {s : ByteArray} : ∀ {N : List (List ByteArray)} {pl : List Bool} {i : Nat} {ns : List ByteArray}, N[i]? = some ns → pl[i]? = some false → opn s N pl = cntL s ns + opn s N (pl.set i true)
  | [], _, _, _, h, _ => by simp at h
  | _ :: _, [], _, _, _, h => by simp at h
  | n :: N, p :: pl, 0, ns, h, k => by
    simp at h k
    subst h k
    simp [opn]
  | n :: N, p :: pl, i + 1, ns, h, k => by
    have := opn_set (s := s) (N := N) (pl := pl) (i := i) (by simpa using h) (by simpa using k)
    simp only [List.set_cons_succ, opn, this]
    omega
theorem opn_pos {s : ByteArray} {N : List (List ByteArray)} {pl : List Bool} {i : Nat} {ns : List ByteArray} (h : N[i]? = some ns) (hp : pl[i]? = some false) (hs : s ∈ ns) : 0 < opn s N pl := by
  rw [opn_set h hp]
  have := cntL_mem hs
  omega
theorem opn_zero {s : ByteArray} : ∀ {N : List (List ByteArray)} {pl : List Bool}, (∀ (i : Nat) ns, N[i]? = some ns → pl[i]? = some false → s ∉ ns) → opn s N pl = 0
  | [], _, _ => by simp [opn]
  | _ :: _, [], _ => by simp [opn]
  | n :: N, p :: pl, h => by
    have := opn_zero (s := s) (N := N) (pl := pl) (fun i ns a b => h (i + 1) ns (by simpa using a) (by simpa using b))
    simp only [opn, this]
    cases p with
    | true => simp
    | false => simp [cntL_zero (h 0 n rfl rfl)]
theorem opn_all {s : ByteArray} : ∀ {N : List (List ByteArray)}, opn s N (List.replicate N.length false) = cntL s N.flatten
  | [] => by simp [opn, cntL]
  | n :: N => by
    simp only [List.length_cons, List.replicate_succ, opn, List.flatten_cons, cntL_append, opn_all (N := N)]
    simp
theorem opn_le {s : ByteArray} : ∀ {N : List (List ByteArray)} {pl : List Bool}, opn s N pl ≤ N.flatten.length
  | [], _ => by simp [opn]
  | _ :: _, [] => by simp [opn]
  | n :: N, p :: pl => by
    have := opn_le (s := s) (N := N) (pl := pl)
    have := cntL_le s n
    simp only [opn, List.flatten_cons, List.length_append]
    split <;> omega

theorem pick_none {N H : List (List ByteArray)} {pl : List Bool} : ∀ {n i : Nat}, (∀ j, i ≤ j → j < i + n → readyF N H pl j = false) → pickF N H pl i n = none
  | 0, _, _ => rfl
  | n + 1, i, h => by
    rw [pickF, h i (Nat.le_refl _) (by omega), if_neg (by simp)]
    exact pick_none fun j a b => h j (by omega) (by omega)
theorem pick_some {N H : List (List ByteArray)} {pl : List Bool} : ∀ {n i k : Nat}, i ≤ k → k < i + n → (∀ j, i ≤ j → j < k → readyF N H pl j = false) → readyF N H pl k = true → pickF N H pl i n = some k
  | 0, i, k, h1, h2, _, _ => by omega
  | n + 1, i, k, h1, h2, h3, h4 => by
    rw [pickF]
    by_cases e : i = k
    · subst e; rw [if_pos h4]
    · rw [h3 i (Nat.le_refl _) (by omega), if_neg (by simp)]
      exact pick_some (by omega) (by omega) (fun j a b => h3 j (by omega) b) h4
theorem pick_lt {N H : List (List ByteArray)} {pl : List Bool} : ∀ {n i k : Nat}, pickF N H pl i n = some k → k < i + n ∧ readyF N H pl k = true
  | 0, _, _, h => by simp [pickF] at h
  | n + 1, i, k, h => by
    rw [pickF] at h
    split at h
    · cases h; exact ⟨by omega, by assumption⟩
    · have := pick_lt h; exact ⟨by omega, this.2⟩
theorem ready_not {N H : List (List ByteArray)} {pl : List Bool} {i : Nat} (h : pl[i]? = some true) : readyF N H pl i = false := by
  simp [readyF, List.getD_eq_getElem?_getD, h]
theorem ready_wait {N H : List (List ByteArray)} {pl : List Bool} {i : Nat} {hs : List ByteArray} {s : ByteArray} (h : H[i]? = some hs) (hm : s ∈ hs) (hw : waitsF N pl s = true) : readyF N H pl i = false := by
  simp only [readyF, List.getD_eq_getElem?_getD, h, Option.getD_some, Bool.and_eq_false_imp]
  intro _
  rw [Bool.eq_false_iff]
  intro hall
  have := List.all_eq_true.1 hall s hm
  simp [hw] at this
theorem ready_yes {N H : List (List ByteArray)} {pl : List Bool} {i : Nat} {hs : List ByteArray} (hp : pl[i]? = some false) (h : H[i]? = some hs) (hw : ∀ s ∈ hs, waitsF N pl s = false) : readyF N H pl i = true := by
  simp only [readyF, List.getD_eq_getElem?_getD, h, hp, Option.getD_some, Bool.not_false, Bool.true_and]
  exact List.all_eq_true.2 fun s hs => by simp [hw s hs]
theorem ready_pl {N H : List (List ByteArray)} {pl : List Bool} {i : Nat} (h : readyF N H pl i = true) : pl[i]? = some false := by
  simp only [readyF, Bool.and_eq_true, List.getD_eq_getElem?_getD] at h
  cases hq : pl[i]? with
  | none => rw [hq] at h; simp at h
  | some b => rw [hq] at h; cases b <;> simp_all

/-- What a map of counts says. -/
def MapN (f : Value → Option AV) (g : ByteArray → Nat) : Prop := ∀ s, orZ (f (.string s)) (.raw (.int .i64 0)) = .raw (.int .i64 (g s))
theorem MapN.nil : MapN (fun _ => none) (fun _ => 0) := fun _ => rfl
theorem MapN.cast {f : Value → Option AV} {g g' : ByteArray → Nat} (h : MapN f g) (e : ∀ s, g s = g' s) : MapN f g' := fun s => by rw [h s, e]
theorem mput_same (f : Value → Option AV) (k : ByteArray) (v : AV) : mput f (.string k) v (.string k) = some v := by simp [mput, keyEq]
theorem mput_other (f : Value → Option AV) {k s : ByteArray} (v : AV) (h : ¬ s = k) : mput f (.string k) v (.string s) = f (.string s) := by
  unfold mput
  have : keyEq (.string s) (.string k) = false := by
    rw [Bool.eq_false_iff]; intro e; exact h (by have := (keyEq_iff (kk := .str) (a := .string s) (b := .string k) rfl rfl).1 e; cases this; rfl)
  rw [this]
theorem MapN.put {f : Value → Option AV} {g : ByteArray → Nat} (h : MapN f g) (k : ByteArray) (n : Nat) (g' : ByteArray → Nat) (h1 : g' k = n) (h2 : ∀ s, ¬ s = k → g' s = g s) : MapN (mput f (.string k) (.raw (.int .i64 (n : Int)))) g' := by
  intro s
  by_cases e : s = k
  · subst e; rw [mput_same, h1]; rfl
  · rw [mput_other _ _ e, h s, h2 s e]
theorem dropB {pl : List Bool} {i : Nat} {b : Bool} (h : pl[i]? = some b) : (pl.map AV.b).drop i = AV.b b :: (pl.map AV.b).drop (i + 1) := by
  obtain ⟨hi, rfl⟩ := List.getElem?_eq_some_iff.1 h
  rw [List.drop_eq_getElem_cons (by simpa using hi)]
  simp
theorem at_old {h r : List Blk} {k : Nat} {x : Blk} (hk : h[k]? = some x) : (h ++ r)[k]? = some x := by
  rw [List.getElem?_append_left (by obtain ⟨a, _⟩ := List.getElem?_eq_some_iff.1 hk; exact a)]
  exact hk
end Go.Abs
namespace Go.Abs
open Go
theorem blk_at {h : List Blk} {k : Nat} {cs : List AV} (hb : blkCells h k = some cs) : ∃ t, h[k]? = some (.cells t cs) := by
  unfold blkCells at hb
  split at hb
  · cases hb; exact ⟨_, by assumption⟩
  · cases hb
/-- No name among the first ones that are not placed. -/
def NoW (N : List (List ByteArray)) (pl : List Bool) (s : ByteArray) (i : Nat) : Prop := ∀ (j : Nat) ns, j < i → N[j]? = some ns → pl[j]? = some false → s ∉ ns
theorem NoW.zero {N : List (List ByteArray)} {pl : List Bool} {s : ByteArray} : NoW N pl s 0 := fun j _ h => by omega
theorem NoW.step {N : List (List ByteArray)} {pl : List Bool} {s : ByteArray} {i : Nat} {ns : List ByteArray} (h : NoW N pl s i) (hN : N[i]? = some ns) (hp : pl[i]? = some false → s ∉ ns) : NoW N pl s (i + 1) := by
  intro j ms hj hm hq
  by_cases e : j = i
  · subst e
    rw [hN] at hm
    cases hm
    exact hp hq
  · exact h j ms (by omega) hm hq
theorem NoW.done {N : List (List ByteArray)} {pl : List Bool} {s : ByteArray} {i : Nat} (h : NoW N pl s i) (hi : N.length ≤ i) : waitsF N pl s = false := by
  simp only [waitsF, decide_eq_false_iff_not]
  rw [opn_zero fun j ns hn hp => h j ns (by obtain ⟨a, _⟩ := List.getElem?_eq_some_iff.1 hn; omega) hn hp]
  omega
theorem waits_yes {N : List (List ByteArray)} {pl : List Bool} {s : ByteArray} {i : Nat} {ns : List ByteArray} (hN : N[i]? = some ns) (hp : pl[i]? = some false) (hs : s ∈ ns) : waitsF N pl s = true := by
  simp only [waitsF, decide_eq_true_eq]
  exact opn_pos hN hp hs
theorem not_take {s : ByteArray} {ns : List ByteArray} {j : Nat} {p : Prop} (h : p → s ∉ ns.take j) (hj : ns.length ≤ j) : p → s ∉ ns := by rw [List.take_of_length_le hj] at h; exact h
theorem not_step {s x : ByteArray} {ns : List ByteArray} {j : Nat} {p : Prop} (h : p → s ∉ ns.take j) (hx : ns[j]? = some x) (hn : p → ¬ x = s) : p → s ∉ ns.take (j + 1) := by
  intro hp hm
  obtain ⟨hj, rfl⟩ := List.getElem?_eq_some_iff.1 hx
  rw [List.take_succ_eq_append_getElem hj] at hm
  rcases List.mem_append.1 hm with q | q
  · exact h hp q
  · simp at q
    exact hn hp q.symm
theorem map_some {α β : Type} {f : α → β} {l : List α} {i : Nat} {x : α} (h : l[i]? = some x) : (l.map f)[i]? = some (f x) := by rw [List.getElem?_map, h]; rfl
end Go.Abs
namespace Go.Abs
open Go
theorem take_mapS {α β : Type} {f : α → β} {l : List α} {i : Nat} {x : α} (hx : l[((i : Nat) : Int).toNat]? = some x) : (l.take (i + 1)).map f = (l.take i).map f ++ [f x] := by
  rw [Int.toNat_natCast] at hx
  obtain ⟨hi, rfl⟩ := List.getElem?_eq_some_iff.1 hx
  rw [List.take_succ_eq_append_getElem hi, List.map_append]
  rfl
theorem take_filtT {α : Type} {p : α → Bool} {l : List α} {i : Nat} {x : α} (hx : l[((i : Nat) : Int).toNat]? = some x) (hp : p x = true) : (l.take (i + 1)).filter p = (l.take i).filter p ++ [x] := by
  rw [Int.toNat_natCast] at hx
  obtain ⟨hi, rfl⟩ := List.getElem?_eq_some_iff.1 hx
  rw [List.take_succ_eq_append_getElem hi, List.filter_append]
  simp [hp]
theorem take_filtF {α : Type} {p : α → Bool} {l : List α} {i : Nat} {x : α} (hx : l[((i : Nat) : Int).toNat]? = some x) (hp : p x = false) : (l.take (i + 1)).filter p = (l.take i).filter p := by
  rw [Int.toNat_natCast] at hx
  obtain ⟨hi, rfl⟩ := List.getElem?_eq_some_iff.1 hx
  rw [List.take_succ_eq_append_getElem hi, List.filter_append]
  simp [hp]
theorem map_snoc (l : List ByteArray) (x : ByteArray) : l.map AV.s ++ [AV.s x] = (l ++ [x]).map AV.s := by simp
theorem map_snoc' (l : List ByteArray) (x : ByteArray) : List.map AV.s l ++ [AV.raw (.string x)] = (l ++ [x]).map AV.s := by simp
def argsP (q : DPlain) : List ByteArray := if q.Kind = 5 then [] else q.Args.map DAtom.Var
def rawP (q : DPlain) : List ByteArray := argsP q ++ ((if q.Reset = true then [q.Every.Var] else []) ++ q.On.map DCond.Var)
def readsP (q : DPlain) : List ByteArray := (rawP q).filter fun s => decide (¬ s = ⟨#[]⟩)
theorem args_le (q : DPlain) : (argsP q).length ≤ q.Args.length := by unfold argsP; split <;> simp
theorem raw_le (q : DPlain) : (rawP q).length ≤ q.Args.length + q.On.length + 1 := by
  have := args_le q
  unfold rawP
  simp only [List.length_append, List.length_map]
  split <;> simp <;> omega
end Go.Abs

/-
  Maps of counts, turned by loops; what contains tells.
-/
namespace Go.Abs
open Go
/-- Names counted into a map, as far as the k-th. -/
theorem MapN.up {f : Value → Option AV} {a : ByteArray → Nat} {l : List ByteArray} {k : Nat} {x : ByteArray} (h : MapN f (fun s => a s + cntL s (l.take k))) (hx : l[((k : Nat) : Int).toNat]? = some x) : MapN (mput f (.string x) (.raw (.int .i64 ((a x + cntL x (l.take k) + 1 : Nat) : Int)))) (fun s => a s + cntL s (l.take (k + 1))) := by
  rw [Int.toNat_natCast] at hx
  obtain ⟨hi, rfl⟩ := List.getElem?_eq_some_iff.1 hx
  refine h.put _ _ _ ?_ fun s hs => ?_
  · simp only [cntL_take hi, if_true, Nat.add_assoc]
  · have : ¬ l[k] = s := fun e => hs e.symm
    simp only [cntL_take hi, if_neg this, Nat.add_zero]
theorem MapN.upW {f : Value → Option AV} {a : ByteArray → Nat} {l : List ByteArray} {k : Nat} {x : ByteArray} (h : MapN f (fun s => a s + cntL s (l.take k))) (hx : l[((k : Nat) : Int).toNat]? = some x) (hb : a x + cntL x (l.take k) ≤ 1000000) :
    MapN (mput f (.string x) (.raw (.int .i64 (IntKind.i64.wrap (((a x + cntL x (l.take k) : Nat) : Int) + 1))))) (fun s => a s + cntL s (l.take (k + 1))) := by
  rw [wrap_in _ (by omega) (by omega)]
  exact h.up hx
/-- Names counted out of a map. -/
theorem MapN.down {f : Value → Option AV} {g b : ByteArray → Nat} {l : List ByteArray} {k : Nat} {x : ByteArray} (h : MapN f g) (hg : ∀ s, g s + cntL s (l.take k) = b s) (hb : ∀ s, cntL s l ≤ b s) (hx : l[((k : Nat) : Int).toNat]? = some x) :
    1 ≤ g x ∧ ∃ g', MapN (mput f (.string x) (.raw (.int .i64 ((g x : Int) - 1)))) g' ∧ ∀ s, g' s + cntL s (l.take (k + 1)) = b s := by
  rw [Int.toNat_natCast] at hx
  obtain ⟨hi, rfl⟩ := List.getElem?_eq_some_iff.1 hx
  have h1 := hg l[k]
  have h2 := hb l[k]
  have h3 := cntL_take (s := l[k]) hi
  have h4 := cntL_take_le l[k] l (k + 1)
  rw [if_pos rfl] at h3
  have h5 : 1 ≤ g l[k] := by omega
  refine ⟨h5, fun s => if s = l[k] then g l[k] - 1 else g s, ?_, fun s => ?_⟩
  · have := h.put l[k] (g l[k] - 1) (fun s => if s = l[k] then g l[k] - 1 else g s) (by simp) (fun s hs => by simp [hs])
    have e : ((g l[k] - 1 : Nat) : Int) = (g l[k] : Int) - 1 := by omega
    rw [e] at this
    exact this
  · have h6 := hg s
    by_cases e : s = l[k]
    · subst e
      simp only [if_true]
      omega
    · have : ¬ l[k] = s := fun q => e q.symm
      simp only [if_neg e, cntL_take hi, if_neg this]
      omega
theorem MapN.downW {f : Value → Option AV} {g b : ByteArray → Nat} {l : List ByteArray} {k : Nat} {x : ByteArray} (h : MapN f g) (hg : ∀ s, g s + cntL s (l.take k) = b s) (hb : ∀ s, cntL s l ≤ b s) (hx : l[((k : Nat) : Int).toNat]? = some x) (hn : b x ≤ 1000000) :
    ∃ g', MapN (mput f (.string x) (.raw (.int .i64 (IntKind.i64.wrap ((g x : Int) - 1))))) g' ∧ ∀ s, g' s + cntL s (l.take (k + 1)) = b s := by
  obtain ⟨h1, h2⟩ := h.down hg hb hx
  have := hg x
  rw [wrap_in _ (by omega) (by omega)]
  exact h2
theorem cnt_bnd {N : List (List ByteArray)} {i : Nat} {q : List ByteArray} (hq : N[i]? = some q) (s : ByteArray) (j : Nat) : cntL s (N.take i).flatten + cntL s (q.take j) ≤ N.flatten.length := by
  obtain ⟨hi, rfl⟩ := List.getElem?_eq_some_iff.1 hq
  have h1 := take_flatten_le N (i + 1)
  rw [List.take_succ_eq_append_getElem hi] at h1
  simp only [List.flatten_append, List.length_append, List.flatten_cons, List.flatten_nil, List.append_nil] at h1
  have h2 := cntL_le s (N.take i).flatten
  have h3 := cntL_take_le s N[i] j
  have h4 := cntL_le s N[i]
  omega
theorem cnt_step {N : List (List ByteArray)} {i : Nat} {q : List ByteArray} (hq : N[i]? = some q) {j : Nat} (hj : q.length ≤ j) (s : ByteArray) : cntL s (N.take i).flatten + cntL s (q.take j) = cntL s (N.take (i + 1)).flatten := by
  obtain ⟨hi, rfl⟩ := List.getElem?_eq_some_iff.1 hq
  rw [List.take_of_length_le hj, List.take_succ_eq_append_getElem hi, List.flatten_append, cntL_append]
  simp
theorem cnt_all {N : List (List ByteArray)} {i : Nat} (hi : N.length ≤ i) (s : ByteArray) : cntL s (N.take i).flatten = opn s N (List.replicate N.length false) := by
  rw [List.take_of_length_le hi, opn_all]
theorem MapN.at {f : Value → Option AV} {g : ByteArray → Nat} (h : MapN f g) (s : ByteArray) : orZ (f (.string s)) (.raw (.int .i64 0)) = .raw (.int .i64 (g s)) := h s
theorem idx_any {α : Type} (p : α → Bool) (l : List α) : decide (idxOf p l ≥ 0) = l.any p := by
  rcases idxOf_cases p l with ⟨h1, h2⟩ | ⟨i, x, h1, h2, h3, h4, _⟩
  · rw [h1]
    have : l.any p = false := by
      rw [Bool.eq_false_iff]
      intro e
      obtain ⟨x, hx, hp⟩ := List.any_eq_true.1 e
      have := List.find?_eq_none.1 h2 x hx
      contradiction
    rw [this]; decide
  · rw [h1]
    have : l.any p = true := List.any_eq_true.2 ⟨x, List.mem_of_getElem? h2, h4⟩
    rw [this, decide_eq_true_eq]; omega
end Go.Abs

namespace Go.Proofs.YtipcmpkihhfhcaaGreatDoor
open Go.Abs
set_option maxRecDepth 20000
set_option linter.unusedSimpArgs false
set_option linter.unusedVariables false
set_option maxHeartbeats 1000000
attribute [local irreducible] vc vcOps vcStep vcGuard prK hrK gK gsK brK callK ElemK SeqK BlockK ScopeK OpsK CallK LoopK LoopGo finPost ACall PCall PCallE BCall vqOps vqStep vqGuard qrK heK pcK gqK gqsK QOpsK qcallK DrawK
noncomputable def onceB (l : List ByteArray) : Bool := @decide l.Nodup (Classical.propDecidable _)
theorem onceB_yes {l : List ByteArray} (h : l.Nodup) : onceB l = true := by unfold onceB; simp [h]
theorem onceB_no {l : List ByteArray} (h : ¬ l.Nodup) : onceB l = false := by unfold onceB; simp [h]
attribute [irreducible] onceB
theorem nodup_step {l : List ByteArray} {i : Nat} {x : ByteArray} (h : (l.take i).Nodup) (hx : l[i]? = some x) (hn : x ∉ l.take i) : (l.take (i + 1)).Nodup := by
  obtain ⟨hi, rfl⟩ := List.getElem?_eq_some_iff.1 hx
  rw [List.take_succ_eq_append_getElem hi, List.nodup_append]
  refine ⟨h, by simp, fun a ha b hb e => ?_⟩
  rw [List.mem_singleton.1 hb] at e
  exact hn (e ▸ ha)
theorem nodup_bad {l : List ByteArray} {i : Nat} {x : ByteArray} (hx : l[i]? = some x) (hm : x ∈ l.take i) : ¬ l.Nodup := by
  intro h
  obtain ⟨hi, rfl⟩ := List.getElem?_eq_some_iff.1 hx
  have h' : (l.take i ++ l[i] :: l.drop (i + 1)).Nodup := by rw [← List.drop_eq_getElem_cons hi, List.take_append_drop]; exact h
  rw [List.nodup_append] at h'
  exact h'.2.2 l[i] hm l[i] List.mem_cons_self rfl
theorem nodup_all {l : List ByteArray} {i : Nat} (h : (l.take i).Nodup) (hi : l.length ≤ i) : onceB l = true := onceB_yes (by rwa [List.take_of_length_le hi] at h)
theorem mem_take {l : List ByteArray} {k i : Nat} {x y : ByteArray} (hk : l[((k : Int)).toNat]? = some y) (hlt : k < i) (e : y = x) : x ∈ l.take i := by
  rw [Int.toNat_natCast] at hk
  rw [List.mem_take_iff_getElem]
  obtain ⟨hi, he⟩ := List.getElem?_eq_some_iff.1 hk
  exact ⟨k, by omega, by rw [he, e]⟩
theorem ostep {l : List ByteArray} {i k : Nat} {x y : ByteArray} (h : ∀ x, l[i]? = some x → x ∉ l.take k) (hx : l[((i : Int)).toNat]? = some x) (hy : l[((k : Int)).toNat]? = some y) (hn : ¬ y = x) : ∀ x, l[i]? = some x → x ∉ l.take (k + 1) := by
  rw [Int.toNat_natCast] at hx hy
  intro z hz
  rw [hx] at hz
  cases hz
  exact not_step (p := True) (fun _ => h x hx) hy (fun _ => hn) trivial
theorem oend {l : List ByteArray} {i k : Nat} (hN : (l.take i).Nodup) (h : ∀ x, l[i]? = some x → x ∉ l.take k) (hk : k = i) (hi : i < l.length) : (l.take (i + 1)).Nodup := by
  subst hk
  exact nodup_step hN (List.getElem?_eq_getElem hi) (h _ (List.getElem?_eq_getElem hi))
theorem once_x (l : List ByteArray) : PCall Tryz.prog 45 [.lst 1 (l.map AV.s) none] (.b (onceB l)) := by
  refine pcall_of_vc tabOK Tryz.func45 n45 rfl (by repeat' first | exact pure_nil | refine pure_cons ?_ ?_ | exact .raw _ | exact pure_enc _ | exact pure_lst _ | exact pure_strs _ | exact pure_ints _ | exact DTy.pure _ | exact DTy.pures _ | exact DEnum.pure _ | exact DEnum.pures _ | exact DDecl.pure _ | exact DDecl.pures _ | exact DEq.pure _ | exact DEq.pures _ | exact DNode.pure _ | exact DNode.pures _ | exact DProg.pure _ | exact DProg.pures _ | exact DCond.pure _ | exact DCond.pures _ | exact DAtom.pure _ | exact DAtom.pures _ | exact DPlain.pure _ | exact DPlain.pures _ | exact DVar.pure _ | exact DVar.pures _ | exact DFlow.pure _ | exact DFlow.pures _ | exact DFlows.pure _ | exact DFlows.pures _ | exact DAsked.pure _ | exact DAsked.pures _ | exact DFault.pure _ | exact DFault.pures _ | exact DCell.pure _ | exact DCell.pures _ | exact DReply.pure _ | exact DReply.pures _ | exact DAsk.pure _ | exact DAsk.pures _ | exact DOp.pure _ | exact DOp.pures _ | exact pure_list (fun x => DDecl.pures x) _ | exact .fn _ _ _ pure_nil pure_nil | refine .agg _ ?_ | refine .tup _ ?_ | assumption) (by repeat' first | exact pure_nil | refine pure_cons ?_ ?_ | exact .raw _ | exact pure_enc _ | exact pure_lst _ | exact pure_strs _ | exact pure_ints _ | exact DTy.pure _ | exact DTy.pures _ | exact DEnum.pure _ | exact DEnum.pures _ | exact DDecl.pure _ | exact DDecl.pures _ | exact DEq.pure _ | exact DEq.pures _ | exact DNode.pure _ | exact DNode.pures _ | exact DProg.pure _ | exact DProg.pures _ | exact DCond.pure _ | exact DCond.pures _ | exact DAtom.pure _ | exact DAtom.pures _ | exact DPlain.pure _ | exact DPlain.pures _ | exact DVar.pure _ | exact DVar.pures _ | exact DFlow.pure _ | exact DFlow.pures _ | exact DFlows.pure _ | exact DFlows.pures _ | exact DAsked.pure _ | exact DAsked.pures _ | exact DFault.pure _ | exact DFault.pures _ | exact DCell.pure _ | exact DCell.pures _ | exact DReply.pure _ | exact DReply.pures _ | exact DAsk.pure _ | exact DAsk.pures _ | exact DOp.pure _ | exact DOp.pures _ | exact pure_list (fun x => DDecl.pures x) _ | exact .fn _ _ _ pure_nil pure_nil | refine .agg _ ?_ | refine .tup _ ?_ | assumption) (n := 25) rfl (rs := [.tmp 2]) rfl ?_
  repeat' first
    | exact finB rfl
    | exact finI rfl
    | exact finP rfl
    | exact absurd rfl (by assumption)
    | simp only [go_sem, Nat.reduceAdd, Nat.reduceSub, Nat.reduceMul, Nat.reduceLT, Nat.reduceLeDiff, Nat.reduceEqDiff, Nat.reduceBEq, Nat.reduceBNe, Nat.reducePow, Int.reduceEq, Int.reduceNe, Int.reduceLT, Int.reduceLE, Int.reduceGT, Int.reduceGE, Int.reduceAdd, Int.reduceSub, Int.reduceNeg, Int.reduceMul, not_true_eq_false, not_false_eq_true, true_and, and_true, Int.reduceToNat]
    | (intro _)
    | refine brK_dec (fun _ => ?_) (fun _ => ?_)
    | refine brK_any ?_ ?_
    | refine gK_dec (fun _ => ?_) (fun _ => ?_)
    | refine gK_any ?_ ?_
    | refine gqK_dec (fun _ => ?_) (fun _ => ?_)
    | refine ⟨by omega, ?_⟩
    | refine elemHave (by omega) (by assumption) ?_
    | ((fail_if_success (clear hy)); refine elemMap (by omega) (by omega) (fun y hy => ?_))
    | refine elemMap (by omega) (by omega) (fun x hx => ?_)
    | refine drawK mo (by kernel_rfl) ?_
    | (exfalso; omega)
    | (rw [hy] at hx; cases hx)
    | (refine finBq rfl ?_; first | (rw [nodup_all hpi (by omega)]) | (rw [onceB_no]; exact nodup_bad (by simpa using hx) (mem_take hy (by omega) (by assumption))))
    | exact loopFrH _ (by omega) ⟨k + 1, by omega, rfl, ostep hpk hx hy (by assumption), rfl⟩ (.next rfl (by omega) .nil) rfl
    | (refine loop_frH [2, 4, 11, 12, 13, 14, 15, 16, 17, 18, 19, 20, 21, 22, 23, 24] (fun mm_ CC_ => ∃ (k : Nat), k ≤ i ∧ mm_ = i - k ∧ (∀ x, l[i]? = some x → x ∉ l.take k) ∧ CC_ = [(4, .raw (.int .i64 ((k : Nat) : Int)))]) (i) _ ⟨0, by omega, by omega, by simp, rfl⟩ (.cons rfl .nil) ?_; rintro mm_ CC_ jk ⟨k, hk, rfl, hpk, rfl⟩)
    | exact loopFrH _ (by omega) ⟨i + 1, by omega, rfl, oend hpi hpk (by omega) (by omega), rfl⟩ (.next rfl (by omega) .nil) rfl
    | (refine loop_frH [2, 3, 4, 5, 6, 7, 8, 9, 10, 11, 12, 13, 14, 15, 16, 17, 18, 19, 20, 21, 22, 23, 24] (fun mm_ CC_ => ∃ (i : Nat), i ≤ l.length ∧ mm_ = l.length - i ∧ ((l.take i).Nodup) ∧ CC_ = [(3, .raw (.int .i64 ((i : Nat) : Int)))]) (l.length) _ ⟨0, by omega, by omega, by simp, rfl⟩ (.cons rfl .nil) ?_; rintro mm_ CC_ ji ⟨i, hi, rfl, hpi, rfl⟩)
end Go.Proofs.YtipcmpkihhfhcaaGreatDoor

namespace Go.Proofs.YtipcmpkihhfhcaaGreatDoor
open Go.Abs
set_option maxRecDepth 20000
set_option linter.unusedSimpArgs false
set_option linter.unusedVariables false
set_option maxHeartbeats 1000000
attribute [local irreducible] vc vcOps vcStep vcGuard prK hrK gK gsK brK callK ElemK SeqK BlockK ScopeK OpsK CallK LoopK LoopGo finPost ACall PCall PCallE BCall vqOps vqStep vqGuard qrK heK pcK gqK gqsK QOpsK qcallK DrawK
structure DRule where
  number : Bool
  name : Bool
  op : Bool
  least : Int
  most : Int
  arms : Int
abbrev DRule.enc (r : DRule) : AV := .agg [.b r.number, .b r.name, .b r.op, .i r.least, .i r.most, .i r.arms]
theorem DRule.pure (r : DRule) : Go.Abs.Pure r.enc := .agg _ (pure_cons (.raw _) (pure_cons (.raw _) (pure_cons (.raw _) (pure_cons (.raw _) (pure_cons (.raw _) (pure_cons (.raw _) pure_nil))))))
abbrev ruleA (p : DRule × Bool) : AV := .tup [p.1.enc, .b p.2]
theorem pure_ruleA (p : DRule × Bool) : Go.Abs.Pure (ruleA p) := .tup _ (pure_cons (DRule.pure _) (pure_cons (.raw _) pure_nil))
theorem finRule {T : TypeId → TI} {rs : List ResultVar} {s : List AV} {h : List Blk} {p : DRule} {x y z : Bool} {a b c : Int} (hr : resAV T s h rs = some [.agg [.b x, .b y, .b z, .i a, .i b, .i c]]) (hp : p = ⟨x, y, z, a, b, c⟩) : Go.Abs.Fin T rs p.enc s h := by
  subst hp
  exact ⟨_, hr, false, .refl _⟩
theorem finRule2 {T : TypeId → TI} {rs : List ResultVar} {s : List AV} {h : List Blk} {p : DRule × Bool} {x y z ok : Bool} {a b c : Int} (hr : resAV T s h rs = some [.agg [.b x, .b y, .b z, .i a, .i b, .i c], .b ok]) (hp : p = (⟨x, y, z, a, b, c⟩, ok)) : Go.Abs.Fin T rs (ruleA p) s h := by
  subst hp
  exact ⟨_, hr, false, .refl _⟩
def k0 : List Ex → Int
  | [] => 0
  | x :: _ => x.kind
def litE (e : Ex) : Bool := if e.kind = 5 then decide (e.op = 1) && decide (e.subs.length = 1) && decide (k0 e.subs = 1) else decide (e.kind = 1 ∨ e.kind = 2 ∨ e.kind = 4)
def constE (e : Ex) : Bool := if e.kind = 14 then e.subs.all litE else litE e
abbrev tTrue : ByteArray := ⟨#[116, 114, 117, 101]⟩
abbrev tFalse : ByteArray := ⟨#[102, 97, 108, 115, 101]⟩
def armE (s : ByteArray) : Bool := highF s || decide (s = tTrue) || decide (s = tFalse)
def nothingE (e : Ex) (n : Int) : DRule := ⟨decide (e.n = 0), decide (e.name = ⟨#[]⟩), decide (e.op = 0), n, n, 0⟩
def leafE (e : Ex) : DRule :=
  if e.kind = 1 then { nothingE e 0 with number := decide (e.n ≥ 0) }
  else if e.kind = 2 then { nothingE e 0 with number := decide (e.n = 0 ∨ e.n = 1) }
  else if e.kind = 3 then { nothingE e 0 with name := lowF e.name }
  else if e.kind = 4 then { nothingE e 0 with name := highF e.name }
  else if e.kind = 17 then { nothingE e 0 with name := pathF e.name }
  else nothingE e 0
def ofE (e : Ex) : DRule × Bool :=
  if e.kind = 1 ∨ e.kind = 2 ∨ e.kind = 3 ∨ e.kind = 4 ∨ e.kind = 17 then (leafE e, true)
  else if e.kind = 5 then ({ nothingE e 1 with op := decide (e.op = 1 ∨ e.op = 2) }, true)
  else if e.kind = 6 then ({ nothingE e 2 with op := decide (3 ≤ e.op ∧ e.op ≤ 16) }, true)
  else if e.kind = 7 ∨ e.kind = 16 then (nothingE e 3, true)
  else if e.kind = 8 ∨ e.kind = 9 ∨ e.kind = 15 then (nothingE e 2, true)
  else if e.kind = 10 then (nothingE e 1, true)
  else if e.kind = 11 then ({ nothingE e 1 with name := lowF e.name, arms := 1 }, true)
  else if e.kind = 12 then ({ nothingE e e.arms.length with name := lowF e.name, arms := 6 }, true)
  else if e.kind = 13 then (⟨decide (e.n = 0 ∨ e.n = 1), lowF e.name, decide (e.op = 0), e.n, if e.n = 0 then 6 else 7, 0⟩, true)
  else if e.kind = 14 then ({ nothingE e 1 with most := 8 }, true)
  else (⟨false, false, false, 0, 0, 0⟩, false)
noncomputable def partP (e : Ex) : Bool :=
  (ofE e).2 && (ofE e).1.number && (ofE e).1.name && (ofE e).1.op && decide ((ofE e).1.least ≤ e.subs.length) && decide ((e.subs.length : Int) ≤ (ofE e).1.most) && decide ((e.arms.length : Int) ≤ (ofE e).1.arms) && !(decide ((ofE e).1.arms > 0) && decide (e.arms.length = 0))
    && onceB e.arms && e.arms.all armE && (decide (¬ e.kind = 8) || constE (e.subs.headD e))
def numbersE (e : Ex) : Bool := (if e.kind = 5 then decide (1 ≤ e.op ∧ e.op ≤ 2) else if e.kind = 6 then decide (3 ≤ e.op ∧ e.op ≤ 16) else decide (e.op = 0)) && (if e.kind = 1 then decide (0 ≤ e.n) else if e.kind = 2 ∨ e.kind = 13 then decide (e.n = 0 ∨ e.n = 1) else decide (e.n = 0))
def namedE (e : Ex) : Bool := if e.kind = 3 ∨ e.kind = 11 ∨ e.kind = 12 ∨ e.kind = 13 then lowF e.name else if e.kind = 4 then highF e.name else if e.kind = 17 then pathF e.name else decide (e.name = ⟨#[]⟩)
noncomputable def armsE (e : Ex) : Bool := e.arms.all armE && (if e.kind = 11 then decide (e.arms.length = 1) else if e.kind = 12 then decide (1 ≤ e.arms.length ∧ e.arms.length ≤ 6) && onceB e.arms else decide (e.arms.length = 0))
def subsE (e : Ex) : Int × Int :=
  if e.kind = 5 ∨ e.kind = 10 ∨ e.kind = 11 then (1, 1) else if e.kind = 6 ∨ e.kind = 8 ∨ e.kind = 9 ∨ e.kind = 15 then (2, 2) else if e.kind = 7 ∨ e.kind = 16 then (3, 3)
  else if e.kind = 12 then (e.arms.length, e.arms.length) else if e.kind = 13 then (e.n, 6 + e.n) else if e.kind = 14 then (1, 8) else (0, 0)
noncomputable def partE (e : Ex) : Bool := decide (1 ≤ e.kind ∧ e.kind ≤ 17) && numbersE e && namedE e && armsE e && decide ((subsE e).1 ≤ e.subs.length) && decide ((e.subs.length : Int) ≤ (subsE e).2) && (decide (¬ e.kind = 8) || constE (e.subs.headD e))
theorem once0 {l : List ByteArray} (h : l.length = 0) : onceB l = true := onceB_yes (by rw [List.length_eq_zero_iff.1 h]; exact List.nodup_nil)
theorem once1 {l : List ByteArray} (h : l.length = 1) : onceB l = true := by
  match l, h with
  | [x], _ => exact onceB_yes (by simp)
mutual
def depthE : Ex → Nat
  | .mk _ _ _ _ _ s => depthL s + 1
def depthL : List Ex → Nat
  | [] => 0
  | x :: xs => max (depthE x) (depthL xs)
end
theorem depthE_eq (e : Ex) : depthE e = depthL e.subs + 1 := by cases e; simp [depthE, Ex.subs]
def maxL : List Nat → Nat
  | [] => 0
  | x :: l => max x (maxL l)
theorem depthL_append (l m : List Ex) : depthL (l ++ m) = max (depthL l) (depthL m) := by
  induction l with
  | nil => simp [depthL]
  | cons x l ih => simp only [List.cons_append, depthL, ih]; omega
theorem depthL_take {l : List Ex} {k : Nat} {x : Ex} (hx : l[k]? = some x) : depthL (l.take (k + 1)) = max (depthL (l.take k)) (depthE x) := by
  obtain ⟨hk, rfl⟩ := List.getElem?_eq_some_iff.1 hx
  rw [List.take_succ_eq_append_getElem hk, depthL_append]
  simp [depthL]
mutual
theorem depth_le : ∀ (e : Ex), depthE e ≤ (parts e).length
  | .mk _ _ _ _ _ s => by
    have := depthL_le s
    simp only [depthE, parts, List.length_cons]; omega
theorem depthL_le : ∀ (l : List Ex), depthL l ≤ (partsL l).length
  | [] => by simp [depthL]
  | x :: xs => by
    have h1 := depth_le x
    have h2 := depthL_le xs
    simp only [depthL, partsL, List.length_append]; omega
end
def isV (e : Ex) : Bool := decide (e.kind = 3 ∨ e.kind = 11 ∨ e.kind = 12)
def varsE (l : List Ex) : List ByteArray := (l.filter isV).map Ex.name
theorem varsE_step {l : List Ex} {k : Nat} {x : Ex} (hx : l[k]? = some x) : varsE (l.take (k + 1)) = varsE (l.take k) ++ (if isV x = true then [x.name] else []) := by
  obtain ⟨hk, rfl⟩ := List.getElem?_eq_some_iff.1 hx
  unfold varsE
  rw [List.take_succ_eq_append_getElem hk, List.filter_append, List.map_append]
  congr 1
  by_cases h : isV l[k] = true <;> simp [h]
theorem varsE_le (l : List Ex) : (varsE l).length ≤ l.length := by unfold varsE; rw [List.length_map]; exact List.length_filter_le _ _
noncomputable def rightE (e : Ex) : Bool := decide ((parts e).length ≤ 60) && decide (depthE e ≤ 12) && (parts e).all partE
set_option maxHeartbeats 4000000 in
theorem part_same (e : Ex) : partP e = partE e := by
  unfold partP partE
  by_cases h : 1 ≤ e.kind ∧ e.kind ≤ 17
  · have : e.kind = 1 ∨ e.kind = 2 ∨ e.kind = 3 ∨ e.kind = 4 ∨ e.kind = 5 ∨ e.kind = 6 ∨ e.kind = 7 ∨ e.kind = 8 ∨ e.kind = 9 ∨ e.kind = 10 ∨ e.kind = 11 ∨ e.kind = 12 ∨ e.kind = 13 ∨ e.kind = 14 ∨ e.kind = 15 ∨ e.kind = 16 ∨ e.kind = 17 := by omega
    rcases this with h | h | h | h | h | h | h | h | h | h | h | h | h | h | h | h | h
    all_goals
      rw [Bool.eq_iff_iff]
      simp only [ofE, leafE, nothingE, numbersE, namedE, armsE, subsE, h]
      have o0 := @once0 e.arms
      have o1 := @once1 e.arms
      simp
      first | (done) | (constructor <;> (intro hh; simp_all <;> omega)) | skip
    · intro hc
      rw [← List.length_eq_zero_iff]
      constructor
      · rintro ⟨⟨⟨⟨⟨⟨⟨a, b⟩, c⟩, d⟩, f⟩, g⟩, _⟩, j⟩
        exact ⟨⟨⟨⟨⟨c, a⟩, b⟩, j, g⟩, d⟩, f⟩
      · rintro ⟨⟨⟨⟨⟨c, a⟩, b⟩, j, g⟩, d⟩, f⟩
        exact ⟨⟨⟨⟨⟨⟨⟨a, b⟩, c⟩, d⟩, f⟩, g⟩, o0 g⟩, j⟩
    · rw [← List.length_eq_zero_iff]
      constructor
      · rintro ⟨⟨⟨⟨⟨⟨⟨⟨a, b⟩, c⟩, d⟩, f⟩, g⟩, g2⟩, _⟩, j⟩
        exact ⟨⟨⟨⟨⟨c, a⟩, b⟩, j, by omega⟩, d⟩, f⟩
      · rintro ⟨⟨⟨⟨⟨c, a⟩, b⟩, j, g⟩, d⟩, f⟩
        exact ⟨⟨⟨⟨⟨⟨⟨⟨a, b⟩, c⟩, d⟩, f⟩, by omega⟩, by omega⟩, o1 g⟩, j⟩
    · rw [← List.length_eq_zero_iff]
      constructor
      · rintro ⟨⟨⟨⟨⟨⟨⟨⟨a, b⟩, c⟩, d⟩, f⟩, g⟩, g2⟩, i⟩, j⟩
        exact ⟨⟨⟨⟨⟨c, a⟩, b⟩, j, ⟨by omega, by omega⟩, i⟩, d⟩, f⟩
      · rintro ⟨⟨⟨⟨⟨c, a⟩, b⟩, j, ⟨g1, g2⟩, i⟩, d⟩, f⟩
        exact ⟨⟨⟨⟨⟨⟨⟨⟨a, b⟩, c⟩, d⟩, f⟩, by omega⟩, by omega⟩, i⟩, j⟩
  · have h2 : (ofE e).2 = false := by
      unfold ofE
      repeat' (first | rw [if_neg (by omega)] | rfl)
    rw [h2, decide_eq_false h]
    simp
theorem k0_at {l : List Ex} {x : Ex} (hx : l[((0 : Int)).toNat]? = some x) : k0 l = x.kind := by
  match l with
  | y :: l => simp at hx; rw [hx]; rfl
theorem head_at {l : List Ex} {x z : Ex} (hx : l[((0 : Int)).toNat]? = some x) : l.headD z = x := by
  match l with
  | y :: l => simp at hx; rw [hx]; rfl
theorem sub_small {e x : Ex} (hx : x ∈ e.subs) (h : (parts e).length ≤ 100000) : (parts x).length ≤ 100000 := by
  obtain ⟨i, hi, rfl⟩ := List.getElem_of_mem hx
  have := parts_le hi
  rw [parts_eq e] at h
  simp at h
  omega
theorem max_step {l : List Ex} {i : Nat} {x : Ex} (hx : l[i]? = some x) : (if ((depthE x : Nat) : Int) > ((depthL (l.take i) : Nat) : Int) then ((depthE x : Nat) : Int) else ((depthL (l.take i) : Nat) : Int)) = ((depthL (l.take (i + 1)) : Nat) : Int) := by
  rw [depthL_take hx]
  split <;> omega
theorem parts_len {e : Ex} {i : Nat} {x : Ex} (hx : e.subs[i]? = some x) : (partsL (e.subs.take (i + 1))).length = (partsL (e.subs.take i)).length + (parts x).length := by
  obtain ⟨hi, rfl⟩ := List.getElem?_eq_some_iff.1 hx
  rw [partsL_take hi, List.length_append]
abbrev exBx (e : Ex) : Blk := .cells 49 [.i e.kind, .i e.n, .s e.name, .i e.op, .lst 1 (e.arms.map AV.s) none, .lst 6 (e.subs.map Ex.enc) none]
end Go.Proofs.YtipcmpkihhfhcaaGreatDoor

namespace Go.Proofs.YtipcmpkihhfhcaaGreatDoor
open Go.Abs
set_option maxRecDepth 20000
set_option linter.unusedSimpArgs false
set_option linter.unusedVariables false
set_option maxHeartbeats 1000000
attribute [local irreducible] vc vcOps vcStep vcGuard prK hrK gK gsK brK callK ElemK SeqK BlockK ScopeK OpsK CallK LoopK LoopGo finPost ACall PCall PCallE BCall vqOps vqStep vqGuard qrK heK pcK gqK gqsK QOpsK qcallK DrawK
theorem mem_partsL {l : List Ex} {y : Ex} (h : y ∈ partsL l) : ∃ x ∈ l, y ∈ parts x := by
  induction l with
  | nil => simp [partsL] at h
  | cons x l ih =>
    simp only [partsL, List.mem_append] at h
    rcases h with h | h
    · exact ⟨x, by simp, h⟩
    · obtain ⟨z, hz, hy⟩ := ih h
      exact ⟨z, by simp [hz], hy⟩
theorem sub_partsL {l : List Ex} {x y : Ex} (hx : x ∈ l) (h : y ∈ parts x) : y ∈ partsL l := by
  induction l with
  | nil => simp at hx
  | cons z l ih =>
    simp only [partsL, List.mem_append]
    rcases List.mem_cons.1 hx with rfl | hx
    · exact .inl h
    · exact .inr (ih hx)
theorem sub_parts {e x y : Ex} (hx : x ∈ e.subs) (h : y ∈ parts x) : y ∈ parts e := by
  rw [parts_eq]
  exact List.mem_cons_of_mem _ (sub_partsL hx h)
theorem self_parts (e : Ex) : e ∈ parts e := by rw [parts_eq]; simp
theorem partE_len {e : Ex} (h : partE e = true) : (subsE e).1 ≤ e.subs.length ∧ (e.subs.length : Int) ≤ (subsE e).2 ∧ (e.kind = 8 → constE (e.subs.headD e) = true) := by
  unfold partE at h
  simp only [Bool.and_eq_true, Bool.or_eq_true, decide_eq_true_eq] at h
  refine ⟨h.1.1.2, h.1.2, fun hk => ?_⟩
  rcases h.2 with h2 | h2
  · exact absurd hk h2
  · exact h2
theorem leaf_subs {e : Ex} (h : partE e = true) (hk : e.kind = 1 ∨ e.kind = 2 ∨ e.kind = 4) : e.subs = [] := by
  have h2 := (partE_len h).2.1
  have h0 : (subsE e).2 = 0 := by rcases hk with q | q | q <;> simp [subsE, q]
  exact List.length_eq_zero_iff.1 (by omega)
theorem lit_none {e : Ex} (hr : ∀ x ∈ parts e, partE x = true) (h : litE e = true) : ∀ y ∈ parts e, ¬ isV y = true := by
  have he := hr e (self_parts e)
  unfold litE at h
  split at h
  · rename_i h5
    simp only [Bool.and_eq_true, decide_eq_true_eq] at h
    match hs : e.subs, h with
    | [z], h =>
      have hz : z.kind = 1 := h.2
      have hzz : z.subs = [] := leaf_subs (hr z (sub_parts (by simp [hs]) (self_parts z))) (.inl hz)
      intro y hy
      rw [parts_eq, hs] at hy
      simp only [partsL, parts_eq z, hzz, List.append_nil, List.mem_cons, List.not_mem_nil, or_false] at hy
      rcases hy with rfl | rfl
      · simp [isV, h5]
      · simp [isV, hz]
    | [], h => simp at h
    | _ :: _ :: _, h => simp at h
  · simp only [decide_eq_true_eq] at h
    intro y hy
    rw [parts_eq, leaf_subs he h] at hy
    simp only [partsL, List.mem_cons, List.not_mem_nil, or_false] at hy
    subst hy
    simp [isV]
    omega
theorem const_none {e : Ex} (hr : ∀ x ∈ parts e, partE x = true) (h : constE e = true) : ∀ y ∈ parts e, ¬ isV y = true := by
  unfold constE at h
  split at h
  · rename_i h14
    intro y hy
    rw [parts_eq] at hy
    rcases List.mem_cons.1 hy with rfl | hy
    · simp [isV, h14]
    · obtain ⟨x, hx, hy⟩ := mem_partsL hy
      exact lit_none (fun z hz => hr z (sub_parts hx hz)) (List.all_eq_true.1 h x hx) y hy
  · exact lit_none hr h
theorem depth_mem {l : List Ex} {x : Ex} (hx : x ∈ l) : depthE x ≤ depthL l := by
  induction l with
  | nil => simp at hx
  | cons y l ih =>
    simp only [depthL]
    rcases List.mem_cons.1 hx with rfl | hx
    · omega
    · have := ih hx; omega
theorem len_mem {l : List Ex} {x : Ex} (hx : x ∈ l) : (parts x).length ≤ (partsL l).length := by
  obtain ⟨k, hk, rfl⟩ := List.getElem_of_mem hx
  exact parts_le hk
theorem part_in : ∀ (e x : Ex), x ∈ parts e → (∀ y ∈ parts x, y ∈ parts e) ∧ (parts x).length ≤ (parts e).length ∧ depthE x ≤ depthE e := by
  intro e
  induction e using Ex.ind with
  | _ e ih =>
  intro x hx
  rw [parts_eq] at hx
  rcases List.mem_cons.1 hx with rfl | hx
  · exact ⟨fun y h => h, Nat.le_refl _, Nat.le_refl _⟩
  · obtain ⟨z, hz, hxz⟩ := mem_partsL hx
    obtain ⟨h1, h2, h3⟩ := ih z hz x hxz
    have h4 := len_mem hz
    have h5 := depth_mem hz
    refine ⟨fun y hy => sub_parts hz (h1 y hy), ?_, ?_⟩
    · rw [parts_eq e, List.length_cons]; omega
    · rw [depthE_eq e]; omega
theorem right_part {e x : Ex} (h : rightE e = true) (hx : x ∈ parts e) : rightE x = true := by
  obtain ⟨h1, h2, h3⟩ := part_in e x hx
  unfold rightE at *
  simp only [Bool.and_eq_true, decide_eq_true_eq] at *
  exact ⟨⟨by omega, by omega⟩, List.all_eq_true.2 fun y hy => List.all_eq_true.1 h.2 y (h1 y hy)⟩
theorem ok_part {e x : Ex} (h : okE e) (hx : x ∈ parts e) : okE x := by
  obtain ⟨h1, h2, h3⟩ := part_in e x hx
  exact ⟨Nat.le_trans h2 h.1, fun y hy => h.2 y (h1 y hy)⟩
end Go.Proofs.YtipcmpkihhfhcaaGreatDoor

/-
  A range over a function: what a call of yield does, out of a walk through the loop's body.
-/
namespace Go.Abs
open Go.RowKit

/-- The slots with a loop's variables set. -/
def setPs (s : List AV) : List Tmp → List AV → List AV
  | t :: ts, v :: vs => setPs (s.set t v) ts vs
  | _, _ => s

section
variable {P : Program} {T : TypeId → TI} {S S' : Addr → Prop} {φ φ' : Nat → Loc} {h h' : List Blk} {w w' : World}

theorem setPs_list : ∀ (ps : List Tmp) {s args : List AV} {tmps : Array Value} {vs : List Value}, CAll S w φ s tmps → CAll S w φ args vs.toArray → CAll S w φ (setPs s ps args) ((ps.zip vs).foldl (fun t p => t.setIfInBounds p.1 p.2) tmps)
  | [], s, args, tmps, vs, hs, _ => by simpa [setPs] using hs
  | t :: ps, s, [], tmps, vs, hs, ha => by
    have : vs = [] := List.length_eq_zero_iff.1 (by simpa using ha.1)
    subst this
    simpa [setPs] using hs
  | t :: ps, s, v :: args, tmps, [], hs, ha => by have := ha.1; simp at this
  | t :: ps, s, v :: args, tmps, u :: vs, hs, ha => by
    simp only [setPs, List.zip_cons_cons, List.foldl_cons]
    refine setPs_list ps (hs.set t (ha.2 0 v u rfl rfl)) ⟨by have := ha.1; simpa using this, fun i x y hx hy => ha.2 (i + 1) x y (by simpa using hx) (by simpa using hy)⟩
theorem setPs_all {ps : Array Tmp} {s args : List AV} {tmps vs : Array Value} (hs : CAll S w φ s tmps) (ha : CAll S w φ args vs) : CAll S w φ (setPs s ps.toList args) ((ps.zip vs).foldl (fun t (p, v) => t.setIfInBounds p v) tmps) := by
  have := setPs_list ps.toList (vs := vs.toList) hs (by simpa using ha)
  rw [← Array.foldl_toList, Array.toList_zip]
  exact this

/-- A loop's record is turned. -/
theorem lp_put {k l : Nat} {st : LoopState} {pe : Option Code} {ps : Array Tmp} {x y : Code} {s : List AV} (hr : R S φ h w) (hk : h[k]? = some (.lp l st pe ps x y s)) :
    ∃ rec : Loop, w.heap[l]? = some (.loop rec) ∧ rec.state = st ∧ rec.pending = pe ∧ rec.params = ps ∧ rec.assign = x ∧ rec.body = y ∧ CAll S w φ s rec.tmps ∧
      ∀ st' pe', R S (upd φ k (.obj l)) (h.set k (.lp l st' pe' ps x y s)) (w.putObj l (.loop { rec with state := st', pending := pe' })) ∧ Ext S φ h w S (upd φ k (.obj l)) (h.set k (.lp l st' pe' ps x y s)) (w.putObj l (.loop { rec with state := st', pending := pe' })) := by
  obtain ⟨g1, fn, tmps, D, g2, g3, g4⟩ := hr.blk _ _ hk
  have hlt := (Array.getElem?_eq_some_iff.1 g2).1
  have hown : blockOf (φ k) (.lp l st pe ps x y s) = some l := by rw [g1]; rfl
  have hoth : ∀ (o : Obj) b, b ≠ l → (w.putObj l o).heap[b]? = w.heap[b]? := fun o b hb => World.putObj_heap_other hb
  have hle : ∀ j, (φ j).le (upd φ k (.obj l) j) := fun j => by
    by_cases e : j = k
    · subst e; rw [upd_same, g1]; rfl
    · rw [upd_other _ e]; exact Loc.le_refl _
  refine ⟨_, g2, rfl, rfl, rfl, rfl, rfl, g3, fun st' pe' => ?_⟩
  have hcell : ∀ (o : Obj) c, S c → (w.putObj l o).cell? c = w.cell? c := fun o c hc => cell_of_heap (hoth o c.block (g4 c hc))
  exact hr.put (k := k) (x := .lp l st' pe' ps x y s) (l := .obj l) (S' := S) hk rfl rfl rfl (by simp) (fun b _ hne => hoth _ b (fun e => hne (by rw [hown, e]))) (fun _ h => h) (hcell _) (fun _ h => .inl h) (fun c hc => by have := hr.bnd c hc; simpa using this) (by rw [g1]; rfl)
    ⟨upd_same _ _ _, fn, tmps, D, World.putObj_heap_same hlt, g3.mono (fun _ h => h) (hcell _) hle, g4⟩ (fun b hb => by cases hb; exact .inr hown)

/-- Behind a round's body. -/
def roundB (l k : Nat) (ps : Array Tmp) (x y : Code) (s : List AV) (K : AV → List Blk → Prop) : Post := fun e _ h2 =>
  h2[k]? = some (.lp l .busy none ps x y s) ∧ match e with
    | .normal => K (.raw (.bool true)) (h2.set k (.lp l .ready none ps x y s))
    | .ret => K (.raw (.bool false)) (h2.set k (.lp l .done (some .ret) ps x y s))
    | .exit id => K (.raw (.bool false)) (h2.set k (.lp l .done (some (.exit id)) ps x y s))
    | .goto _ => False
/-- Behind a round's assignments. -/
def roundA (P : Program) (T : TypeId → TI) (l k : Nat) (ps : Array Tmp) (x y : Code) (s : List AV) (K : AV → List Blk → Prop) : Post := fun e s1 h1 => match e with
  | .normal => h1[k]? = some (.lp l .ready none ps x y s) ∧ vc P T y (roundB l k ps x y s K) s1 (h1.set k (.lp l .busy none ps x y s))
  | _ => False

set_option maxHeartbeats 1000000 in
/-- **What yield does.** -/
theorem ycall_of_vc (hT : TabOK P T) {l k : Nat} {ps : Array Tmp} {x y : Code} {s args : List AV} {K : AV → List Blk → Prop} (hk : h[k]? = some (.lp l .ready none ps x y s)) (hl : args.length = ps.size) (hx : noR x = true) (hy : noR y = true)
    (hv : vc P T x (roundA P T l k ps x y s K) (setPs s ps.toList args) h) : YCall P l args h K := by
  intro S φ w vs hr hargs
  obtain ⟨rec, g1, g2, g3, g4, g5, g6, g7, _⟩ := lp_put hr hk
  have hrun := run_yield (P := P) (args := vs) g1 (by rw [g4, hargs.1, hl])
  refine ⟨_, _, _, _, hrun, roundIn_of_wpIn trivial ?_⟩
  rw [g4, g5, g6]
  refine wpIn_mono (vc_soundIn (ro := some l) (n0 := w.heap.size) hT x (fun _ => hx) hv (MK.nil (Nat.le_refl _)) (setPs_all g7 hargs) hr) ?_
  rintro e a1 w1 ⟨xx, hxx, s1, h1, S1, φ1, hK1, hd1, hs1, hr1, he1⟩
  cases e <;> simp only [exitOf] at hxx <;> cases hxx
  · obtain ⟨hk1, hv1⟩ := hK1
    obtain ⟨rec1, f1, f2, f3, f4, f5, f6, f7, f8⟩ := lp_put hr1 hk1
    have hbr := run_beginRound (P := P) f1 f2
    have e1 : ({ rec1 with state := .busy } : Loop) = { rec1 with state := .busy, pending := none } := by rw [← f3]
    rw [e1] at hbr
    obtain ⟨m1, m2⟩ := f8 .busy none
    refine ⟨_, hbr, ?_⟩
    refine wpIn_mono (vc_soundIn (ro := some l) (n0 := w.heap.size) hT y (fun _ => hy) hv1 (hd1.ext m2) (m2.CAll hs1) m1) ?_
    rintro e a2 w2 ⟨xx, hxx, s2, h2, S2, φ2, hK2, hd2, hs2, hr2, he2⟩
    obtain ⟨hk2, hK2⟩ := hK2
    obtain ⟨rec2, p1, p2, p3, p4, p5, p6, p7, p8⟩ := lp_put hr2 hk2
    have hee := (he1.trans m2).trans he2
    have fin : ∀ (jump : Option Code), ∃ w3, (Instr.endRound l jump).run P w2 = .ok (.bool jump.isNone) w3 ∧ R S2 (upd φ2 k (.obj l)) (h2.set k (.lp l (if jump.isNone then .ready else .done) jump ps x y s)) w3 ∧ Ext S φ h w S2 (upd φ2 k (.obj l)) (h2.set k (.lp l (if jump.isNone then .ready else .done) jump ps x y s)) w3 := fun jump => by
      obtain ⟨n1, n2⟩ := p8 (if jump.isNone then .ready else .done) jump
      exact ⟨_, run_endRound (P := P) jump p1, n1, hee.trans n2⟩
    cases e <;> simp only [exitOf] at hxx <;> cases hxx
    · obtain ⟨w3, q1, q2, q3⟩ := fin none
      exact ⟨_, w3, q1, _, _, _, S2, _, rfl, hK2, .raw _, q2, q3⟩
    · rename_i id
      obtain ⟨w3, q1, q2, q3⟩ := fin (some (.exit id))
      exact ⟨_, w3, q1, _, _, _, S2, _, rfl, hK2, .raw _, q2, q3⟩
    · exact hK2.elim
    · obtain ⟨w3, q1, q2, q3⟩ := fin (some .ret)
      exact ⟨_, w3, q1, _, _, _, S2, _, rfl, hK2, .raw _, q2, q3⟩
  · exact hK1.elim
  · exact hK1.elim
  · exact hK1.elim
end
end Go.Abs

/-
  The steps of an order.
-/
namespace Go.Abs
open Go
theorem blk_app {h r : List Blk} {k : Nat} {cs : List AV} (hb : blkCells h k = some cs) : blkCells (h ++ r) k = some cs := by
  obtain ⟨t, ht⟩ := blk_at hb
  unfold blkCells
  rw [at_old ht]
abbrev AV.n (n : Nat) : AV := .raw (.int .i64 (n : Int))
def okAt (N H : List (List ByteArray)) (pl : List Bool) (i : Nat) (a : Int) : Prop :=
  (a = -1 ∧ ∀ j, j < i → readyF N H pl j = false) ∨ ∃ k : Nat, k < i ∧ a = k ∧ readyF N H pl k = true ∧ ∀ j, j < k → readyF N H pl j = false
section
variable {N H : List (List ByteArray)} {pl : List Bool} {i : Nat} {a : Int}
theorem okAt.zero : okAt N H pl 0 (-1) := .inl ⟨rfl, fun j h => by omega⟩
theorem okAt.hit (h : okAt N H pl i a) (ha : a < 0) (hr : readyF N H pl i = true) : okAt N H pl (i + 1) (i : Int) := by
  rcases h with ⟨_, h⟩ | ⟨k, _, h, _⟩
  · exact .inr ⟨i, by omega, rfl, hr, h⟩
  · omega
theorem okAt.miss (h : okAt N H pl i a) (ha : a < 0) (hr : readyF N H pl i = false) : okAt N H pl (i + 1) a := by
  rcases h with ⟨h0, h⟩ | ⟨k, _, h, _⟩
  · refine .inl ⟨h0, fun j hj => ?_⟩
    by_cases e : j = i
    · subst e; exact hr
    · exact h j (by omega)
  · omega
theorem okAt.none_ (h : okAt N H pl i a) (ha : a < 0) (hi : N.length ≤ i) : pickF N H pl 0 N.length = none := by
  rcases h with ⟨_, h⟩ | ⟨k, _, h, _⟩
  · exact pick_none fun j _ hj => h j (by omega)
  · omega
theorem okAt.got (h : okAt N H pl i a) (ha : ¬ a < 0) (hi : i ≤ N.length) : ∃ k : Nat, a = k ∧ k < N.length ∧ pickF N H pl 0 N.length = some k ∧ pl[k]? = some false := by
  rcases h with ⟨h, _⟩ | ⟨k, h1, h2, h3, h4⟩
  · omega
  · exact ⟨k, h2, by omega, pick_some (by omega) (by omega) (fun j _ hj => h4 j hj) h3, ready_pl h3⟩
theorem order_none {k : Nat} {out : List Nat} (h : pickF N H pl 0 N.length = none) (hk : 0 < k) : orderG N H k pl out = (out, false) := by
  obtain ⟨m, rfl⟩ : ∃ m, k = m + 1 := ⟨k - 1, by omega⟩
  rw [orderG, h]
theorem order_some {k j : Nat} {out : List Nat} (h : pickF N H pl 0 N.length = some j) (hk : 0 < k) : orderG N H k pl out = orderG N H (k - 1) (pl.set j true) (out ++ [j]) := by
  obtain ⟨m, rfl⟩ : ∃ m, k = m + 1 := ⟨k - 1, by omega⟩
  rw [orderG, h]
  rfl
theorem not_next {p : Nat → Prop} (h : ∀ j, j < i → p j) (hi : p i) : ∀ j, j < i + 1 → p j := fun j hj => by
  by_cases e : j = i
  · subst e; exact hi
  · exact h j (by omega)
theorem dropB' {pl : List Bool} {i : Nat} {b : Bool} (h : pl[i]? = some b) : pl.drop i = b :: pl.drop (i + 1) := by
  obtain ⟨hi, rfl⟩ := List.getElem?_eq_some_iff.1 h
  exact List.drop_eq_getElem_cons hi
theorem set_b (pl : List Bool) (k : Nat) (b : Bool) : (pl.map AV.b).set k (AV.b b) = (pl.set k b).map AV.b := List.map_set.symm
theorem set_b' (pl : List Bool) (k : Nat) (b : Bool) : (pl.map AV.b).set k (.raw (.bool b)) = (pl.set k b).map AV.b := List.map_set.symm
theorem any_waits (N : List (List ByteArray)) (pl : List Bool) (l : List ByteArray) : (l.any fun s => decide (((opn s N pl : Nat) : Int) > 0)) = l.any fun s => waitsF N pl s := by
  have : (fun s => decide (((opn s N pl : Nat) : Int) > 0)) = fun s => waitsF N pl s := by
    funext s
    simp only [waitsF, decide_eq_decide]
    omega
  rw [this]
theorem ready_any {hs : List ByteArray} (hp : pl[i]? = some false) (h : H[i]? = some hs) {b : Bool} (hb : (hs.any fun s => waitsF N pl s) = b) : readyF N H pl i = !b := by
  cases b with
  | true =>
    obtain ⟨s, hs, hw⟩ := List.any_eq_true.1 hb
    exact ready_wait h hs hw
  | false =>
    refine ready_yes hp h fun s hs => ?_
    have := List.any_eq_false.1 hb s hs
    simpa using this
end
theorem order_lens {N H : List (List ByteArray)} : ∀ (k : Nat) (pl : List Bool) (out : List Nat), (∀ j ∈ out, j < N.length) → ∀ j ∈ (orderG N H k pl out).1, j < N.length
  | 0, _, _, h => h
  | k + 1, pl, out, h => by
    rw [orderG]
    cases hp : pickF N H pl 0 N.length with
    | none => exact h
    | some i =>
      refine order_lens k _ _ fun j hj => ?_
      rcases List.mem_append.1 hj with q | q
      · exact h j q
      · simp at q; subst q; have := (pick_lt hp).1; omega
theorem order_len {N H : List (List ByteArray)} : ∀ (k : Nat) (pl : List Bool) (out : List Nat), (orderG N H k pl out).1.length ≤ out.length + k
  | 0, _, _ => by simp [orderG]
  | k + 1, pl, out => by
    rw [orderG]
    cases pickF N H pl 0 N.length with
    | none => dsimp only; omega
    | some i => have := order_len (N := N) (H := H) k (pl.set i true) (out ++ [i]); dsimp only; simp at this; omega
end Go.Abs
