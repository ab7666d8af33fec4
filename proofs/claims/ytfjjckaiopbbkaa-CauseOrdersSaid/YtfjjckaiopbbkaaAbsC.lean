/-
  The abstract layer, part C: what an operation that only reads comes to.
-/
import Derived.Test.YtfjjckaiopbbkaaAbsB
namespace Go.Abs
open Go.RowKit

/-- What a reading operation comes to: a value; a value where p holds; a value, with a fact p that then is known; an element of a list. -/
inductive PR where
  | ok (v : AV)
  | side (p : Prop) (v : AV)
  | fact (p : Prop) (v : AV)
  | elem (i : Int) (es : List AV) (f : AV → AV)
  | bad

def takeN : Nat → List AV → Option (List AV)
  | 0, _ => some []
  | n + 1, c :: cs => match takeN n cs with | some l => some (c :: l) | none => none
  | _ + 1, [] => none

theorem takeN_eq : ∀ {n : Nat} {cs l : List AV}, takeN n cs = some l → l.length = n ∧ ∀ i, i < n → l[i]? = cs[i]?
  | 0, _, _, h => by cases h; exact ⟨rfl, fun i hi => by omega⟩
  | n + 1, c :: cs, l, h => by
    simp only [takeN] at h
    split at h
    · rename_i l' hl
      cases h
      obtain ⟨h1, h2⟩ := takeN_eq hl
      refine ⟨by simp [h1], fun i hi => ?_⟩
      cases i with
      | zero => rfl
      | succ i => simpa using h2 i (by omega)
    · cases h
  | _ + 1, [], _, h => by simp [takeN] at h

/-- What is loaded from cells. -/
def loadAV (x : TI) (cs : List AV) : PR :=
  match x.agg with
  | true => match takeN x.size cs with | some l => .ok (.agg l) | none => .bad
  | false => match cs with | c :: _ => .ok c | [] => .bad

/-- The cells of a block. -/
def blkCells (h : List Blk) (k : Nat) : Option (List AV) :=
  match h[k]? with
  | some (.cells _ cs) => some cs
  | _ => none

def kEq : IntKind → IntKind → Bool
  | .i8, .i8 | .i16, .i16 | .i32, .i32 | .i64, .i64 | .u8, .u8 | .u16, .u16 | .u32, .u32 | .u64, .u64 => true
  | _, _ => false

theorem kEq_eq {a b : IntKind} (h : kEq a b = true) : a = b := by cases a <;> cases b <;> simp_all [kEq]

def intAV (op : BinOp) (k : IntKind) (a b : Int) : PR :=
  match op with
  | .add => .ok (.raw (.int k (k.wrap (a + b))))
  | .sub => .ok (.raw (.int k (k.wrap (a - b))))
  | .mul => .ok (.raw (.int k (k.wrap (a * b))))
  | .eql => .ok (.raw (.bool (a == b)))
  | .neq => .ok (.raw (.bool (a != b)))
  | .lss => .ok (.raw (.bool (decide (a < b))))
  | .leq => .ok (.raw (.bool (decide (a ≤ b))))
  | .gtr => .ok (.raw (.bool (decide (a > b))))
  | .geq => .ok (.raw (.bool (decide (a ≥ b))))
  | _ => .bad

def strAV (op : BinOp) (a b : ByteArray) : PR :=
  match op with
  | .add => .side (a.size + b.size ≤ 9223372036854775807) (.raw (.string (a ++ b)))
  | .eql => .ok (.raw (.bool (a.toList == b.toList)))
  | .neq => .ok (.raw (.bool !(a.toList == b.toList)))
  | _ => .bad

def boolAV (op : BinOp) (a b : Bool) : PR :=
  match op with
  | .eql => .ok (.raw (.bool (a == b)))
  | .neq => .ok (.raw (.bool !(a == b)))
  | _ => .bad

def binAV (x : TI) (op : BinOp) : AV → AV → PR
  | .raw (.int k a), .raw (.int k' b) => match kEq k k' with | true => intAV op k a b | false => .bad
  | .raw (.string a), .raw (.string b) => strAV op a b
  | .raw (.bool a), .raw (.bool b) => match x.kind with | .bool => boolAV op a b | _ => .bad
  | _, _ => .bad

def sliceAV (low high : Option AV) (sz : Nat) (es : List AV) : PR :=
  match low, high with
  | none, none => .ok (.lst sz es none)
  | some (.raw (.int _ l)), none => .side (0 ≤ l ∧ l ≤ es.length) (.lst sz (es.drop l.toNat) none)
  | none, some (.raw (.int _ h)) => .side (0 ≤ h ∧ h ≤ es.length) (.lst sz (es.take h.toNat) none)
  | some (.raw (.int _ l)), some (.raw (.int _ h)) => .side (0 ≤ l ∧ l ≤ h ∧ h ≤ es.length) (.lst sz ((es.take h.toNat).drop l.toNat) none)
  | _, _ => .bad

def sliceStr (low high : Option AV) (b : ByteArray) : PR :=
  match low, high with
  | none, none => .ok (.raw (.string b))
  | some (.raw (.int _ l)), none => .side (0 ≤ l ∧ l ≤ b.size) (.raw (.string (b.extract l.toNat b.size)))
  | none, some (.raw (.int _ h)) => .side (0 ≤ h ∧ h ≤ b.size) (.raw (.string (b.extract 0 h.toNat)))
  | some (.raw (.int _ l)), some (.raw (.int _ h)) => .side (0 ≤ l ∧ l ≤ h ∧ h ≤ b.size) (.raw (.string (b.extract l.toNat h.toNat)))
  | _, _ => .bad

def putAt (cells : List AV) (off : Nat) : List AV → List AV
  | [] => cells
  | c :: cs => putAt (cells.set off c) (off + 1) cs

/-- The parts of a composite put into its cells. -/
def fillAV (place : Nat → Option (Nat × Nat)) (cells : List AV) : List (Nat × AV) → Option (List AV)
  | [] => some cells
  | (i, v) :: rest =>
    match place i with
    | none => none
    | some (off, size) =>
      match decide (v.cells.length = size), decide (off + size ≤ cells.length), v.cells.all AV.one with
      | true, true, true => fillAV place (putAt cells off v.cells) rest
      | _, _, _ => none

def AV.tupFree : AV → Bool
  | .tup _ => false
  | .raw (.tuple _) => false
  | _ => true

/-- Equality of two values of a type, as far as it is told. -/
def eqFs (E : TypeId → AV → AV → Option Bool) (T : TypeId → TI) (cs ds : List AV) : List (Nat × TypeId) → Option Bool
  | [] => some true
  | f :: fs => match (T f.2).kind with
    | .other => none
    | _ => match loadAV (T f.2) (cs.drop f.1), loadAV (T f.2) (ds.drop f.1) with
      | .ok x, .ok y => match E f.2 x y, eqFs E T cs ds fs with
        | some p, some q => some (p && q)
        | _, _ => none
      | _, _ => none

def eqV (T : TypeId → TI) : Nat → TypeId → AV → AV → Option Bool
  | 0, _, _, _ => none
  | d + 1, t, a, b => match (T t).kind, a, b with
    | .int _, .raw (.int k x), .raw (.int k' y) => match kEq k k' with | true => some (x == y) | false => none
    | .string, .raw (.string x), .raw (.string y) => some (x.toList == y.toList)
    | .bool, .raw (.bool x), .raw (.bool y) => some (x == y)
    | .struct fs, .agg cs, .agg ds => eqFs (eqV T d) T cs ds fs
    | _, _, _ => none

def isAggAV : AV → Bool
  | .agg _ => true
  | .raw (.agg vs) => vs.toList.all fun v => v.oneCell'
  | _ => false

def structAV (T : TypeId → TI) (t : TypeId) (op : BinOp) (a b : AV) : PR :=
  match isAggAV a, isAggAV b, eqV T 6 t (.agg a.cells) (.agg b.cells) with
  | true, true, some p => match op with
    | .eql => .ok (.raw (.bool p))
    | .neq => .ok (.raw (.bool !p))
    | _ => .bad
  | _, _, _ => .bad

/-- A reading operation. -/
def stepPure (T : TypeId → TI) (s : List AV) (h : List Blk) : Op → PR
  | .move x | .assign x => .ok (opd s x)
  | .pick c a b => match opd s c with
    | .raw (.bool t) => match opd s a, opd s b with
      | .raw (.bool x), .raw (.bool y) => .ok (.raw (.bool (bif t then x else y)))
      | x, y => match t with
        | true => .ok x
        | false => .ok y
    | _ => .bad
  | .load t a => match (T t).kind with
    | .other => .bad
    | _ => match opd s a with
      | .eptr cs => loadAV (T t) cs
      | .ptr k off => match blkCells h k with | some cs => loadAV (T t) (cs.drop off) | none => .bad
      | _ => .bad
  | .fieldAddr t x f => match (T t).kind with
    | .struct fs => match fs[f]? with
      | some (off, _) => match opd s x with
        | .eptr cs => .ok (.eptr (cs.drop off))
        | .ptr k o => .ok (.ptr k (o + off))
        | _ => .bad
      | none => .bad
    | _ => .bad
  | .field t x f => match (T t).kind with
    | .struct fs => match fs[f]? with
      | some (off, ft) => match (T ft).kind with
        | .other => .bad
        | _ => match opd s x with
          | .agg cs => loadAV (T ft) (cs.drop off)
          | _ => .bad
      | none => .bad
    | _ => .bad
  | .indexAddr t x i => match (T t).kind with
    | .slice e => match (T e).kind with
      | .other => .bad
      | _ => match opd s x, opd s i with
        | .lst sz es _, .raw (.int _ n) => match decide ((T e).size = sz) with | true => .elem n es (fun v => .eptr v.cells) | false => .bad
        | .sl sz k off len, .raw (.int _ n) => match decide ((T e).size = sz) with | true => .side (0 ≤ n ∧ n < len) (.ptr k (off + n.toNat * sz)) | false => .bad
        | _, _ => .bad
    | .array n e => match (T e).kind with
      | .other => .bad
      | _ => match opd s x, opd s i with
        | .eptr cs, .raw (.int _ j) => .side (0 ≤ j ∧ j < n) (.eptr (cs.drop (j.toNat * (T e).size)))
        | .ptr k off, .raw (.int _ j) => .side (0 ≤ j ∧ j < n) (.ptr k (off + j.toNat * (T e).size))
        | _, _ => .bad
    | _ => .bad
  | .index t x i => match (T t).kind, opd s x, opd s i with
    | .string, .raw (.string b), .raw (.int _ n) => .side (0 ≤ n ∧ n < b.size) (.raw (.int .u8 (b.data.toList.getD n.toNat 0).toNat))
    | _, _, _ => .bad
  | .binOp op t x y _ => match (T t).kind with
    | .struct _ => structAV T t op (opd s x) (opd s y)
    | _ => binAV (T t) op (opd s x) (opd s y)
  | .unOp op _ x => match op, opd s x with
    | .not, .raw (.bool b) => .ok (.raw (.bool (!b)))
    | .neg, .raw (.int k n) => .ok (.raw (.int k (k.wrap (0 - n))))
    | _, _ => .bad
  | .extract x i => match (opd s x).comps[i]? with
    | some c => .ok c
    | none => .bad
  | .build t parts => match (T t).kind with
    | .struct fs => match fillAV (fun i => match fs[i]? with | some (off, ft) => (match (T ft).kind with | .other => none | _ => some (off, (T ft).size)) | none => none) ((T t).zero.map .raw) (parts.toList.map fun p => (p.1, opd s p.2)) with
      | some cs => .ok (.agg cs)
      | none => .bad
    | _ => .bad
  | .makeFunc fn first captured => .ok (.fn fn (first.toList.map (opd s)) (captured.toList.map (opd s)))
  | .slice t x lo hi none => match (T t).kind with
    | .slice e => match (T e).kind with
      | .other => .bad
      | _ => match opd s x with
        | .lst sz es _ => match decide ((T e).size = sz) with | true => sliceAV (lo.map (opd s)) (hi.map (opd s)) sz es | false => .bad
        | _ => .bad
    | .string => match opd s x with
      | .raw (.string b) => sliceStr (lo.map (opd s)) (hi.map (opd s)) b
      | _ => .bad
    | _ => .bad
  | .convert t u x => match (T t).kind, (T u).kind, opd s x with
    | .int _, .int k, .raw (.int _ n) => .ok (.raw (.int k (k.wrap n)))
    | .string, .string, .raw (.string b) => .ok (.raw (.string b))
    | _, _, _ => .bad
  | .nilCheck x => match opd s x with
    | .ptr k o => .ok (.ptr k o)
    | .eptr cs => .ok (.eptr cs)
    | _ => .bad
  | .call { callee := .builtin .len, args, argTypes } => match args.toList, argTypes.toList with
    | [x], [t] => match (T t).kind, opd s x with
      | .slice _, .lst _ es _ => .fact (es.length ≤ maxLen) (.raw (.int .i64 es.length))
      | .slice _, .sl _ _ _ n => .fact (n ≤ maxLen) (.raw (.int .i64 n))
      | .slice _, .own _ _ n => .fact (n ≤ maxLen) (.raw (.int .i64 n))
      | .slice _, .raw (.slice none 0 0) => .ok (.raw (.int .i64 0))
      | .string, .raw (.string b) => .ok (.raw (.int .i64 b.size))
      | _, _ => .bad
    | _, _ => .bad
  | .call { callee := .builtin .min, args, .. } => match args.toList.map (opd s) with
    | [.raw (.int k a), .raw (.int _ b)] => .ok (.raw (.int k (if b < a then b else a)))
    | _ => .bad
  | .call { callee := .builtin .max, args, .. } => match args.toList.map (opd s) with
    | [.raw (.int k a), .raw (.int _ b)] => .ok (.raw (.int k (if b > a then b else a)))
    | _ => .bad
  | _ => .bad

/-- What a reading operation's result says of the concrete run. -/
def PR.sound (S : Addr → Prop) (w : World) (φ : Nat → Loc) (run : Result Next) : PR → Prop
  | .ok v => ∃ u, run = .ok (.value u) w ∧ C S w φ v u
  | .side p v => p → ∃ u, run = .ok (.value u) w ∧ C S w φ v u
  | .fact p v => p ∧ ∃ u, run = .ok (.value u) w ∧ C S w φ v u
  | .elem i es f => ∀ x, 0 ≤ i → es[i.toNat]? = some x → ∃ u, run = .ok (.value u) w ∧ C S w φ (f x) u
  | .bad => True
end Go.Abs
