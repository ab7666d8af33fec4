/-
  The abstract layer, part B: a table of types, operands, and the operations that only read.
-/
import Derived.Test.YtfjjckaiopbbkaaAbsA
namespace Go.Abs
open Go.RowKit

inductive TK where
  | bool | int (k : IntKind) | string | slice (e : TypeId) | struct (fs : List (Nat × TypeId)) | array (n : Nat) (e : TypeId) | map (k e : TypeId) | flat | other

/-- What is told of a type. -/
structure TI where
  kind : TK
  size : Nat
  bytes : Nat
  zero : List Value

def TI.agg (x : TI) : Bool :=
  match x.kind with
  | .struct _ | .array _ _ => true
  | _ => false

def KindOK (P : Program) (t : TypeId) : TK → Prop
  | .bool => P.underlying t = some .bool
  | .int k => P.underlying t = some (.int k)
  | .string => P.underlying t = some .string
  | .slice e => P.underlying t = some (.slice e)
  | .struct fs => ∃ F, P.underlying t = some (.struct F) ∧ F.toList.map (fun f => (f.offset, f.type)) = fs ∧ (∀ f ∈ F.toList, f.name ≠ "_") ∧
      (∀ f ∈ F.toList, ∃ i, P.info? f.type = some i ∧ i.size ≠ 0) ∧ P.stoodInHeld t = false ∧ P.eqGuardType P.depth t = false
  | .array n e => P.underlying t = some (.array n e) ∧ P.eqGuardType P.depth t = false
  | .map k e => P.underlying t = some (.map k e)
  | .flat => ∃ d, P.underlying t = some d ∧ (∀ fs, d ≠ .struct fs) ∧ (∀ n e, d ≠ .array n e)
  | .other => True

def TIok (P : Program) (t : TypeId) (x : TI) : Prop :=
  x.kind = .other ∨ ∃ i z, P.info? t = some i ∧ i.size = x.size ∧ i.bytes = x.bytes ∧ i.zero = some z ∧ z.cells.toList = x.zero ∧
    (x.agg = false → x.zero = [z]) ∧ (x.agg = true → z = .agg x.zero.toArray) ∧ (∀ v ∈ x.zero, v.oneCell' = true) ∧ x.zero.length = x.size ∧ KindOK P t x.kind

/-- The equality of the flat values that zero values have. -/
def flatEq : Value → Value → Bool
  | .bool a, .bool b => a == b
  | .int k a, .int k' b => decide (k = k') && decide (a = b)
  | .string a, .string b => decide (a.data.toList = b.data.toList)
  | .pointer none, .pointer none => true
  | .slice none 0 0, .slice none 0 0 => true
  | .map none, .map none => true
  | .nilFunc, .nilFunc => true
  | .nilIface, .nilIface => true
  | _, _ => false

theorem flatEq_eq {a b : Value} (h : flatEq a b = true) : a = b ∧ a.oneCell' = true := by
  unfold flatEq at h
  split at h <;> simp_all [Value.oneCell']
  rename_i x y
  obtain ⟨⟨x⟩⟩ := x
  obtain ⟨⟨y⟩⟩ := y
  simp_all

def flatEqs : List Value → List Value → Bool
  | [], [] => true
  | a :: as, b :: bs => flatEq a b && flatEqs as bs
  | _, _ => false

theorem flatEqs_eq : ∀ {a b : List Value}, flatEqs a b = true → a = b ∧ ∀ v ∈ a, v.oneCell' = true
  | [], [], _ => ⟨rfl, by simp⟩
  | a :: as, b :: bs, h => by
    simp only [flatEqs, Bool.and_eq_true] at h
    obtain ⟨rfl, h1⟩ := flatEq_eq h.1
    obtain ⟨rfl, h2⟩ := flatEqs_eq h.2
    exact ⟨rfl, by simpa using ⟨h1, h2⟩⟩
  | [], _ :: _, h => by simp [flatEqs] at h
  | _ :: _, [], h => by simp [flatEqs] at h

def fieldsEq : List Field → List (Nat × TypeId) → Bool
  | [], [] => true
  | f :: fs, x :: xs => decide (f.offset = x.1) && decide (f.type = x.2) && fieldsEq fs xs
  | _, _ => false

theorem fieldsEq_eq : ∀ {F : List Field} {xs : List (Nat × TypeId)}, fieldsEq F xs = true → F.map (fun f => (f.offset, f.type)) = xs
  | [], [], _ => rfl
  | f :: fs, x :: xs, h => by
    simp only [fieldsEq, Bool.and_eq_true, decide_eq_true_eq] at h
    simp [fieldsEq_eq h.2, h.1.1, h.1.2]
  | [], _ :: _, h => by simp [fieldsEq] at h
  | _ :: _, [], h => by simp [fieldsEq] at h

def kindCheck (P : Program) (t : TypeId) (k : TK) : Bool :=
  match k, P.underlying t with
  | .bool, some .bool => true
  | .int k, some (.int k') => decide (k = k')
  | .string, some .string => true
  | .slice e, some (.slice e') => decide (e = e')
  | .struct fs, some (.struct F) => fieldsEq F.toList fs && F.toList.all (fun f => decide (f.name ≠ "_")) && F.toList.all (fun f => match P.info? f.type with | some i => decide (i.size ≠ 0) | none => false) &&
      (!P.stoodInHeld t) && (!P.eqGuardType P.depth t)
  | .array n e, some (.array n' e') => decide (n = n') && decide (e = e') && (!P.eqGuardType P.depth t)
  | .map k e, some (.map k' e') => decide (k = k') && decide (e = e')
  | .flat, some d => match d with | .struct _ | .array _ _ => false | _ => true
  | .other, _ => true
  | _, _ => false

def aggZero : Value → Bool
  | .agg _ => true
  | _ => false

def tiCheck (P : Program) (t : TypeId) (x : TI) : Bool :=
  match x.kind with
  | .other => true
  | _ => match P.info? t with
    | none => false
    | some i => decide (i.size = x.size) && decide (i.bytes = x.bytes) && decide (x.zero.length = x.size) && kindCheck P t x.kind &&
      (match i.zero with
       | none => false
       | some z => flatEqs z.cells.toList x.zero && (aggZero z == x.agg))

theorem kindOK_of_check {P : Program} {t : TypeId} {k : TK} (h : kindCheck P t k = true) : KindOK P t k := by
  unfold kindCheck at h
  split at h
  case h_5 fs F hu =>
    simp only [Bool.and_eq_true, List.all_eq_true, decide_eq_true_eq, Bool.not_eq_true'] at h
    obtain ⟨⟨⟨⟨h1, h2⟩, h3⟩, h4⟩, h5⟩ := h
    refine ⟨F, hu, fieldsEq_eq h1, h2, fun f hf => ?_, h4, h5⟩
    have := h3 f hf
    cases hi : P.info? f.type with
    | none => simp [hi] at this
    | some i => exact ⟨i, rfl, by simpa [hi] using this⟩
  case h_8 d hu =>
    refine ⟨d, hu, fun fs e => ?_, fun n e e' => ?_⟩
    · subst e; simp at h
    · subst e'; simp at h
  all_goals simp_all [KindOK]

theorem tiOK_of_check {P : Program} {t : TypeId} {x : TI} (h : tiCheck P t x = true) : TIok P t x := by
  unfold tiCheck at h
  split at h
  · rename_i hk; exact .inl hk
  · split at h
    · cases h
    · rename_i i hi
      simp only [Bool.and_eq_true, decide_eq_true_eq] at h
      obtain ⟨⟨⟨⟨h1, h2⟩, h3⟩, h4⟩, h5⟩ := h
      split at h5
      · cases h5
      · rename_i z hz
        simp only [Bool.and_eq_true, beq_iff_eq] at h5
        obtain ⟨e, h6⟩ := flatEqs_eq h5.1
        refine .inr ⟨i, z, hi, h1, h2, hz, e, fun ha => ?_, fun ha => ?_, by rw [← e]; exact h6, h3, kindOK_of_check h4⟩
        · rw [ha] at h5
          cases z with
          | agg cs => simp [aggZero] at h5
          | _ => rw [← e]; simp [Value.cells]
        · rw [ha] at h5
          cases z with
          | agg cs => rw [← e]; simp [Value.cells]
          | _ => simp [aggZero] at h5

/-- All types of a table. -/
def TabOK (P : Program) (T : TypeId → TI) : Prop := ∀ t, TIok P t (T t)

def tabOf (l : List (TypeId × TI)) (t : TypeId) : TI :=
  match l with
  | [] => ⟨.other, 0, 0, []⟩
  | (u, x) :: r => if u = t then x else tabOf r t

theorem tabOK_of_check {P : Program} {l : List (TypeId × TI)} (h : (l.all fun p => tiCheck P p.1 p.2) = true) : TabOK P (tabOf l) := by
  intro t
  induction l with
  | nil => exact .inl rfl
  | cons p r ih =>
    simp only [List.all_cons, Bool.and_eq_true] at h
    unfold tabOf
    split
    · rename_i e; subst e; exact tiOK_of_check h.1
    · exact ih h.2

theorem TIok.known {P : Program} {t : TypeId} {x : TI} (h : TIok P t x) (hk : x.kind ≠ .other) : ∃ i z, P.info? t = some i ∧ i.size = x.size ∧ i.bytes = x.bytes ∧ i.zero = some z ∧ z.cells.toList = x.zero ∧
    (x.agg = false → x.zero = [z]) ∧ (x.agg = true → z = .agg x.zero.toArray) ∧ (∀ v ∈ x.zero, v.oneCell' = true) ∧ x.zero.length = x.size ∧ KindOK P t x.kind := h.resolve_left hk

theorem run_isAgg {P : Program} {t : TypeId} {x : TI} (h : TIok P t x) (hk : x.kind ≠ .other) (w : World) : (isAgg t).run P w = .ok x.agg w := by
  obtain ⟨i, z, hi, _, _, _, _, _, _, _, _, hK⟩ := h.known hk
  unfold isAgg
  cases hx : x.kind with
  | struct fs => rw [hx] at hK; obtain ⟨F, hu, _⟩ := hK; simp [run_underlying hu, TI.agg, hx]
  | array n e => rw [hx] at hK; obtain ⟨hu, _⟩ := hK; simp [run_underlying hu, TI.agg, hx]
  | other => exact absurd hx hk
  | flat =>
    rw [hx] at hK; obtain ⟨d, hu, h1, h2⟩ := hK
    simp only [run_underlying hu, TI.agg, hx, Sem.run_bind, Result.andThen_ok]
    cases d <;> first | rfl | exact absurd rfl (h1 _) | exact absurd rfl (h2 _ _)
  | _ => rw [hx] at hK; simp only [KindOK] at hK; simp [run_underlying hK, TI.agg, hx]

theorem run_size {P : Program} {t : TypeId} {x : TI} (h : TIok P t x) (hk : x.kind ≠ .other) (w : World) : (sizeOf t).run P w = .ok x.size w := by
  obtain ⟨i, z, hi, hs, _⟩ := h.known hk
  simp [sizeOf, typeInfo, hi, hs]

/-- An operand's abstract value. -/
def opd (s : List AV) : Operand → AV
  | .tmp t => s.getD t (.tup [])
  | .const v => .raw v
  | .global g => .raw (.pointer (some ⟨g, 0, none⟩))
  | .func f => .fn (.func f) [] []

section
variable {S : Addr → Prop} {w : World} {φ : Nat → Loc} {s : List AV} {a : Act}

theorem C.undef_ : C S w φ (.tup []) undef := .tup [] #[] rfl (fun i a v h => by simp at h)

theorem C.opd (h : CAll S w φ s a.tmps) (x : Operand) : C S w φ (opd s x) (a.eval x) := by
  cases x with
  | tmp t =>
    show C S w φ (s.getD t (.tup [])) (a.tmps.getD t Go.undef)
    rw [List.getD_eq_getElem?_getD]
    cases hs : s[t]? with
    | none =>
      have ht : a.tmps[t]? = none := by
        rw [Array.getElem?_eq_none_iff, h.1]
        exact List.getElem?_eq_none_iff.1 hs
      simp only [Option.getD_none]
      rw [Array.getD_eq_getD_getElem?, ht]
      exact C.undef_
    | some x =>
      obtain ⟨v, hv, hc⟩ := h.at hs
      simp only [Option.getD_some]
      rw [Array.getD_eq_getD_getElem?, hv]
      exact hc
  | const v => exact .raw v
  | global g => exact .raw _
  | func f => exact .fn (.func f) [] [] #[] #[] rfl rfl (fun i a v h => by simp at h) (fun i a v h => by simp at h)
end

end Go.Abs
