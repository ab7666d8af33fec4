/-
  The abstract layer, part A: abstract values, what they say of a concrete value in a world, abstract heaps, and how they grow.
-/
import Derived.WalkKit
import Derived.Orders
import Derived.Carry
namespace Go.Abs
open Go.RowKit

/-- Abstract values. 'raw': a flat value as it is. 'lst': an immutable slice of elements of 'sz' cells each, as a list, with (maybe) the token by which it may be appended to. 'eptr': a pointer into immutable memory, as the cells from there on. 'ptr': a pointer into block k of the abstract heap. 'sl': a slice over block k. 'own': the slice that lies in block k, while it has n elements. -/
inductive AV where
  | raw (v : Value)
  | agg (cs : List AV)
  | tup (cs : List AV)
  | lst (sz : Nat) (es : List AV) (tok : Option Nat)
  | eptr (cs : List AV)
  | ptr (k off : Nat)
  | sl (sz k off len : Nat)
  | fn (f : Fn) (first captured : List AV)
  | map (k : Nat)
  | own (sz k n : Nat)
  deriving Inhabited

def AV.cells : AV → List AV
  | .agg cs => cs
  | .raw (.agg vs) => vs.toList.map .raw
  | a => [a]

/-- The components of a tuple. -/
def AV.comps : AV → List AV
  | .tup cs => cs
  | .raw (.tuple vs) => vs.toList.map .raw
  | _ => []

/-- Of a list of elements: their cells. -/
def flat (es : List AV) : List AV := es.flatMap AV.cells

/-- One cell. -/
def AV.one : AV → Bool
  | .agg _ | .tup _ => false
  | .raw v => v.oneCell'
  | _ => true

/-- Where an abstract block lies: 'obj b': the block b; 'tok n u': it is the right to append to the slice u, of n elements. -/
inductive Loc where
  | no
  | obj (b : Nat)
  | tok (n : Nat) (u : Value)

def Loc.le : Loc → Loc → Prop
  | .no, _ => True
  | .obj b, l => l = .obj b
  | .tok n u, l => ∃ n' u', l = .tok n' u' ∧ n ≤ n' ∧ (n' = n → u' = u)

theorem Loc.le_refl (l : Loc) : l.le l := by
  cases l with
  | no => trivial
  | obj b => rfl
  | tok n u => exact ⟨n, u, rfl, Nat.le_refl _, fun _ => rfl⟩

theorem Loc.le_trans {a b c : Loc} (h : a.le b) (k : b.le c) : a.le c := by
  cases a with
  | no => trivial
  | obj x => cases h; exact k
  | tok n u =>
    obtain ⟨n', u', rfl, h1, h2⟩ := h
    obtain ⟨n'', u'', rfl, k1, k2⟩ := k
    refine ⟨n'', u'', rfl, Nat.le_trans h1 k1, fun e => ?_⟩
    have e1 : n' = n := by omega
    have e2 : n'' = n' := by omega
    rw [k2 e2, h2 e1]

def TokOK (φ : Nat → Loc) (tok : Option Nat) (len : Nat) (v : Value) : Prop :=
  match tok with
  | none => True
  | some k => ∃ n u, φ k = .tok n u ∧ len ≤ n ∧ (len = n → v = u)

theorem TokOK.le {φ φ' : Nat → Loc} (hφ : ∀ k, (φ k).le (φ' k)) {tok : Option Nat} {len : Nat} {v : Value} (h : TokOK φ tok len v) : TokOK φ' tok len v := by
  cases tok with
  | none => trivial
  | some k =>
    obtain ⟨n, u, hk, hl, hv⟩ := h
    have := hφ k
    rw [hk] at this
    obtain ⟨n', u', hk', h1, h2⟩ := this
    refine ⟨n', u', hk', Nat.le_trans hl h1, fun e => ?_⟩
    have e1 : n' = n := by omega
    rw [h2 e1]
    exact hv (by omega)

/-- What an abstract value says of a concrete one in a world, S the cells that stay as they are. -/
inductive C (S : Addr → Prop) (w : World) (φ : Nat → Loc) : AV → Value → Prop where
  | raw (v : Value) : C S w φ (.raw v) v
  | agg (cs : List AV) (vs : Array Value) (hl : vs.size = cs.length) (h : ∀ (i : Nat) a v, cs[i]? = some a → vs[i]? = some v → C S w φ a v)
      (h1 : ∀ v ∈ vs.toList, v.oneCell' = true) : C S w φ (.agg cs) (.agg vs)
  | tup (cs : List AV) (vs : Array Value) (hl : vs.size = cs.length) (h : ∀ (i : Nat) a v, cs[i]? = some a → vs[i]? = some v → C S w φ a v) : C S w φ (.tup cs) (.tuple vs)
  | lst (sz : Nat) (es : List AV) (tok : Option Nat) (a : Addr) (len cap : Nat) (u : Nat → Value) (hlen : es.length = len) (hcap : len ≤ cap) (hmax : cap ≤ maxLen)
      (hsz : ∀ e ∈ es, e.cells.length = sz) (hm : ∀ (j : Nat) c, (flat es)[j]? = some c → w.cell? (a.add j) = some (u j) ∧ S (a.add j))
      (hc : ∀ (j : Nat) c, (flat es)[j]? = some c → C S w φ c (u j)) (h1 : ∀ (j : Nat) c, (flat es)[j]? = some c → (u j).oneCell' = true)
      (ht : TokOK φ tok len (.slice (some a) len cap)) : C S w φ (.lst sz es tok) (.slice (some a) len cap)
  | lstnil (sz : Nat) (tok : Option Nat) (ht : TokOK φ tok 0 (.slice none 0 0)) : C S w φ (.lst sz [] tok) (.slice none 0 0)
  | eptr (cs : List AV) (a : Addr) (u : Nat → Value) (hm : ∀ (j : Nat) c, cs[j]? = some c → w.cell? (a.add j) = some (u j) ∧ S (a.add j))
      (hc : ∀ (j : Nat) c, cs[j]? = some c → C S w φ c (u j)) (h1 : ∀ (j : Nat) c, cs[j]? = some c → (u j).oneCell' = true) : C S w φ (.eptr cs) (.pointer (some a))
  | ptr (k off b : Nat) (h : φ k = .obj b) : C S w φ (.ptr k off) (.pointer (some ⟨b, off, none⟩))
  | sl (sz k off len b cap : Nat) (h : φ k = .obj b) (hcap : len ≤ cap) (hmax : cap ≤ maxLen) : C S w φ (.sl sz k off len) (.slice (some ⟨b, off, none⟩) len cap)
  | fn (f : Fn) (xs ys : List AV) (vs us : Array Value) (hl : vs.size = xs.length) (hl' : us.size = ys.length) (h : ∀ (i : Nat) a v, xs[i]? = some a → vs[i]? = some v → C S w φ a v)
      (h' : ∀ (i : Nat) a v, ys[i]? = some a → us[i]? = some v → C S w φ a v) : C S w φ (.fn f xs ys) (.func f vs us)
  | map (k b : Nat) (h : φ k = .obj b) : C S w φ (.map k) (.map (some b))
  | own (sz k n : Nat) (a : Option Addr) (cap : Nat) (hcap : n ≤ cap) (hmax : cap ≤ maxLen) (ht : TokOK φ (some k) n (.slice a n cap)) : C S w φ (.own sz k n) (.slice a n cap)

def CAll (S : Addr → Prop) (w : World) (φ : Nat → Loc) (as : List AV) (vs : Array Value) : Prop :=
  vs.size = as.length ∧ ∀ (i : Nat) a v, as[i]? = some a → vs[i]? = some v → C S w φ a v

section
variable {S S' : Addr → Prop} {w w' : World} {φ φ' : Nat → Loc}

theorem C.mono (hS : ∀ a, S a → S' a) (hw : ∀ a, S a → w'.cell? a = w.cell? a) (hφ : ∀ k, (φ k).le (φ' k)) {a : AV} {v : Value} (h : C S w φ a v) : C S' w' φ' a v := by
  induction h with
  | raw v => exact .raw v
  | agg cs vs hl h h1 ih => exact .agg cs vs hl ih h1
  | tup cs vs hl h ih => exact .tup cs vs hl ih
  | lst sz es tok a len cap u hlen hcap hmax hsz hm hc h1 ht ih =>
    exact .lst sz es tok a len cap u hlen hcap hmax hsz (fun j c hj => ⟨(hw _ (hm j c hj).2).trans (hm j c hj).1, hS _ (hm j c hj).2⟩) ih h1 (ht.le hφ)
  | lstnil sz tok ht => exact .lstnil sz tok (ht.le hφ)
  | eptr cs a u hm hc h1 ih => exact .eptr cs a u (fun j c hj => ⟨(hw _ (hm j c hj).2).trans (hm j c hj).1, hS _ (hm j c hj).2⟩) ih h1
  | ptr k off b h => exact .ptr k off b (by have := hφ k; rw [h] at this; exact this)
  | sl sz k off len b cap h hcap hmax => exact .sl sz k off len b cap (by have := hφ k; rw [h] at this; exact this) hcap hmax
  | fn f xs ys vs us hl hl' h h' ih ih' => exact .fn f xs ys vs us hl hl' ih ih'
  | map k b h => exact .map k b (by have := hφ k; rw [h] at this; exact this)
  | own sz k n a cap hcap hmax ht => exact .own sz k n a cap hcap hmax (ht.le hφ)

theorem CAll.mono (hS : ∀ a, S a → S' a) (hw : ∀ a, S a → w'.cell? a = w.cell? a) (hφ : ∀ k, (φ k).le (φ' k)) {a : List AV} {v : Array Value} (h : CAll S w φ a v) : CAll S' w' φ' a v :=
  ⟨h.1, fun i a v ha hv => (h.2 i a v ha hv).mono hS hw hφ⟩

theorem C.one {a : AV} {v : Value} (h : C S w φ a v) (h1 : a.one = true) : v.oneCell' = true := by
  cases h <;> first | assumption | rfl | (simp [AV.one] at h1)

theorem CAll.at {as : List AV} {vs : Array Value} (h : CAll S w φ as vs) {i : Nat} {a : AV} (ha : as[i]? = some a) : ∃ v, vs[i]? = some v ∧ C S w φ a v := by
  have hi : i < vs.size := by rw [h.1]; exact (List.getElem?_eq_some_iff.1 ha).1
  exact ⟨vs[i], Array.getElem?_eq_getElem hi, h.2 i a _ ha (Array.getElem?_eq_getElem hi)⟩

theorem CAll.set {as : List AV} {vs : Array Value} (h : CAll S w φ as vs) (d : Nat) {a : AV} {v : Value} (hc : C S w φ a v) : CAll S w φ (as.set d a) (vs.setIfInBounds d v) := by
  refine ⟨by simp [h.1], fun i x y hx hy => ?_⟩
  rw [List.getElem?_set] at hx
  rw [Array.getElem?_setIfInBounds] at hy
  by_cases hd : d = i
  · subst hd
    simp only [if_true] at hx hy
    split at hx <;> simp_all
  · simp only [hd, if_false] at hx hy
    exact h.2 i x y hx hy

theorem CAll.nil : CAll S w φ [] #[] := ⟨rfl, fun i a v h => by simp at h⟩

theorem CAll.cons {a : AV} {v : Value} {as : List AV} {vs : List Value} (h : C S w φ a v) (hs : CAll S w φ as vs.toArray) : CAll S w φ (a :: as) (v :: vs).toArray := by
  refine ⟨by simpa using hs.1, fun i x y hx hy => ?_⟩
  cases i with
  | zero => simp at hx hy; subst hx; subst hy; exact h
  | succ i => exact hs.2 i x y (by simpa using hx) (by simpa using hy)

theorem CAll.append {as bs : List AV} {vs us : Array Value} (h : CAll S w φ as vs) (k : CAll S w φ bs us) : CAll S w φ (as ++ bs) (vs ++ us) := by
  refine ⟨by simp [h.1, k.1], fun i a v ha hv => ?_⟩
  rw [List.getElem?_append] at ha
  rw [Array.getElem?_append] at hv
  rw [h.1] at hv
  split at ha
  · rename_i hi; rw [if_pos hi] at hv; exact h.2 i a v ha hv
  · rename_i hi; rw [if_neg hi] at hv; exact k.2 _ a v ha hv

theorem CAll.map_raw (vs : List Value) : CAll S w φ (vs.map .raw) vs.toArray := by
  refine ⟨by simp, fun i a v ha hv => ?_⟩
  simp only [List.getElem?_map, Option.map_eq_some_iff] at ha
  obtain ⟨x, hx, rfl⟩ := ha
  simp only [List.getElem?_toArray] at hv
  rw [hx] at hv
  cases hv
  exact .raw _

theorem CAll.one {a : AV} {v : Value} (h : C S w φ a v) : CAll S w φ [a] #[v] := CAll.cons h CAll.nil

theorem C.cells {a : AV} {v : Value} (h : C S w φ a v) (ht : ∀ cs, a ≠ .tup cs) : CAll S w φ a.cells v.cells := by
  cases h with
  | agg cs vs hl h h1 => exact ⟨hl, h⟩
  | tup cs vs hl h => exact absurd rfl (ht cs)
  | raw v =>
    cases v with
    | agg vs => exact CAll.map_raw vs.toList
    | _ => exact CAll.one (.raw _)
  | _ => exact CAll.one (by constructor <;> assumption)

theorem C.comps {a : AV} {v : Value} (h : C S w φ a v) {i : Nat} {c : AV} (hc : a.comps[i]? = some c) : ∃ vs u, v = .tuple vs ∧ vs[i]? = some u ∧ C S w φ c u := by
  cases h with
  | tup cs vs hl h => 
    obtain ⟨u, hu, hcu⟩ := CAll.at (vs := vs) ⟨hl, h⟩ hc
    exact ⟨vs, u, rfl, hu, hcu⟩
  | raw v =>
    cases v with
    | tuple vs => 
      obtain ⟨u, hu, hcu⟩ := CAll.at (S := S) (w := w) (φ := φ) (CAll.map_raw vs.toList) hc
      exact ⟨vs, u, rfl, by simpa using hu, hcu⟩
    | _ => simp [AV.comps] at hc
  | _ => simp [AV.comps] at hc

end

/-- The kinds of a map's keys. -/
inductive KK where
  | str
  | int

def isKey : KK → Value → Bool
  | .str, .string _ => true
  | .int, .int .i64 _ => true
  | _, _ => false

def keyEq : Value → Value → Bool
  | .string a, .string b => a.toList == b.toList
  | .int _ a, .int _ b => a == b
  | _, _ => false

/-- The first entry of a key. -/
def mfind (key : Value) : List MapEntry → Option Value
  | [] => none
  | e :: es => match keyEq key e.key with
    | true => some e.val
    | false => mfind key es

/-- No key twice. -/
def once : List MapEntry → Prop
  | [] => True
  | e :: es => (∀ x ∈ es, keyEq x.key e.key = false) ∧ once es

/-- A map's entries, and what they are told to be. -/
def MapOK (S : Addr → Prop) (w : World) (φ : Nat → Loc) (kk : KK) (l : List MapEntry) (f : Value → Option AV) : Prop :=
  (∀ e ∈ l, isKey kk e.key = true) ∧ once l ∧ ∀ key, isKey kk key = true → match mfind key l, f key with
    | none, none => True
    | some v, some a => C S w φ a v
    | _, _ => False

/-- Abstract blocks: 'own': a slice of the call's own, whose elements may be written, and that may be appended to; 'mp': a map of n keys. 'cells': a row of cells of the call's own, that may be written; 'tok': the right to append; 'dead': gone. -/
inductive Blk where
  | cells (t : TypeId) (cs : List AV)
  | tok (e : TypeId) (sz n : Nat)
  | own (e : TypeId) (sz : Nat) (es : List AV)
  | mp (kk : KK) (n : Nat) (f : Value → Option AV)
  | dead

/-- The block that an abstract block may write to. -/
def blockOf : Loc → Blk → Option Nat
  | .obj b, .cells _ _ => some b
  | .tok n (.slice (some a) _ cap), .tok _ _ _ => if cap = n then none else some a.block
  | .tok _ (.slice (some a) _ _), .own _ _ _ => some a.block
  | .obj b, .mp _ _ _ => some b
  | _, _ => none

def Owns (φ : Nat → Loc) (h : List Blk) (b : Nat) : Prop := ∃ k x, h[k]? = some x ∧ blockOf (φ k) x = some b

def RB (S : Addr → Prop) (w : World) (φ : Nat → Loc) (k : Nat) : Blk → Prop
  | .cells t cs => ∃ b vs, φ k = .obj b ∧ w.heap[b]? = some (.cells vs t (0, 0)) ∧ CAll S w φ cs vs ∧ (∀ v ∈ vs.toList, v.oneCell' = true) ∧ ∀ a, S a → a.block ≠ b
  | .tok e sz n => ∃ u, φ k = .tok n u ∧ ((u = .slice none 0 0 ∧ n = 0) ∨ (∃ a, u = .slice (some a) n n) ∨
      ∃ b cap vs, n < cap ∧ cap ≤ maxLen ∧ u = .slice (some ⟨b, 0, none⟩) n cap ∧ w.heap[b]? = some (.cells vs e (0, 0)) ∧ vs.size = cap * sz ∧ ∀ a, S a → a.block = b → a.off < n * sz)
  | .own e sz es => ∃ u, φ k = .tok es.length u ∧ (∀ x ∈ es, x.cells.length = sz) ∧ ((u = .slice none 0 0 ∧ es = []) ∨
      ∃ b cap vs, es.length ≤ cap ∧ cap ≤ maxLen ∧ u = .slice (some ⟨b, 0, none⟩) es.length cap ∧ w.heap[b]? = some (.cells vs e (0, 0)) ∧ vs.size = cap * sz ∧
        (∀ (j : Nat) c, (flat es)[j]? = some c → ∃ x, vs[j]? = some x ∧ C S w φ c x ∧ x.oneCell' = true) ∧ ∀ a, S a → a.block ≠ b)
  | .mp kk n f => ∃ b es clock, φ k = .obj b ∧ w.heap[b]? = some (.map es clock) ∧ es.size = n ∧ MapOK S w φ kk es.toList f ∧ ∀ a, S a → a.block ≠ b
  | .dead => True

theorem MapOK.mono {S S' : Addr → Prop} {w w' : World} {φ φ' : Nat → Loc} {kk : KK} {l : List MapEntry} {f : Value → Option AV} (hS : ∀ a, S a → S' a) (hw : ∀ a, S a → w'.cell? a = w.cell? a) (hφ : ∀ k, (φ k).le (φ' k)) (h : MapOK S w φ kk l f) : MapOK S' w' φ' kk l f := by
  refine ⟨h.1, h.2.1, fun key hk => ?_⟩
  have := h.2.2 key hk
  revert this
  cases mfind key l <;> cases f key <;> intro hh
  · trivial
  · exact hh
  · exact hh
  · exact C.mono hS hw hφ hh

structure R (S : Addr → Prop) (φ : Nat → Loc) (h : List Blk) (w : World) : Prop where
  blk : ∀ (k : Nat) x, h[k]? = some x → RB S w φ k x
  inj : ∀ (k k' : Nat) x x' b, h[k]? = some x → h[k']? = some x' → blockOf (φ k) x = some b → blockOf (φ k') x' = some b → k = k'
  bnd : ∀ a, S a → a.block < w.heap.size
  fresh : ∀ k, h.length ≤ k → φ k = .no

structure Ext (S : Addr → Prop) (φ : Nat → Loc) (h : List Blk) (w : World) (S' : Addr → Prop) (φ' : Nat → Loc) (h' : List Blk) (w' : World) : Prop where
  os : w'.os = w.os
  tape : w'.tape = w.tape
  output : w'.output = w.output
  size : w.heap.size ≤ w'.heap.size
  keep : ∀ b, b < w.heap.size → ¬ Owns φ h b → w'.heap[b]? = w.heap[b]?
  sub : ∀ a, S a → S' a
  cell : ∀ a, S a → w'.cell? a = w.cell? a
  loc : ∀ k, (φ k).le (φ' k)
  new : ∀ a, S' a → S a ∨ w.heap.size ≤ a.block ∨ Owns φ h a.block
  own : ∀ b, Owns φ' h' b → Owns φ h b ∨ w.heap.size ≤ b

section
variable {S S₁ S₂ : Addr → Prop} {φ φ₁ φ₂ : Nat → Loc} {h h₁ h₂ : List Blk} {w w₁ w₂ : World}

theorem Ext.refl (S : Addr → Prop) (φ : Nat → Loc) (h : List Blk) (w : World) : Ext S φ h w S φ h w :=
  ⟨rfl, rfl, rfl, Nat.le_refl _, fun _ _ _ => rfl, fun _ h => h, fun _ _ => rfl, fun _ => Loc.le_refl _, fun _ h => .inl h, fun _ h => .inl h⟩

theorem Ext.trans (x : Ext S φ h w S₁ φ₁ h₁ w₁) (y : Ext S₁ φ₁ h₁ w₁ S₂ φ₂ h₂ w₂) : Ext S φ h w S₂ φ₂ h₂ w₂ where
  os := y.os.trans x.os
  tape := y.tape.trans x.tape
  output := y.output.trans x.output
  size := Nat.le_trans x.size y.size
  keep b hb ho := (y.keep b (Nat.lt_of_lt_of_le hb x.size) (fun o => by
    rcases x.own b o with o | o
    · exact ho o
    · omega)).trans (x.keep b hb ho)
  sub a ha := y.sub a (x.sub a ha)
  cell a ha := (y.cell a (x.sub a ha)).trans (x.cell a ha)
  loc k := Loc.le_trans (x.loc k) (y.loc k)
  new a ha := by
    rcases y.new a ha with h | h | h
    · exact x.new a h
    · exact .inr (.inl (Nat.le_trans x.size h))
    · rcases x.own _ h with h | h
      · exact .inr (.inr h)
      · exact .inr (.inl h)
  own b hb := by
    rcases y.own b hb with h | h
    · exact x.own b h
    · exact .inr (Nat.le_trans x.size h)

theorem Ext.C (x : Ext S φ h w S₁ φ₁ h₁ w₁) {a : AV} {v : Value} (k : C S w φ a v) : C S₁ w₁ φ₁ a v := k.mono x.sub x.cell x.loc
theorem Ext.CAll (x : Ext S φ h w S₁ φ₁ h₁ w₁) {a : List AV} {v : Array Value} (k : CAll S w φ a v) : CAll S₁ w₁ φ₁ a v := k.mono x.sub x.cell x.loc

/-- A draw. -/
theorem R.drew (r : R S φ h w) : R S φ h w.drew :=
  ⟨fun k x hx => by
    have := r.blk k x hx
    cases x with
    | cells t cs =>
      obtain ⟨b, vs, h1, h2, h3, h4⟩ := this
      exact ⟨b, vs, h1, h2, h3.mono (w := w) (w' := w.drew) (fun _ h => h) (fun _ _ => rfl) (fun _ => Loc.le_refl _), h4⟩
    | tok e sz n => exact this
    | own e sz es =>
      obtain ⟨u, h1, h2, h3⟩ := this
      refine ⟨u, h1, h2, ?_⟩
      rcases h3 with h3 | ⟨b, cap, vs, g1, g2, g3, g4, g5, g6, g7⟩
      · exact .inl h3
      · exact .inr ⟨b, cap, vs, g1, g2, g3, g4, g5, fun j c hj => by
          obtain ⟨x, q1, q2, q3⟩ := g6 j c hj
          exact ⟨x, q1, q2.mono (w := w) (w' := w.drew) (fun _ h => h) (fun _ _ => rfl) (fun _ => Loc.le_refl _), q3⟩, g7⟩
    | mp kk n f =>
      obtain ⟨b, es, clock, h1, h2, h3, h4, h5⟩ := this
      exact ⟨b, es, clock, h1, h2, h3, h4.mono (w := w) (w' := w.drew) (fun _ h => h) (fun _ _ => rfl) (fun _ => Loc.le_refl _), h5⟩
    | dead => trivial, r.inj, r.bnd, r.fresh⟩

theorem Ext.drew (S : Addr → Prop) (φ : Nat → Loc) (h : List Blk) (w : World) : Ext S φ h w S φ h w.drew :=
  ⟨rfl, rfl, rfl, Nat.le_refl _, fun _ _ _ => rfl, fun _ h => h, fun _ _ => rfl, fun _ => Loc.le_refl _, fun _ h => .inl h, fun _ h => .inl h⟩
end
end Go.Abs
