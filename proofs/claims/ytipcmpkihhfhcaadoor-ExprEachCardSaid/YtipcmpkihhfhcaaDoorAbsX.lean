/-
  The abstract layer, part X: expressions as data.
-/
import Derived.Test.YtipcmpkihhfhcaaDoorAbsO
namespace Go.Abs
open Go.RowKit

abbrev AV.i (n : Int) : AV := .raw (.int .i64 n)
abbrev AV.b (b : Bool) : AV := .raw (.bool b)
abbrev AV.s (s : ByteArray) : AV := .raw (.string s)

/-- An expression of the program, as data. -/
inductive Ex where
  | mk (kind n : Int) (name : ByteArray) (op : Int) (arms : List ByteArray) (subs : List Ex)

namespace Ex
def kind : Ex → Int | .mk k _ _ _ _ _ => k
def n : Ex → Int | .mk _ n _ _ _ _ => n
def name : Ex → ByteArray | .mk _ _ m _ _ _ => m
def op : Ex → Int | .mk _ _ _ o _ _ => o
def arms : Ex → List ByteArray | .mk _ _ _ _ a _ => a
def subs : Ex → List Ex | .mk _ _ _ _ _ s => s
end Ex

mutual
def Ex.enc : Ex → AV
  | .mk k n m o a s => .agg [.i k, .i n, .s m, .i o, .lst 1 (a.map AV.s) none, .lst 6 (Ex.encs s) none]
def Ex.encs : List Ex → List AV
  | [] => []
  | e :: es => e.enc :: Ex.encs es
end

theorem encs_map (l : List Ex) : Ex.encs l = l.map Ex.enc := by
  induction l with
  | nil => simp [Ex.encs]
  | cons e l ih => simp [Ex.encs, ih]

theorem enc_eq (e : Ex) : e.enc = .agg [.i e.kind, .i e.n, .s e.name, .i e.op, .lst 1 (e.arms.map AV.s) none, .lst 6 (e.subs.map Ex.enc) none] := by
  cases e with
  | mk k n m o a s => simp [Ex.enc, encs_map, Ex.kind, Ex.n, Ex.name, Ex.op, Ex.arms, Ex.subs]

theorem enc_cells (e : Ex) : e.enc.cells = [.i e.kind, .i e.n, .s e.name, .i e.op, .lst 1 (e.arms.map AV.s) none, .lst 6 (e.subs.map Ex.enc) none] := by rw [enc_eq]; rfl

theorem flat_strs (l : List ByteArray) : flat (l.map AV.s) = l.map AV.s := by
  induction l with
  | nil => rfl
  | cons x l ih => simp only [flat, List.map_cons, List.flatMap_cons] at ih ⊢; rw [ih]; rfl

theorem pure_strs (l : List ByteArray) : Pure (.lst 1 (l.map AV.s) none) := by
  refine .lst _ _ fun c hc => ?_
  rw [flat_strs] at hc
  obtain ⟨x, _, rfl⟩ := List.mem_map.1 hc
  exact .raw _

mutual
theorem pure_enc : ∀ e : Ex, Pure e.enc
  | .mk k n m o a s => by
    rw [Ex.enc]
    refine .agg _ fun c hc => ?_
    simp only [List.mem_cons, List.not_mem_nil, or_false] at hc
    rcases hc with rfl | rfl | rfl | rfl | rfl | rfl
    · exact .raw _
    · exact .raw _
    · exact .raw _
    · exact .raw _
    · exact pure_strs a
    · exact .lst _ _ (pure_encs s)
theorem pure_encs : ∀ l : List Ex, ∀ c ∈ flat (Ex.encs l), Pure c
  | [], c, hc => by simp [Ex.encs, flat] at hc
  | e :: l, c, hc => by
    simp only [Ex.encs, flat, List.flatMap_cons, List.mem_append] at hc
    rcases hc with hc | hc
    · have := pure_enc e
      rw [enc_eq] at this hc
      cases this with
      | agg _ h => exact h c hc
    · exact pure_encs l c hc
end

theorem pure_lst (l : List Ex) : Pure (.lst 6 (l.map Ex.enc) none) := .lst _ _ (by rw [← encs_map]; exact pure_encs l)

theorem pure_cons {x : AV} {l : List AV} (h : Pure x) (hl : ∀ y ∈ l, Pure y) : ∀ y ∈ x :: l, Pure y := by
  intro y hy
  rcases List.mem_cons.1 hy with rfl | hy
  · exact h
  · exact hl y hy
theorem pure_nil : ∀ y ∈ ([] : List AV), Pure y := by simp

/-- Induction over expressions. -/
theorem Ex.ind {p : Ex → Prop} (h : ∀ e, (∀ x ∈ e.subs, p x) → p e) : ∀ e, p e := by
  have key : ∀ (n : Nat) (e : Ex), SizeOf.sizeOf e ≤ n → p e := by
    intro n
    induction n with
    | zero => intro e he; cases e; simp at he
    | succ n ih =>
      intro e he
      refine h e fun x hx => ih x ?_
      cases e with
      | mk k n' m o a s =>
        have := List.sizeOf_lt_of_mem hx
        simp [Ex.subs] at this he
        omega
  exact fun e => key _ e (Nat.le_refl _)

theorem enc_fold (e : Ex) : AV.agg [.i e.kind, .i e.n, .s e.name, .i e.op, .lst 1 (e.arms.map AV.s) none, .lst 6 (e.subs.map Ex.enc) none] = e.enc := (enc_eq e).symm

theorem map_at {α : Type} (f : α → AV) {l : List α} {k : Nat} {x : α} (hx : l[k]? = some x) : (l.map f)[((k : Int)).toNat]? = some (f x) := by
  rw [Int.toNat_natCast, List.getElem?_map, hx]; rfl

theorem wrap_in (x : Int) (h1 : -9223372036854775808 ≤ x) (h2 : x ≤ 9223372036854775807) : IntKind.i64.wrap x = x := by
  rw [IntKind.wrap_i64]; omega

def strsOf (es : List AV) : List ByteArray := es.map fun | .raw (.string b) => b | _ => ByteArray.empty

theorem finStrs {es : List AV} (h : (strsOf es).map AV.s = es) : Pure (.lst 1 es none) ∧ ∃ l : List ByteArray, AV.lst 1 es none = .lst 1 (l.map AV.s) none :=
  ⟨h ▸ pure_strs (strsOf es), strsOf es, congrArg (fun e => AV.lst 1 e none) h.symm⟩

theorem int_beq (a b : Int) : (a == b) = decide (a = b) := by
  by_cases h : a = b <;> simp [h]
theorem int_bne (a b : Int) : (a != b) = decide (a ≠ b) := by
  by_cases h : a = b <;> simp [h]
theorem str_beq (a b : ByteArray) : (a.toList == b.toList) = decide (a = b) := by
  by_cases h : a = b
  · simp [h]
  · have : a.toList ≠ b.toList := fun e => h (toList_inj e)
    simp [h, this]
theorem not_dec (p : Prop) [Decidable p] : (!decide p) = decide (¬ p) := by simp

theorem at_app {α : Type} (l m : List α) (k : Nat) : (l ++ m)[l.length + k]? = m[k]? := by
  rw [List.getElem?_append_right (by omega)]; congr 1; omega
theorem at_app0 {α : Type} (l m : List α) : (l ++ m)[l.length]? = m[0]? := at_app l m 0
theorem set_app {α : Type} (l m : List α) (k : Nat) (v : α) : (l ++ m).set (l.length + k) v = l ++ m.set k v := by
  rw [List.set_append_right _ _ (by omega)]; congr 2; omega
theorem set_app0 {α : Type} (l m : List α) (v : α) : (l ++ m).set l.length v = l ++ m.set 0 v := set_app l m 0 v

theorem take_map {α : Type} (f : α → AV) (l : List α) (n : Nat) : (l.map f).take n = (l.take n).map f := List.map_take.symm
theorem drop_map {α : Type} (f : α → AV) (l : List α) (n : Nat) : (l.map f).drop n = (l.drop n).map f := List.map_drop.symm

theorem elemHave {α : Type} {f : α → AV} {l : List α} {i : Int} {x : α} {g : AV → AV} {dst : Option Tmp} {s : List AV} {h : List Blk} {K : List AV → List Blk → Prop} (h0 : 0 ≤ i) (hx : l[i.toNat]? = some x) (hk : K (put s dst (g (f x))) h) : ElemK i (l.map f) g dst s h K :=
  ⟨f x, ⟨h0, by rw [List.getElem?_map, hx]; rfl⟩, hk⟩

theorem elemMap {α : Type} {f : α → AV} {l : List α} {i : Int} {g : AV → AV} {dst : Option Tmp} {s : List AV} {h : List Blk} {K : List AV → List Blk → Prop} (h0 : 0 ≤ i) (hlt : i < l.length) (hk : ∀ x, l[i.toNat]? = some x → K (put s dst (g (f x))) h) : ElemK i (l.map f) g dst s h K := by
  have hlt' : i.toNat < l.length := by omega
  exact ⟨f l[i.toNat], ⟨h0, by rw [List.getElem?_map, List.getElem?_eq_getElem hlt']; rfl⟩, hk _ (List.getElem?_eq_getElem hlt')⟩

theorem Vis.next {N : Nat} {vis : List (Nat × AV)} {s : List AV} {t i : Nat} (h : s[t]? = some (.i (IntKind.i64.wrap ((i : Int) + 1)))) (hi : i < 9223372036854775807) (hv : Vis N vis s) : Vis N ((t, .i ((i + 1 : Nat) : Int)) :: vis) s := by
  rw [wrap_in _ (by omega) (by omega)] at h
  exact .cons h hv

theorem finB {T : TypeId → TI} {t : Nat} {s : List AV} {h : List Blk} {b : Bool} (hs : s[t]? = some (.b b)) : FinE T [.tmp t] (fun r => ∃ b : Bool, r = .raw (.bool b)) s h :=
  ⟨[.b b], by simp only [resAV, opd, List.getD_eq_getElem?_getD, hs]; rfl, false, .b b, .refl _, .raw _, b, rfl⟩

theorem finI {T : TypeId → TI} {t : Nat} {s : List AV} {h : List Blk} {n : Int} (hs : s[t]? = some (.i n)) : FinE T [.tmp t] (fun r => ∃ n : Int, r = .i n) s h :=
  ⟨[.i n], by simp only [resAV, opd, List.getD_eq_getElem?_getD, hs]; rfl, false, .i n, .refl _, .raw _, n, rfl⟩

theorem finII {T : TypeId → TI} {t u : Nat} {s : List AV} {h : List Blk} {n m : Int} (hs : s[t]? = some (.i n)) (hu : s[u]? = some (.i m)) : FinE T [.tmp t, .tmp u] (fun r => ∃ a b : Int, r = .tup [.i a, .i b]) s h :=
  ⟨[.i n, .i m], by simp only [resAV, opd, List.getD_eq_getElem?_getD, hs, hu]; rfl, false, .tup [.i n, .i m], .refl _, .tup _ (by
    intro c hc
    simp only [List.mem_cons, List.not_mem_nil, or_false] at hc
    rcases hc with rfl | rfl <;> exact .raw _), n, m, rfl⟩

theorem finIIk {T : TypeId → TI} {t u : Nat} {s : List AV} {h : List Blk} {n m : Int} {K : Int → Int → Prop} (hs : s[t]? = some (.i n)) (hu : s[u]? = some (.i m)) (hk : K n m) : FinE T [.tmp t, .tmp u] (fun r => ∃ a b : Int, r = .tup [.i a, .i b] ∧ K a b) s h :=
  ⟨[.i n, .i m], by simp only [resAV, opd, List.getD_eq_getElem?_getD, hs, hu]; rfl, false, .tup [.i n, .i m], .refl _, .tup _ (by
    intro c hc
    simp only [List.mem_cons, List.not_mem_nil, or_false] at hc
    rcases hc with rfl | rfl <;> exact .raw _), n, m, rfl, hk⟩

theorem finBk {T : TypeId → TI} {t : Nat} {s : List AV} {h : List Blk} {b : Bool} {K : Bool → Prop} (hs : s[t]? = some (.b b)) (hk : K b) : FinE T [.tmp t] (fun r => ∃ b : Bool, r = .b b ∧ K b) s h :=
  ⟨[.b b], by simp only [resAV, opd, List.getD_eq_getElem?_getD, hs]; rfl, false, .b b, .refl _, .raw _, b, rfl, hk⟩

theorem take_all {α : Type} {p : α → Prop} {l : List α} {k : Nat} {x : α} (h : ∀ y ∈ l.take k, p y) (hx : l[k]? = some x) (hp : p x) : ∀ y ∈ l.take (k + 1), p y := by
  intro y hy
  rw [List.take_add_one, hx] at hy
  simp only [Option.toList, List.mem_append, List.mem_singleton] at hy
  rcases hy with hy | rfl
  · exact h y hy
  · exact hp

theorem take_full {α : Type} {p : α → Prop} {l : List α} {k : Nat} (h : ∀ y ∈ l.take k, p y) (hk : l.length ≤ k) : ∀ y ∈ l, p y := by
  rw [List.take_of_length_le hk] at h
  exact h

theorem finP {T : TypeId → TI} {rs : List ResultVar} {r : AV} {s : List AV} {h : List Blk} (hr : resAV T s h rs = some [r]) : Go.Abs.Fin T rs r s h := ⟨_, hr, false, .refl _⟩
theorem finT {T : TypeId → TI} {rs : List ResultVar} {r u : AV} {l : List AV} {s : List AV} {h : List Blk} (hr : resAV T s h rs = some (r :: u :: l)) : Go.Abs.Fin T rs (.tup (r :: u :: l)) s h := ⟨_, hr, false, .refl _⟩

theorem finBq {T : TypeId → TI} {t : Nat} {s : List AV} {h : List Blk} {b c : Bool} (hs : s[t]? = some (.b b)) (he : b = c) : Go.Abs.Fin T [.tmp t] (.b c) s h := he ▸ ⟨[.b b], by simp only [resAV, opd, List.getD_eq_getElem?_getD, hs]; rfl, false, .refl _⟩
abbrev bbA (p : Bool × Bool) : AV := .tup [.b p.1, .b p.2]
theorem finBBk {T : TypeId → TI} {t u : Nat} {s : List AV} {h : List Blk} {x y : Bool} {p : Bool × Bool} (hs : s[t]? = some (.b x)) (hu : s[u]? = some (.b y)) (hp : p = (x, y)) : Go.Abs.Fin T [.tmp t, .tmp u] (bbA p) s h := by
  subst hp
  exact ⟨[.b x, .b y], by simp only [resAV, opd, List.getD_eq_getElem?_getD, hs, hu]; rfl, false, .refl _⟩

abbrev gbA (p : Bool × Bool) : AV := .agg [.b p.1, .b p.2]
theorem finGk {T : TypeId → TI} {rs : List ResultVar} {s : List AV} {h : List Blk} {x y : Bool} {p : Bool × Bool} (hs : resAV T s h rs = some [.agg [.b x, .b y]]) (hp : p = (x, y)) : Go.Abs.Fin T rs (gbA p) s h := by
  subst hp
  exact ⟨_, hs, false, .refl _⟩

theorem finBB {T : TypeId → TI} {t u : Nat} {s : List AV} {h : List Blk} {n m : Bool} (hs : s[t]? = some (.b n)) (hu : s[u]? = some (.b m)) : FinE T [.tmp t, .tmp u] (fun r => ∃ a b : Bool, r = .tup [.b a, .b b]) s h :=
  ⟨[.b n, .b m], by simp only [resAV, opd, List.getD_eq_getElem?_getD, hs, hu]; rfl, false, .tup [.b n, .b m], .refl _, .tup _ (by
    intro c hc
    simp only [List.mem_cons, List.not_mem_nil, or_false] at hc
    rcases hc with rfl | rfl <;> exact .raw _), n, m, rfl⟩

theorem pure_b (b : Bool) : Pure (.b b) := .raw _
theorem pure_i (n : Int) : Pure (.i n) := .raw _
theorem pure_s (b : ByteArray) : Pure (.s b) := .raw _

theorem weak_ex {k n o : Int} {m : ByteArray} {arms : List ByteArray} {subs : List Ex} {a s : AV} (ha : Weak a (.lst 1 (arms.map AV.s) none)) (hs : Weak s (.lst 6 (subs.map Ex.enc) none)) : Weak (.agg [.i k, .i n, .s m, .i o, a, s]) (Ex.mk k n m o arms subs).enc := by
  rw [enc_eq]
  exact Weak.aggs ⟨.refl _, .refl _, .refl _, .refl _, ha, hs, trivial⟩

theorem weak_subs {es : List AV} {subs : List Ex} {k : Option Nat} (hl : es.length = subs.length) (h : WeakL (flat es) (flat (subs.map Ex.enc))) : Weak (.lst 6 es k) (.lst 6 (subs.map Ex.enc) none) :=
  Weak.lsts (by simp [hl]) (fun e he => by
    obtain ⟨x, _, rfl⟩ := List.mem_map.1 he
    rw [enc_cells]; rfl) h

theorem flat_nil : flat [] = [] := rfl
theorem flat_agg (cs es : List AV) : flat (.agg cs :: es) = cs ++ flat es := rfl
theorem flat_ex (e : Ex) (es : List Ex) : flat ((e :: es).map Ex.enc) = e.enc.cells ++ flat (es.map Ex.enc) := rfl
theorem flat_ex0 : flat (([] : List Ex).map Ex.enc) = [] := rfl

attribute [go_sem] enc_fold enc_cells List.length_map maxLen take_map drop_map Bool.not_false Bool.not_true at_app at_app0 set_app set_app0 List.append_assoc List.length_append int_beq int_bne str_beq not_dec
attribute [irreducible] Ex.enc
end Go.Abs
