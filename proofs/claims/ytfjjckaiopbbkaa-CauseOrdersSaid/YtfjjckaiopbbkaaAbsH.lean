/-
  The abstract layer, part H: the operations that make memory, or write it.
-/
import Derived.Test.YtfjjckaiopbbkaaAbsG
namespace Go.Abs
open Go.RowKit

inductive HR where
  | ok (v : AV) (h : List Blk)
  | side (p : Prop) (v : AV) (h : List Blk)
  | bad

def inOrder : Nat → List (Nat × Operand) → Bool
  | _, [] => true
  | n, (i, _) :: r => match decide (i = n) with | true => inOrder (n + 1) r | false => false

def allOf (sz : Nat) : List AV → Bool
  | [] => true
  | e :: es => match decide (e.cells.length = sz), e.cells.all AV.one with | true, true => allOf sz es | _, _ => false

def appendAV (e : TypeId) (sz : Nat) (h : List Blk) : AV → AV → HR
  | .raw (.slice none 0 0), .lst sz' xs _ => match decide (sz' = sz) with
    | true => .side (xs.length ≤ 4294967296) (.lst sz xs (some h.length)) (h ++ [.tok e sz xs.length])
    | false => .bad
  | .own sz'' k n, .lst sz' xs _ => match decide (sz' = sz), decide (sz'' = sz), h[k]? with
    | true, true, some (.own e' sz0 es) => match decide (sz0 = sz), decide (e' = e) with
      | true, true => .side (n = es.length ∧ es.length + xs.length ≤ 4294967296) (.own sz k (es ++ xs).length) (h.set k (.own e sz (es ++ xs)))
      | _, _ => .bad
    | _, _, _ => .bad
  | .lst sz'' es (some k), .lst sz' xs _ => match decide (sz' = sz), decide (sz'' = sz), h[k]? with
    | true, true, some (.tok e' sz0 n) => match decide (sz0 = sz), decide (e' = e) with
      | true, true => .side (n = es.length ∧ es.length + xs.length ≤ 4294967296) (.lst sz (es ++ xs) (some k)) (h.set k (.tok e sz (es ++ xs).length))
      | _, _ => .bad
    | _, _, _ => .bad
  | _, _ => .bad

/-- The kind of a map's keys, out of its key type. -/
def mapKK (x : TI) : Option KK :=
  match x.kind with
  | .string => some .str
  | .int .i64 => some .int
  | _ => none

def kkEq : KK → KK → Bool
  | .str, .str | .int, .int => true
  | _, _ => false

theorem kkEq_eq {a b : KK} (h : kkEq a b = true) : a = b := by cases a <;> cases b <;> simp_all [kkEq]

/-- A map with a key's value set; with a key struck. -/
def mput (f : Value → Option AV) (key : Value) (v : AV) : Value → Option AV := fun x => match keyEq x key with | true => some v | false => f x
def mcut (f : Value → Option AV) (key : Value) : Value → Option AV := fun x => match keyEq x key with | true => none | false => f x
def more (o : Option AV) (n : Nat) : Nat := match o with | some _ => n | none => n + 1
def less (o : Option AV) (n : Nat) : Nat := match o with | some _ => n - 1 | none => n
def orZ (o : Option AV) (z : AV) : AV := match o with | some v => v | none => z

/-- A look-up; a store; a key struck; how many keys. -/
def lookupAV (T : TypeId → TI) (h : List Blk) (kt vt : TypeId) (ok : Bool) : AV → AV → HR
  | .map k, .raw key => match h[k]?, mapKK (T kt), (T vt).zero, (T vt).agg, (T vt).kind with
    | _, _, _, _, .other => .bad
    | some (.mp kk _ f), some kk', [z], false, _ => match kkEq kk kk', isKey kk key with
      | true, true => match ok with
        | true => .ok (.tup [orZ (f key) (.raw z), .raw (.bool (f key).isSome)]) h
        | false => .ok (orZ (f key) (.raw z)) h
      | _, _ => .bad
    | _, _, _, _, _ => .bad
  | _, _ => .bad
def storeAV (T : TypeId → TI) (h : List Blk) (kt : TypeId) : AV → AV → AV → HR
  | .map k, .raw key, v => match h[k]?, mapKK (T kt), AV.tupFree v with
    | some (.mp kk n f), some kk', true => match kkEq kk kk', isKey kk key with
      | true, true => .ok (.tup []) (h.set k (.mp kk (more (f key) n) (mput f key v)))
      | _, _ => .bad
    | _, _, _ => .bad
  | _, _, _ => .bad
def deleteAV (T : TypeId → TI) (h : List Blk) (kt : TypeId) : AV → AV → HR
  | .map k, .raw key => match h[k]?, mapKK (T kt) with
    | some (.mp kk n f), some kk' => match kkEq kk kk', isKey kk key with
      | true, true => .ok (.tup []) (h.set k (.mp kk (less (f key) n) (mcut f key)))
      | _, _ => .bad
    | _, _ => .bad
  | _, _ => .bad
def lenMapAV (h : List Blk) : AV → HR
  | .map k => match h[k]? with
    | some (.mp _ n _) => .ok (.raw (.int .i64 n)) h
    | _ => .bad
  | _ => .bad

def isZero : Operand → Bool
  | .const (.int _ n) => n == 0
  | _ => false

theorem isZero_eq {l : Operand} (h : isZero l = true) : ∃ k, l = .const (.int k 0) := by
  unfold isZero at h
  split at h
  · rename_i k n
    simp at h
    subst h
    exact ⟨k, rfl⟩
  · cases h

/-- An operation that makes memory, or writes it. -/
def stepHeap (T : TypeId → TI) (s : List AV) (h : List Blk) : Op → HR
  | .box t x => match (opd s x).cells.all AV.one with
    | true => .ok (.ptr h.length 0) (h ++ [.cells t (opd s x).cells])
    | false => .bad
  | .alloc t => match (T t).kind with
    | .other => .bad
    | _ => .ok (.ptr h.length 0) (h ++ [.cells t ((T t).zero.map .raw)])
  | .store t a x => match (T t).kind with
    | .other => .bad
    | _ => match opd s a with
      | .ptr k off => match h[k]? with
        | some (.cells t' cs) => match decide ((opd s x).cells.length = (T t).size), decide (off + (T t).size ≤ cs.length), (opd s x).cells.all AV.one with
          | true, true, true => .ok (.tup []) (h.set k (.cells t' (putAt cs off (opd s x).cells)))
          | _, _, _ => .bad
        | _ => .bad
      | _ => .bad
  | .buildSlice t len parts => match (T t).kind with
    | .slice e => match (T e).kind with
      | .other => .bad
      | _ => match decide (parts.toList.length = len), inOrder 0 parts.toList, allOf (T e).size (parts.toList.map fun p => opd s p.2), decide (len * (T e).size ≤ 16777216), decide (0 < (T e).size) with
        | true, true, true, true, true => .ok (.lst (T e).size (parts.toList.map fun p => opd s p.2) (some h.length)) (h ++ [.tok e (T e).size len])
        | _, _, _, _, _ => .bad
    | _ => .bad
  | .call { callee := .builtin .append, args, argTypes } => match args.toList, argTypes.toList with
    | [x, y], [t, u] => match decide (t = u), (T t).kind with
      | true, .slice e => match (T e).kind with
        | .other => .bad
        | _ => match decide (0 < (T e).size), decide ((T e).bytes ≤ 32768) with
          | true, true => appendAV e (T e).size h (opd s x) (opd s y)
          | _, _ => .bad
      | _, _ => .bad
    | _, _ => .bad
  | .makeSlice t l c => match isZero l with
    | true => match (T t).kind, opd s c with
      | .slice e, .raw (.int _ n) => match (T e).kind with
        | .other => .bad
        | _ => match decide ((T e).bytes ≤ 32768) with
          | true => .side (0 ≤ n ∧ n ≤ 4294967296) (.lst (T e).size [] (some h.length)) (h ++ [.tok e (T e).size 0])
          | false => .bad
      | _, _ => .bad
    | false => match (T t).kind, opd s l, opd s c with
      | .slice e, .raw (.int _ n), .raw (.int _ m) => match (T e).kind with
        | .other => .bad
        | _ => match decide ((T e).bytes ≤ 32768), (T e).zero with
          | true, [z] => .side (n = m ∧ 0 ≤ n ∧ n ≤ 4294967296) (.sl 1 h.length 0 n.toNat) (h ++ [.cells e (List.replicate n.toNat (.raw z))])
          | _, _ => .bad
      | _, _, _ => .bad
  | .slice t x lo (some hi) (some mx) => match (T t).kind with
    | .slice e => match (T e).kind with
      | .other => .bad
      | _ => match opd s x, lo.map (opd s), opd s hi, opd s mx with
        | .lst sz es _, none, .raw (.int _ n), .raw (.int _ m) => match decide ((T e).size = sz) with
          | true => .side (n = m ∧ 0 ≤ n ∧ n ≤ es.length) (.lst sz (es.take n.toNat) (some h.length)) (h ++ [.tok e sz n.toNat])
          | false => .bad
        | _, _, _, _ => .bad
    | _ => .bad
  | .makeMap t none => match (T t).kind with
    | .map kt _ => match mapKK (T kt) with
      | some kk => .ok (.map h.length) (h ++ [.mp kk 0 (fun _ => none)])
      | none => .bad
    | _ => .bad
  | .lookup t x i ok => match (T t).kind with
    | .map kt vt => lookupAV T h kt vt ok (opd s x) (opd s i)
    | _ => .bad
  | .mapUpdate t m k v => match (T t).kind with
    | .map kt _ => storeAV T h kt (opd s m) (opd s k) (opd s v)
    | _ => .bad
  | .call { callee := .builtin .delete, args, argTypes } => match args.toList, argTypes.toList with
    | [x, y], [t, _] => match (T t).kind with
      | .map kt _ => deleteAV T h kt (opd s x) (opd s y)
      | _ => .bad
    | _, _ => .bad
  | .call { callee := .builtin .len, args, argTypes } => match args.toList, argTypes.toList with
    | [x], [t] => match (T t).kind with
      | .map _ _ => lenMapAV h (opd s x)
      | _ => .bad
    | _, _ => .bad
  | _ => .bad

/-- What such an operation's result says of the concrete run. -/
def HSound (S : Addr → Prop) (φ : Nat → Loc) (h : List Blk) (w : World) (run : Result Next) (v : AV) (h' : List Blk) : Prop :=
  ∃ u w' S' φ', (run = .ok (.value u) w' ∨ run = .ok .skip w' ∧ u = undef) ∧ C S' w' φ' v u ∧ R S' φ' h' w' ∧ Ext S φ h w S' φ' h' w'

def HR.sound (S : Addr → Prop) (φ : Nat → Loc) (h : List Blk) (w : World) (run : Result Next) : HR → Prop
  | .ok v h' => HSound S φ h w run v h'
  | .side p v h' => p → HSound S φ h w run v h'
  | .bad => True

section
variable {P : Program} {T : TypeId → TI} {S : Addr → Prop} {φ : Nat → Loc} {h : List Blk} {w : World} {s : List AV} {a : Act}

theorem ones {cs : List AV} {vs : Array Value} (hc : CAll S w φ cs vs) (h1 : cs.all AV.one = true) : ∀ v ∈ vs.toList, v.oneCell' = true := by
  intro x hx
  obtain ⟨k, hk, hkx⟩ := List.getElem_of_mem hx
  have hk' : vs[k]? = some x := by rw [← hkx]; simp
  have hkl : k < cs.length := by rw [← hc.1]; simpa using hk
  exact (hc.2 k _ x (List.getElem?_eq_getElem hkl) hk').one (List.all_eq_true.1 h1 _ (List.getElem_mem _))

theorem noTup {v : AV} (h1 : v.cells.all AV.one = true) : ∀ cs, v ≠ .tup cs := by
  intro cs e
  subst e
  simp [AV.cells, AV.one] at h1

theorem alloc_heap (w : World) (o : Obj) (b : Nat) (hb : b < w.heap.size) : (w.alloc o).heap[b]? = w.heap[b]? := Below.heap_alloc w o b hb

/-- A new box. -/
theorem push_cells (hr : R S φ h w) {cs : List AV} {vs : Array Value} (hc : CAll S w φ cs vs) (h1 : ∀ v ∈ vs.toList, v.oneCell' = true) (t : TypeId) (w0 : World) (hw0 : w0 = w ∨ w0 = w.drew) :
    R S (upd φ h.length (.obj w.heap.size)) (h ++ [.cells t cs]) (w0.alloc (.cells vs t)) ∧ Ext S φ h w S (upd φ h.length (.obj w.heap.size)) (h ++ [.cells t cs]) (w0.alloc (.cells vs t)) := by
  have hh : w0.heap = w.heap := by rcases hw0 with rfl | rfl <;> rfl
  have hfr : φ h.length = .no := hr.fresh _ (Nat.le_refl _)
  have hkeep : ∀ b, b < w.heap.size → (w0.alloc (.cells vs t)).heap[b]? = w.heap[b]? := fun b hb => by rw [alloc_heap _ _ _ (by rw [hh]; exact hb), hh]
  refine hr.push ?_ ?_ ?_ (by simp [hh]) hkeep (fun _ h => h) (fun _ h => .inl h) (fun a ha => by have := hr.bnd a ha; simp [hh]; omega) ⟨w.heap.size, vs, upd_same _ _ _, ?_, ?_, h1, fun a ha e => ?_⟩ (fun b hb => ?_)
  · rcases hw0 with rfl | rfl <;> rfl
  · rcases hw0 with rfl | rfl <;> rfl
  · rcases hw0 with rfl | rfl <;> rfl
  · rw [← hh]; exact heap_alloc_new w0 _
  · refine hc.mono (fun _ h => h) (fun a ha => cell_of_heap (hkeep _ (hr.bnd a ha))) (fun k => ?_)
    by_cases e : k = h.length
    · subst e; rw [hfr]; trivial
    · rw [upd_other _ e]; exact Loc.le_refl _
  · have := hr.bnd a ha; omega
  · cases hb; exact Nat.le_refl _

/-- A new token, over a new block all of whose first n elements are told. -/
theorem push_tok (hr : R S φ h w) {es : List AV} {sz : Nat} {vs : Array Value} (hsz : ∀ e ∈ es, e.cells.length = sz) (cap : Nat) (hcap : es.length ≤ cap) (hmax : cap ≤ maxLen) (hvs : vs.size = cap * sz)
    (hc : ∀ (j : Nat) c, (flat es)[j]? = some c → ∃ u, vs[j]? = some u ∧ C S w φ c u ∧ u.oneCell' = true) (e : TypeId) (w0 : World) (hw0 : w0 = w ∨ w0 = w.drew) :
    ∃ S', C S' (w0.alloc (.cells vs e)) (upd φ h.length (.tok es.length (.slice (some ⟨w.heap.size, 0, none⟩) es.length cap))) (.lst sz es (some h.length)) (.slice (some ⟨w.heap.size, 0, none⟩) es.length cap) ∧
      R S' (upd φ h.length (.tok es.length (.slice (some ⟨w.heap.size, 0, none⟩) es.length cap))) (h ++ [.tok e sz es.length]) (w0.alloc (.cells vs e)) ∧
      Ext S φ h w S' (upd φ h.length (.tok es.length (.slice (some ⟨w.heap.size, 0, none⟩) es.length cap))) (h ++ [.tok e sz es.length]) (w0.alloc (.cells vs e)) := by
  have hh : w0.heap = w.heap := by rcases hw0 with rfl | rfl <;> rfl
  have hfr : φ h.length = .no := hr.fresh _ (Nat.le_refl _)
  have hkeep : ∀ b, b < w.heap.size → (w0.alloc (.cells vs e)).heap[b]? = w.heap[b]? := fun b hb => by rw [alloc_heap _ _ _ (by rw [hh]; exact hb), hh]
  have hnew : (w0.alloc (.cells vs e)).heap[w.heap.size]? = some (.cells vs e (0, 0)) := by rw [← hh]; exact heap_alloc_new w0 _
  have hfl := flat_length hsz
  let S' : Addr → Prop := fun a => S a ∨ (a.block = w.heap.size ∧ a.off < es.length * sz ∧ a.spot = none)
  have hadd : ∀ j, (⟨w.heap.size, 0, none⟩ : Addr).add j = ⟨w.heap.size, j, none⟩ := by intro j; unfold Addr.add; split <;> simp_all
  have hmono : ∀ {c u}, C S w φ c u → C S' (w0.alloc (.cells vs e)) (upd φ h.length (.tok es.length (.slice (some ⟨w.heap.size, 0, none⟩) es.length cap))) c u := by
    intro c u hcu
    refine hcu.mono (fun _ h => .inl h) (fun a ha => cell_of_heap (hkeep _ (hr.bnd a ha))) (fun k => ?_)
    by_cases ek : k = h.length
    · subst ek; rw [hfr]; trivial
    · rw [upd_other _ ek]; exact Loc.le_refl _
  obtain ⟨us, hul, hu⟩ := exists_vals (flat es) hc
  have key : ∀ (j : Nat) c, (flat es)[j]? = some c → vs[j]? = some (us.getD j undef) ∧ C S w φ c (us.getD j undef) ∧ (us.getD j undef).oneCell' = true := by
    intro j c hj
    have hj' : j < us.length := by rw [hul]; exact lookupD hj
    have e : us[j]? = some (us.getD j undef) := by rw [List.getD_eq_getElem?_getD, List.getElem?_eq_getElem hj']; rfl
    exact hu j c _ hj e
  have hpush := hr.push (l := .tok es.length (.slice (some ⟨w.heap.size, 0, none⟩) es.length cap)) (x := .tok e sz es.length) (S' := S') (w' := w0.alloc (.cells vs e))
    (by rcases hw0 with rfl | rfl <;> rfl) (by rcases hw0 with rfl | rfl <;> rfl) (by rcases hw0 with rfl | rfl <;> rfl) (by simp [hh]) hkeep (fun _ h => .inl h)
    (fun a ha => by rcases ha with ha | ha; exact .inl ha; exact .inr (by omega)) (fun a ha => by
      rcases ha with ha | ha
      · have := hr.bnd a ha; simp [hh]; omega
      · simp [hh]; omega)
    (by
      refine ⟨_, upd_same _ _ _, ?_⟩
      rcases Nat.lt_or_ge es.length cap with hlt | hge
      · refine .inr (.inr ⟨w.heap.size, cap, vs, hlt, hmax, rfl, hnew, hvs, fun a ha hab => ?_⟩)
        rcases ha with ha | ha
        · have := hr.bnd a ha; omega
        · exact ha.2.1
      · have : cap = es.length := by omega
        subst this
        exact .inr (.inl ⟨_, rfl⟩))
    (fun b hb => by
      simp only [blockOf] at hb
      split at hb
      · cases hb
      · cases hb; exact Nat.le_refl _)
  refine ⟨S', .lst _ _ _ _ _ _ (fun j => us.getD j undef) rfl hcap hmax hsz (fun j c hj => ⟨?_, .inr ?_⟩) (fun j c hj => hmono (key j c hj).2.1) (fun j c hj => (key j c hj).2.2) ⟨_, _, upd_same _ _ _, Nat.le_refl _, fun _ => rfl⟩, hpush⟩
  · rw [hadd]
    simp only [World.cell?, hnew]
    simp only [Option.isSome_none, Bool.false_eq_true, if_false]
    exact (key j c hj).1
  · rw [hadd]
    exact ⟨rfl, by have := lookupD hj; rw [hfl] at this; exact this, rfl⟩

end
end Go.Abs
