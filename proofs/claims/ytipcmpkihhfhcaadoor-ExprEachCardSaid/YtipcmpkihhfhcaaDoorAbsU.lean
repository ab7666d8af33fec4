/-
  The plain law of an order of equations: each names some texts and hangs on some; the first that hangs on none unplaced comes next.
-/
import Derived.Test.YtipcmpkihhfhcaaDoorAbsY
namespace Go.Abs
open Go

def cntL (s : ByteArray) : List ByteArray → Nat
  | [] => 0
  | x :: l => (if x = s then 1 else 0) + cntL s l
def opn (s : ByteArray) : List (List ByteArray) → List Bool → Nat
  | ns :: N, p :: pl => (if p = true then 0 else cntL s ns) + opn s N pl
  | _, _ => 0
def waitsF (N : List (List ByteArray)) (pl : List Bool) (s : ByteArray) : Bool := decide (0 < opn s N pl)
def readyF (N H : List (List ByteArray)) (pl : List Bool) (i : Nat) : Bool := !(pl.getD i true) && (H.getD i []).all fun s => !waitsF N pl s
def pickF (N H : List (List ByteArray)) (pl : List Bool) : Nat → Nat → Option Nat
  | _, 0 => none
  | i, n + 1 => if readyF N H pl i = true then some i else pickF N H pl (i + 1) n
def orderG (N H : List (List ByteArray)) : Nat → List Bool → List Nat → List Nat × Bool
  | 0, _, out => (out, true)
  | k + 1, pl, out => match pickF N H pl 0 N.length with
    | none => (out, false)
    | some i => orderG N H k (pl.set i true) (out ++ [i])
def orderF (N H : List (List ByteArray)) : List Nat × Bool := orderG N H N.length (List.replicate N.length false) []

theorem cntL_append (s : ByteArray) (l m : List ByteArray) : cntL s (l ++ m) = cntL s l + cntL s m := by
  induction l with
  | nil => simp [cntL]
  | cons x l ih => simp only [List.cons_append, cntL, ih]; omega
theorem cntL_take {s : ByteArray} {l : List ByteArray} {k : Nat} (h : k < l.length) : cntL s (l.take (k + 1)) = cntL s (l.take k) + (if l[k] = s then 1 else 0) := by
  rw [List.take_succ_eq_append_getElem h, cntL_append]
  simp [cntL]
theorem cntL_le (s : ByteArray) (l : List ByteArray) : cntL s l ≤ l.length := by
  induction l with
  | nil => simp [cntL]
  | cons x l ih => simp only [cntL, List.length_cons]; split <;> omega
theorem cntL_take_le (s : ByteArray) (l : List ByteArray) (k : Nat) : cntL s (l.take k) ≤ cntL s l := by
  have := cntL_append s (l.take k) (l.drop k)
  rw [List.take_append_drop] at this
  omega
theorem cntL_mem {s : ByteArray} {l : List ByteArray} (h : s ∈ l) : 0 < cntL s l := by
  induction l with
  | nil => simp at h
  | cons x l ih =>
    simp only [cntL]
    rcases List.mem_cons.1 h with rfl | h
    · simp; omega
    · have := ih h; omega
theorem cntL_zero {s : ByteArray} {l : List ByteArray} (h : s ∉ l) : cntL s l = 0 := by
  induction l with
  | nil => simp [cntL]
  | cons x l ih =>
    simp only [cntL]
    rw [if_neg (fun e => h (by rw [e]; exact List.mem_cons_self)), ih (fun m => h (List.mem_cons_of_mem _ m))]

theorem opn_set {s : ByteArray} : ∀ {N : List (List ByteArray)} {pl : List Bool} {i : Nat} {ns : List ByteArray}, N[i]? = some ns → pl[i]? = some false → opn s N pl = cntL s ns + opn s N (pl.set i true)
  | [], _, _, _, h, _ => by simp at h
  | _ :: _, [], _, _, _, h => by simp at h
  | n :: N, p :: pl, 0, ns, h, k => by
    simp at h k
    subst h k
    simp [opn]
  | n :: N, p :: pl, i + 1, ns, h, k => by
    have := opn_set (s := s) (N := N) (pl := pl) (i := i) (by simpa using h) (by simpa using k)
    simp only [List.set_cons_succ, opn, this]
    omega
theorem opn_pos {s : ByteArray} {N : List (List ByteArray)} {pl : List Bool} {i : Nat} {ns : List ByteArray} (h : N[i]? = some ns) (hp : pl[i]? = some false) (hs : s ∈ ns) : 0 < opn s N pl := by
  rw [opn_set h hp]
  have := cntL_mem hs
  omega
theorem opn_zero {s : ByteArray} : ∀ {N : List (List ByteArray)} {pl : List Bool}, (∀ (i : Nat) ns, N[i]? = some ns → pl[i]? = some false → s ∉ ns) → opn s N pl = 0
  | [], _, _ => by simp [opn]
  | _ :: _, [], _ => by simp [opn]
  | n :: N, p :: pl, h => by
    have := opn_zero (s := s) (N := N) (pl := pl) (fun i ns a b => h (i + 1) ns (by simpa using a) (by simpa using b))
    simp only [opn, this]
    cases p with
    | true => simp
    | false => simp [cntL_zero (h 0 n rfl rfl)]
theorem opn_all {s : ByteArray} : ∀ {N : List (List ByteArray)}, opn s N (List.replicate N.length false) = cntL s N.flatten
  | [] => by simp [opn, cntL]
  | n :: N => by
    simp only [List.length_cons, List.replicate_succ, opn, List.flatten_cons, cntL_append, opn_all (N := N)]
    simp
theorem opn_le {s : ByteArray} : ∀ {N : List (List ByteArray)} {pl : List Bool}, opn s N pl ≤ N.flatten.length
  | [], _ => by simp [opn]
  | _ :: _, [] => by simp [opn]
  | n :: N, p :: pl => by
    have := opn_le (s := s) (N := N) (pl := pl)
    have := cntL_le s n
    simp only [opn, List.flatten_cons, List.length_append]
    split <;> omega

theorem pick_none {N H : List (List ByteArray)} {pl : List Bool} : ∀ {n i : Nat}, (∀ j, i ≤ j → j < i + n → readyF N H pl j = false) → pickF N H pl i n = none
  | 0, _, _ => rfl
  | n + 1, i, h => by
    rw [pickF, h i (Nat.le_refl _) (by omega), if_neg (by simp)]
    exact pick_none fun j a b => h j (by omega) (by omega)
theorem pick_some {N H : List (List ByteArray)} {pl : List Bool} : ∀ {n i k : Nat}, i ≤ k → k < i + n → (∀ j, i ≤ j → j < k → readyF N H pl j = false) → readyF N H pl k = true → pickF N H pl i n = some k
  | 0, i, k, h1, h2, _, _ => by omega
  | n + 1, i, k, h1, h2, h3, h4 => by
    rw [pickF]
    by_cases e : i = k
    · subst e; rw [if_pos h4]
    · rw [h3 i (Nat.le_refl _) (by omega), if_neg (by simp)]
      exact pick_some (by omega) (by omega) (fun j a b => h3 j (by omega) b) h4
theorem pick_lt {N H : List (List ByteArray)} {pl : List Bool} : ∀ {n i k : Nat}, pickF N H pl i n = some k → k < i + n ∧ readyF N H pl k = true
  | 0, _, _, h => by simp [pickF] at h
  | n + 1, i, k, h => by
    rw [pickF] at h
    split at h
    · cases h; exact ⟨by omega, by assumption⟩
    · have := pick_lt h; exact ⟨by omega, this.2⟩
theorem ready_not {N H : List (List ByteArray)} {pl : List Bool} {i : Nat} (h : pl[i]? = some true) : readyF N H pl i = false := by
  simp [readyF, List.getD_eq_getElem?_getD, h]
theorem ready_wait {N H : List (List ByteArray)} {pl : List Bool} {i : Nat} {hs : List ByteArray} {s : ByteArray} (h : H[i]? = some hs) (hm : s ∈ hs) (hw : waitsF N pl s = true) : readyF N H pl i = false := by
  simp only [readyF, List.getD_eq_getElem?_getD, h, Option.getD_some, Bool.and_eq_false_imp]
  intro _
  rw [Bool.eq_false_iff]
  intro hall
  have := List.all_eq_true.1 hall s hm
  simp [hw] at this
theorem ready_yes {N H : List (List ByteArray)} {pl : List Bool} {i : Nat} {hs : List ByteArray} (hp : pl[i]? = some false) (h : H[i]? = some hs) (hw : ∀ s ∈ hs, waitsF N pl s = false) : readyF N H pl i = true := by
  simp only [readyF, List.getD_eq_getElem?_getD, h, hp, Option.getD_some, Bool.not_false, Bool.true_and]
  exact List.all_eq_true.2 fun s hs => by simp [hw s hs]
theorem ready_pl {N H : List (List ByteArray)} {pl : List Bool} {i : Nat} (h : readyF N H pl i = true) : pl[i]? = some false := by
  simp only [readyF, Bool.and_eq_true, List.getD_eq_getElem?_getD] at h
  cases hq : pl[i]? with
  | none => rw [hq] at h; simp at h
  | some b => rw [hq] at h; cases b <;> simp_all

/-- What a map of counts says. -/
def MapN (f : Value → Option AV) (g : ByteArray → Nat) : Prop := ∀ s, orZ (f (.string s)) (.raw (.int .i64 0)) = .raw (.int .i64 (g s))
theorem MapN.nil : MapN (fun _ => none) (fun _ => 0) := fun _ => rfl
theorem MapN.cast {f : Value → Option AV} {g g' : ByteArray → Nat} (h : MapN f g) (e : ∀ s, g s = g' s) : MapN f g' := fun s => by rw [h s, e]
theorem mput_same (f : Value → Option AV) (k : ByteArray) (v : AV) : mput f (.string k) v (.string k) = some v := by simp [mput, keyEq]
theorem mput_other (f : Value → Option AV) {k s : ByteArray} (v : AV) (h : ¬ s = k) : mput f (.string k) v (.string s) = f (.string s) := by
  unfold mput
  have : keyEq (.string s) (.string k) = false := by
    rw [Bool.eq_false_iff]; intro e; exact h (by have := (keyEq_iff (kk := .str) (a := .string s) (b := .string k) rfl rfl).1 e; cases this; rfl)
  rw [this]
theorem MapN.put {f : Value → Option AV} {g : ByteArray → Nat} (h : MapN f g) (k : ByteArray) (n : Nat) (g' : ByteArray → Nat) (h1 : g' k = n) (h2 : ∀ s, ¬ s = k → g' s = g s) : MapN (mput f (.string k) (.raw (.int .i64 (n : Int)))) g' := by
  intro s
  by_cases e : s = k
  · subst e; rw [mput_same, h1]; rfl
  · rw [mput_other _ _ e, h s, h2 s e]
theorem dropB {pl : List Bool} {i : Nat} {b : Bool} (h : pl[i]? = some b) : (pl.map AV.b).drop i = AV.b b :: (pl.map AV.b).drop (i + 1) := by
  obtain ⟨hi, rfl⟩ := List.getElem?_eq_some_iff.1 h
  rw [List.drop_eq_getElem_cons (by simpa using hi)]
  simp
theorem at_old {h r : List Blk} {k : Nat} {x : Blk} (hk : h[k]? = some x) : (h ++ r)[k]? = some x := by
  rw [List.getElem?_append_left (by obtain ⟨a, _⟩ := List.getElem?_eq_some_iff.1 hk; exact a)]
  exact hk
end Go.Abs
namespace Go.Abs
open Go
theorem blk_at {h : List Blk} {k : Nat} {cs : List AV} (hb : blkCells h k = some cs) : ∃ t, h[k]? = some (.cells t cs) := by
  unfold blkCells at hb
  split at hb
  · cases hb; exact ⟨_, by assumption⟩
  · cases hb
/-- No name among the first ones that are not placed. -/
def NoW (N : List (List ByteArray)) (pl : List Bool) (s : ByteArray) (i : Nat) : Prop := ∀ (j : Nat) ns, j < i → N[j]? = some ns → pl[j]? = some false → s ∉ ns
theorem NoW.zero {N : List (List ByteArray)} {pl : List Bool} {s : ByteArray} : NoW N pl s 0 := fun j _ h => by omega
theorem NoW.step {N : List (List ByteArray)} {pl : List Bool} {s : ByteArray} {i : Nat} {ns : List ByteArray} (h : NoW N pl s i) (hN : N[i]? = some ns) (hp : pl[i]? = some false → s ∉ ns) : NoW N pl s (i + 1) := by
  intro j ms hj hm hq
  by_cases e : j = i
  · subst e
    rw [hN] at hm
    cases hm
    exact hp hq
  · exact h j ms (by omega) hm hq
theorem NoW.done {N : List (List ByteArray)} {pl : List Bool} {s : ByteArray} {i : Nat} (h : NoW N pl s i) (hi : N.length ≤ i) : waitsF N pl s = false := by
  simp only [waitsF, decide_eq_false_iff_not]
  rw [opn_zero fun j ns hn hp => h j ns (by obtain ⟨a, _⟩ := List.getElem?_eq_some_iff.1 hn; omega) hn hp]
  omega
theorem waits_yes {N : List (List ByteArray)} {pl : List Bool} {s : ByteArray} {i : Nat} {ns : List ByteArray} (hN : N[i]? = some ns) (hp : pl[i]? = some false) (hs : s ∈ ns) : waitsF N pl s = true := by
  simp only [waitsF, decide_eq_true_eq]
  exact opn_pos hN hp hs
theorem not_take {s : ByteArray} {ns : List ByteArray} {j : Nat} {p : Prop} (h : p → s ∉ ns.take j) (hj : ns.length ≤ j) : p → s ∉ ns := by rw [List.take_of_length_le hj] at h; exact h
theorem not_step {s x : ByteArray} {ns : List ByteArray} {j : Nat} {p : Prop} (h : p → s ∉ ns.take j) (hx : ns[j]? = some x) (hn : p → ¬ x = s) : p → s ∉ ns.take (j + 1) := by
  intro hp hm
  obtain ⟨hj, rfl⟩ := List.getElem?_eq_some_iff.1 hx
  rw [List.take_succ_eq_append_getElem hj] at hm
  rcases List.mem_append.1 hm with q | q
  · exact h hp q
  · simp at q
    exact hn hp q.symm
theorem map_some {α β : Type} {f : α → β} {l : List α} {i : Nat} {x : α} (h : l[i]? = some x) : (l.map f)[i]? = some (f x) := by rw [List.getElem?_map, h]; rfl
end Go.Abs
namespace Go.Abs
open Go
theorem take_mapS {α β : Type} {f : α → β} {l : List α} {i : Nat} {x : α} (hx : l[((i : Nat) : Int).toNat]? = some x) : (l.take (i + 1)).map f = (l.take i).map f ++ [f x] := by
  rw [Int.toNat_natCast] at hx
  obtain ⟨hi, rfl⟩ := List.getElem?_eq_some_iff.1 hx
  rw [List.take_succ_eq_append_getElem hi, List.map_append]
  rfl
theorem take_filtT {α : Type} {p : α → Bool} {l : List α} {i : Nat} {x : α} (hx : l[((i : Nat) : Int).toNat]? = some x) (hp : p x = true) : (l.take (i + 1)).filter p = (l.take i).filter p ++ [x] := by
  rw [Int.toNat_natCast] at hx
  obtain ⟨hi, rfl⟩ := List.getElem?_eq_some_iff.1 hx
  rw [List.take_succ_eq_append_getElem hi, List.filter_append]
  simp [hp]
theorem take_filtF {α : Type} {p : α → Bool} {l : List α} {i : Nat} {x : α} (hx : l[((i : Nat) : Int).toNat]? = some x) (hp : p x = false) : (l.take (i + 1)).filter p = (l.take i).filter p := by
  rw [Int.toNat_natCast] at hx
  obtain ⟨hi, rfl⟩ := List.getElem?_eq_some_iff.1 hx
  rw [List.take_succ_eq_append_getElem hi, List.filter_append]
  simp [hp]
theorem map_snoc (l : List ByteArray) (x : ByteArray) : l.map AV.s ++ [AV.s x] = (l ++ [x]).map AV.s := by simp
theorem map_snoc' (l : List ByteArray) (x : ByteArray) : List.map AV.s l ++ [AV.raw (.string x)] = (l ++ [x]).map AV.s := by simp
def argsP (q : DPlain) : List ByteArray := if q.Kind = 5 then [] else q.Args.map DAtom.Var
def rawP (q : DPlain) : List ByteArray := argsP q ++ ((if q.Reset = true then [q.Every.Var] else []) ++ q.On.map DCond.Var)
def readsP (q : DPlain) : List ByteArray := (rawP q).filter fun s => decide (¬ s = ⟨#[]⟩)
theorem args_le (q : DPlain) : (argsP q).length ≤ q.Args.length := by unfold argsP; split <;> simp
theorem raw_le (q : DPlain) : (rawP q).length ≤ q.Args.length + q.On.length + 1 := by
  have := args_le q
  unfold rawP
  simp only [List.length_append, List.length_map]
  split <;> simp <;> omega
end Go.Abs
