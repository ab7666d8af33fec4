/-
  The steps of an order.
-/
import Derived.Test.YtipcmpkihhfhcaaAbsT
namespace Go.Abs
open Go
theorem blk_app {h r : List Blk} {k : Nat} {cs : List AV} (hb : blkCells h k = some cs) : blkCells (h ++ r) k = some cs := by
  obtain ⟨t, ht⟩ := blk_at hb
  unfold blkCells
  rw [at_old ht]
abbrev AV.n (n : Nat) : AV := .raw (.int .i64 (n : Int))
def okAt (N H : List (List ByteArray)) (pl : List Bool) (i : Nat) (a : Int) : Prop :=
  (a = -1 ∧ ∀ j, j < i → readyF N H pl j = false) ∨ ∃ k : Nat, k < i ∧ a = k ∧ readyF N H pl k = true ∧ ∀ j, j < k → readyF N H pl j = false
section
variable {N H : List (List ByteArray)} {pl : List Bool} {i : Nat} {a : Int}
theorem okAt.zero : okAt N H pl 0 (-1) := .inl ⟨rfl, fun j h => by omega⟩
theorem okAt.hit (h : okAt N H pl i a) (ha : a < 0) (hr : readyF N H pl i = true) : okAt N H pl (i + 1) (i : Int) := by
  rcases h with ⟨_, h⟩ | ⟨k, _, h, _⟩
  · exact .inr ⟨i, by omega, rfl, hr, h⟩
  · omega
theorem okAt.miss (h : okAt N H pl i a) (ha : a < 0) (hr : readyF N H pl i = false) : okAt N H pl (i + 1) a := by
  rcases h with ⟨h0, h⟩ | ⟨k, _, h, _⟩
  · refine .inl ⟨h0, fun j hj => ?_⟩
    by_cases e : j = i
    · subst e; exact hr
    · exact h j (by omega)
  · omega
theorem okAt.none_ (h : okAt N H pl i a) (ha : a < 0) (hi : N.length ≤ i) : pickF N H pl 0 N.length = none := by
  rcases h with ⟨_, h⟩ | ⟨k, _, h, _⟩
  · exact pick_none fun j _ hj => h j (by omega)
  · omega
theorem okAt.got (h : okAt N H pl i a) (ha : ¬ a < 0) (hi : i ≤ N.length) : ∃ k : Nat, a = k ∧ k < N.length ∧ pickF N H pl 0 N.length = some k ∧ pl[k]? = some false := by
  rcases h with ⟨h, _⟩ | ⟨k, h1, h2, h3, h4⟩
  · omega
  · exact ⟨k, h2, by omega, pick_some (by omega) (by omega) (fun j _ hj => h4 j hj) h3, ready_pl h3⟩
theorem order_none {k : Nat} {out : List Nat} (h : pickF N H pl 0 N.length = none) (hk : 0 < k) : orderG N H k pl out = (out, false) := by
  obtain ⟨m, rfl⟩ : ∃ m, k = m + 1 := ⟨k - 1, by omega⟩
  rw [orderG, h]
theorem order_some {k j : Nat} {out : List Nat} (h : pickF N H pl 0 N.length = some j) (hk : 0 < k) : orderG N H k pl out = orderG N H (k - 1) (pl.set j true) (out ++ [j]) := by
  obtain ⟨m, rfl⟩ : ∃ m, k = m + 1 := ⟨k - 1, by omega⟩
  rw [orderG, h]
  rfl
theorem not_next {p : Nat → Prop} (h : ∀ j, j < i → p j) (hi : p i) : ∀ j, j < i + 1 → p j := fun j hj => by
  by_cases e : j = i
  · subst e; exact hi
  · exact h j (by omega)
theorem dropB' {pl : List Bool} {i : Nat} {b : Bool} (h : pl[i]? = some b) : pl.drop i = b :: pl.drop (i + 1) := by
  obtain ⟨hi, rfl⟩ := List.getElem?_eq_some_iff.1 h
  exact List.drop_eq_getElem_cons hi
theorem set_b (pl : List Bool) (k : Nat) (b : Bool) : (pl.map AV.b).set k (AV.b b) = (pl.set k b).map AV.b := List.map_set.symm
theorem set_b' (pl : List Bool) (k : Nat) (b : Bool) : (pl.map AV.b).set k (.raw (.bool b)) = (pl.set k b).map AV.b := List.map_set.symm
theorem any_waits (N : List (List ByteArray)) (pl : List Bool) (l : List ByteArray) : (l.any fun s => decide (((opn s N pl : Nat) : Int) > 0)) = l.any fun s => waitsF N pl s := by
  have : (fun s => decide (((opn s N pl : Nat) : Int) > 0)) = fun s => waitsF N pl s := by
    funext s
    simp only [waitsF, decide_eq_decide]
    omega
  rw [this]
theorem ready_any {hs : List ByteArray} (hp : pl[i]? = some false) (h : H[i]? = some hs) {b : Bool} (hb : (hs.any fun s => waitsF N pl s) = b) : readyF N H pl i = !b := by
  cases b with
  | true =>
    obtain ⟨s, hs, hw⟩ := List.any_eq_true.1 hb
    exact ready_wait h hs hw
  | false =>
    refine ready_yes hp h fun s hs => ?_
    have := List.any_eq_false.1 hb s hs
    simpa using this
end
theorem order_lens {N H : List (List ByteArray)} : ∀ (k : Nat) (pl : List Bool) (out : List Nat), (∀ j ∈ out, j < N.length) → ∀ j ∈ (orderG N H k pl out).1, j < N.length
  | 0, _, _, h => h
  | k + 1, pl, out, h => by
    rw [orderG]
    cases hp : pickF N H pl 0 N.length with
    | none => exact h
    | some i =>
      refine order_lens k _ _ fun j hj => ?_
      rcases List.mem_append.1 hj with q | q
      · exact h j q
      · simp at q; subst q; have := (pick_lt hp).1; omega
theorem order_len {N H : List (List ByteArray)} : ∀ (k : Nat) (pl : List Bool) (out : List Nat), (orderG N H k pl out).1.length ≤ out.length + k
  | 0, _, _ => by simp [orderG]
  | k + 1, pl, out => by
    rw [orderG]
    cases pickF N H pl 0 N.length with
    | none => dsimp only; omega
    | some i => have := order_len (N := N) (H := H) k (pl.set i true) (out ++ [i]); dsimp only; simp at this; omega
end Go.Abs
