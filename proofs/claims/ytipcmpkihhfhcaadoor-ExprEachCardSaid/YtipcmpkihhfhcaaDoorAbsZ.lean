/-
  The abstract layer, part Z: plain laws on lists that the contracts speak in.
-/
import Derived.Test.YtipcmpkihhfhcaaDoorAbsR
import Derived.Test.YtipcmpkihhfhcaaDoorAbsY
namespace Go.Abs
open Go.RowKit

/-- The first place at which p holds, or -1. -/
def idxOf {α : Type} (p : α → Bool) (l : List α) : Int :=
  match l.findIdx? p with
  | some i => (i : Nat)
  | none => -1

theorem idxOf_at {α : Type} {p : α → Bool} {l : List α} {i : Nat} {x : α} (h0 : ∀ y ∈ l.take i, p y = false) (hx : l[((i : Int)).toNat]? = some x) (hp : p x = true) : idxOf p l = (i : Int) := by
  rw [Int.toNat_natCast] at hx
  have : l.findIdx? p = some i := by
    rw [List.findIdx?_eq_some_iff_getElem]
    obtain ⟨hi, rfl⟩ := List.getElem?_eq_some_iff.1 hx
    refine ⟨hi, hp, fun j hj => ?_⟩
    have := h0 l[j] (List.mem_take_iff_getElem.2 ⟨j, by omega, rfl⟩)
    simp [this]
  simp [idxOf, this]

theorem idxOf_none {α : Type} {p : α → Bool} {l : List α} (h0 : ∀ y ∈ l, p y = false) : idxOf p l = -1 := by
  have : l.findIdx? p = none := by
    rw [List.findIdx?_eq_none_iff]
    exact h0
  simp [idxOf, this]
theorem idxOf_cases {α : Type} (p : α → Bool) (l : List α) : (idxOf p l = -1 ∧ l.find? p = none) ∨ ∃ (i : Nat) (x : α), idxOf p l = (i : Int) ∧ l[i]? = some x ∧ l.find? p = some x ∧ p x = true ∧ i < l.length := by
  cases h : l.findIdx? p with
  | none =>
    left
    refine ⟨by simp [idxOf, h], ?_⟩
    rw [List.findIdx?_eq_none_iff] at h
    rw [List.find?_eq_none]
    intro x hx
    simp [h x hx]
  | some i =>
    right
    have h0 := h
    rw [List.findIdx?_eq_some_iff_getElem] at h
    obtain ⟨hi, hp, hn⟩ := h
    refine ⟨i, l[i], by simp [idxOf, h0], List.getElem?_eq_getElem hi, ?_, hp, hi⟩
    rw [List.find?_eq_some_iff_getElem]
    exact ⟨hp, i, hi, rfl, fun j hj => by simpa using hn j hj⟩
theorem take_flatten_le {α : Type} (ls : List (List α)) (i : Nat) : (ls.take i).flatten.length ≤ ls.flatten.length := by
  have h : ls.flatten.length = (ls.take i ++ ls.drop i).flatten.length := by rw [List.take_append_drop]
  rw [List.flatten_append, List.length_append] at h
  omega
end Go.Abs
