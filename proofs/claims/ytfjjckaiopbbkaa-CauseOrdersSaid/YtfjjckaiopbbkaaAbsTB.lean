/-
  Orders found from the end; maps of what equations hang on.
-/
import Derived.Test.YtfjjckaiopbbkaaAbsTA
namespace Go.Abs
open Go
/-- The first one that is ready, found from the end: all from a + 1 on are looked at, b is the first of them that is ready, or -1. -/
def okDn (N H : List (List ByteArray)) (pl : List Bool) (a b : Int) : Prop :=
  (b = -1 ∧ ∀ j : Nat, a < j → j < N.length → readyF N H pl j = false) ∨ ∃ k : Nat, k < N.length ∧ a < k ∧ b = k ∧ readyF N H pl k = true ∧ ∀ j : Nat, a < j → j < k → readyF N H pl j = false
section
variable {N H : List (List ByteArray)} {pl : List Bool} {a b : Int}
theorem okDn.zero : okDn N H pl ((N.length : Int) - 1) (-1) := .inl ⟨rfl, fun j h1 h2 => by omega⟩
theorem okDn.hit (h : okDn N H pl a b) {i : Nat} (ha : a = i) (hi : i < N.length) (hr : readyF N H pl i = true) : okDn N H pl (a - 1) i :=
  .inr ⟨i, hi, by omega, rfl, hr, fun j h1 h2 => by omega⟩
theorem okDn.miss (h : okDn N H pl a b) {i : Nat} (ha : a = i) (hr : readyF N H pl i = false) : okDn N H pl (a - 1) b := by
  rcases h with ⟨h0, h⟩ | ⟨k, h1, h2, h3, h4, h5⟩
  · refine .inl ⟨h0, fun j hj hl => ?_⟩
    by_cases e : j = i
    · subst e; exact hr
    · exact h j (by omega) hl
  · refine .inr ⟨k, h1, by omega, h3, h4, fun j hj hl => ?_⟩
    by_cases e : j = i
    · subst e; exact hr
    · exact h5 j (by omega) hl
theorem okDn.none_ (h : okDn N H pl a b) (ha : ¬ a ≥ 0) (hb : b < 0) : pickF N H pl 0 N.length = none := by
  rcases h with ⟨_, h⟩ | ⟨k, _, _, h, _⟩
  · exact pick_none fun j _ hj => h j (by omega) (by omega)
  · omega
theorem okDn.got (h : okDn N H pl a b) (ha : ¬ a ≥ 0) (hb : ¬ b < 0) : ∃ k : Nat, b = k ∧ k < N.length ∧ pickF N H pl 0 N.length = some k ∧ pl[k]? = some false := by
  rcases h with ⟨h, _⟩ | ⟨k, h1, h2, h3, h4, h5⟩
  · omega
  · exact ⟨k, h3, h1, pick_some (by omega) (by omega) (fun j _ hj => h5 j (by omega) hj) h4, ready_pl h4⟩
end
/-- What a map of equations says: each that is not placed, and what it hangs on. -/
def EqM (f : Value → Option AV) (H : List (List ByteArray)) (pl : List Bool) : Prop := ∀ i : Nat, f (.int .i64 (i : Int)) = (match pl[i]?, H[i]? with | some false, some hs => some (.lst 1 (hs.map AV.s) none) | _, _ => none)
theorem keyEq_int (a b : Int) : keyEq (.int .i64 a) (.int .i64 b) = decide (a = b) := by
  by_cases h : a = b
  · subst h; simp [keyEq]
  · simp [keyEq, h]
theorem EqM.nil {H : List (List ByteArray)} : EqM (fun _ => none) H [] := fun i => by simp
theorem EqM.put {f : Value → Option AV} {H : List (List ByteArray)} {i : Nat} {hs : List ByteArray} (h : EqM f H (List.replicate i false)) (hh : H[i]? = some hs) : EqM (mput f (.int .i64 (i : Int)) (.lst 1 (hs.map AV.s) none)) H (List.replicate (i + 1) false) := by
  intro j
  unfold mput
  rw [keyEq_int]
  by_cases e : j = i
  · subst e
    have : (List.replicate (j + 1) false)[j]? = some false := by rw [List.getElem?_replicate, if_pos (by omega)]
    rw [this, hh]
    simp
  · have e1 : decide ((j : Int) = (i : Int)) = false := by rw [decide_eq_false_iff_not]; omega
    rw [e1]
    have e2 : (List.replicate (i + 1) false)[j]? = (List.replicate i false)[j]? := by
      rw [List.getElem?_replicate, List.getElem?_replicate]
      by_cases q : j < i
      · rw [if_pos q, if_pos (by omega)]
      · rw [if_neg q, if_neg (by omega)]
    rw [e2]
    exact h j
theorem EqM.more {f : Value → Option AV} {H : List (List ByteArray)} {i : Nat} (h : EqM f H (List.replicate i false)) (n : Nat) : more (f (.int .i64 (i : Int))) n = n + 1 := by
  have := h i
  rw [show (List.replicate i false)[i]? = none by rw [List.getElem?_replicate, if_neg (by omega)]] at this
  rw [this]
  rfl
theorem EqM.cut {f : Value → Option AV} {H : List (List ByteArray)} {pl : List Bool} {i : Nat} (h : EqM f H pl) : EqM (mcut f (.int .i64 (i : Int))) H (pl.set i true) := by
  intro j
  unfold mcut
  rw [keyEq_int]
  by_cases e : j = i
  · subst e
    have e2 : (pl.set j true)[j]? = some true ∨ (pl.set j true)[j]? = none := by
      rw [List.getElem?_set]
      simp only [if_true]
      by_cases q : j < pl.length
      · left; rw [if_pos q]
      · right; rw [if_neg q]
    rcases e2 with e2 | e2 <;> rw [e2] <;> simp
  · have e1 : decide ((j : Int) = (i : Int)) = false := by rw [decide_eq_false_iff_not]; omega
    rw [e1, List.getElem?_set, if_neg (fun q => e q.symm)]
    exact h j
theorem EqM.at {f : Value → Option AV} {H : List (List ByteArray)} {pl : List Bool} {i : Nat} {hs : List ByteArray} (h : EqM f H pl) (hp : pl[i]? = some false) (hh : H[i]? = some hs) : f (.int .i64 (i : Int)) = some (.lst 1 (hs.map AV.s) none) := by
  rw [h i, hp, hh]
theorem EqM.no {f : Value → Option AV} {H : List (List ByteArray)} {pl : List Bool} {i : Nat} (h : EqM f H pl) (hp : pl[i]? = some true) : f (.int .i64 (i : Int)) = none := by
  rw [h i, hp]
theorem EqM.less {f : Value → Option AV} {H : List (List ByteArray)} {pl : List Bool} {i : Nat} {hs : List ByteArray} (h : EqM f H pl) (hp : pl[i]? = some false) (hh : H[i]? = some hs) (n : Nat) : less (f (.int .i64 (i : Int))) n = n - 1 := by
  rw [h.at hp hh]; rfl
end Go.Abs
