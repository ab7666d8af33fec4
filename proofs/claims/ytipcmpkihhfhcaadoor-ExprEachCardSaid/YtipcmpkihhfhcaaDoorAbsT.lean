/-
  Maps of counts, turned by loops; what contains tells.
-/
import Derived.Test.YtipcmpkihhfhcaaDoorAbsU
import Derived.Test.YtipcmpkihhfhcaaDoorAbsZ
namespace Go.Abs
open Go
/-- Names counted into a map, as far as the k-th. -/
theorem MapN.up {f : Value → Option AV} {a : ByteArray → Nat} {l : List ByteArray} {k : Nat} {x : ByteArray} (h : MapN f (fun s => a s + cntL s (l.take k))) (hx : l[((k : Nat) : Int).toNat]? = some x) : MapN (mput f (.string x) (.raw (.int .i64 ((a x + cntL x (l.take k) + 1 : Nat) : Int)))) (fun s => a s + cntL s (l.take (k + 1))) := by
  rw [Int.toNat_natCast] at hx
  obtain ⟨hi, rfl⟩ := List.getElem?_eq_some_iff.1 hx
  refine h.put _ _ _ ?_ fun s hs => ?_
  · simp only [cntL_take hi, if_true, Nat.add_assoc]
  · have : ¬ l[k] = s := fun e => hs e.symm
    simp only [cntL_take hi, if_neg this, Nat.add_zero]
theorem MapN.upW {f : Value → Option AV} {a : ByteArray → Nat} {l : List ByteArray} {k : Nat} {x : ByteArray} (h : MapN f (fun s => a s + cntL s (l.take k))) (hx : l[((k : Nat) : Int).toNat]? = some x) (hb : a x + cntL x (l.take k) ≤ 1000000) :
    MapN (mput f (.string x) (.raw (.int .i64 (IntKind.i64.wrap (((a x + cntL x (l.take k) : Nat) : Int) + 1))))) (fun s => a s + cntL s (l.take (k + 1))) := by
  rw [wrap_in _ (by omega) (by omega)]
  exact h.up hx
/-- Names counted out of a map. -/
theorem MapN.down {f : Value → Option AV} {g b : ByteArray → Nat} {l : List ByteArray} {k : Nat} {x : ByteArray} (h : MapN f g) (hg : ∀ s, g s + cntL s (l.take k) = b s) (hb : ∀ s, cntL s l ≤ b s) (hx : l[((k : Nat) : Int).toNat]? = some x) :
    1 ≤ g x ∧ ∃ g', MapN (mput f (.string x) (.raw (.int .i64 ((g x : Int) - 1)))) g' ∧ ∀ s, g' s + cntL s (l.take (k + 1)) = b s := by
  rw [Int.toNat_natCast] at hx
  obtain ⟨hi, rfl⟩ := List.getElem?_eq_some_iff.1 hx
  have h1 := hg l[k]
  have h2 := hb l[k]
  have h3 := cntL_take (s := l[k]) hi
  have h4 := cntL_take_le l[k] l (k + 1)
  rw [if_pos rfl] at h3
  have h5 : 1 ≤ g l[k] := by omega
  refine ⟨h5, fun s => if s = l[k] then g l[k] - 1 else g s, ?_, fun s => ?_⟩
  · have := h.put l[k] (g l[k] - 1) (fun s => if s = l[k] then g l[k] - 1 else g s) (by simp) (fun s hs => by simp [hs])
    have e : ((g l[k] - 1 : Nat) : Int) = (g l[k] : Int) - 1 := by omega
    rw [e] at this
    exact this
  · have h6 := hg s
    by_cases e : s = l[k]
    · subst e
      simp only [if_true]
      omega
    · have : ¬ l[k] = s := fun q => e q.symm
      simp only [if_neg e, cntL_take hi, if_neg this]
      omega
theorem MapN.downW {f : Value → Option AV} {g b : ByteArray → Nat} {l : List ByteArray} {k : Nat} {x : ByteArray} (h : MapN f g) (hg : ∀ s, g s + cntL s (l.take k) = b s) (hb : ∀ s, cntL s l ≤ b s) (hx : l[((k : Nat) : Int).toNat]? = some x) (hn : b x ≤ 1000000) :
    ∃ g', MapN (mput f (.string x) (.raw (.int .i64 (IntKind.i64.wrap ((g x : Int) - 1))))) g' ∧ ∀ s, g' s + cntL s (l.take (k + 1)) = b s := by
  obtain ⟨h1, h2⟩ := h.down hg hb hx
  have := hg x
  rw [wrap_in _ (by omega) (by omega)]
  exact h2
theorem cnt_bnd {N : List (List ByteArray)} {i : Nat} {q : List ByteArray} (hq : N[i]? = some q) (s : ByteArray) (j : Nat) : cntL s (N.take i).flatten + cntL s (q.take j) ≤ N.flatten.length := by
  obtain ⟨hi, rfl⟩ := List.getElem?_eq_some_iff.1 hq
  have h1 := take_flatten_le N (i + 1)
  rw [List.take_succ_eq_append_getElem hi] at h1
  simp only [List.flatten_append, List.length_append, List.flatten_cons, List.flatten_nil, List.append_nil] at h1
  have h2 := cntL_le s (N.take i).flatten
  have h3 := cntL_take_le s N[i] j
  have h4 := cntL_le s N[i]
  omega
theorem cnt_step {N : List (List ByteArray)} {i : Nat} {q : List ByteArray} (hq : N[i]? = some q) {j : Nat} (hj : q.length ≤ j) (s : ByteArray) : cntL s (N.take i).flatten + cntL s (q.take j) = cntL s (N.take (i + 1)).flatten := by
  obtain ⟨hi, rfl⟩ := List.getElem?_eq_some_iff.1 hq
  rw [List.take_of_length_le hj, List.take_succ_eq_append_getElem hi, List.flatten_append, cntL_append]
  simp
theorem cnt_all {N : List (List ByteArray)} {i : Nat} (hi : N.length ≤ i) (s : ByteArray) : cntL s (N.take i).flatten = opn s N (List.replicate N.length false) := by
  rw [List.take_of_length_le hi, opn_all]
theorem MapN.at {f : Value → Option AV} {g : ByteArray → Nat} (h : MapN f g) (s : ByteArray) : orZ (f (.string s)) (.raw (.int .i64 0)) = .raw (.int .i64 (g s)) := h s
theorem idx_any {α : Type} (p : α → Bool) (l : List α) : decide (idxOf p l ≥ 0) = l.any p := by
  rcases idxOf_cases p l with ⟨h1, h2⟩ | ⟨i, x, h1, h2, h3, h4, _⟩
  · rw [h1]
    have : l.any p = false := by
      rw [Bool.eq_false_iff]
      intro e
      obtain ⟨x, hx, hp⟩ := List.any_eq_true.1 e
      have := List.find?_eq_none.1 h2 x hx
      contradiction
    rw [this]; decide
  · rw [h1]
    have : l.any p = true := List.any_eq_true.2 ⟨x, List.mem_of_getElem? h2, h4⟩
    rw [this, decide_eq_true_eq]; omega
end Go.Abs
