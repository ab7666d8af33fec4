/-
  The abstract layer, part G: how the abstract heap grows and is written.
-/
import Derived.Test.YtfjjckaiopbbkaaAbsF
namespace Go.Abs
open Go.RowKit

def upd (φ : Nat → Loc) (k : Nat) (l : Loc) : Nat → Loc := fun j => if j = k then l else φ j

theorem upd_same (φ : Nat → Loc) (k : Nat) (l : Loc) : upd φ k l k = l := by simp [upd]
theorem upd_other {φ : Nat → Loc} {k j : Nat} (l : Loc) (h : j ≠ k) : upd φ k l j = φ j := by simp [upd, h]

section
variable {S S' : Addr → Prop} {φ φ' : Nat → Loc} {h : List Blk} {w w' : World}

theorem heap_lt {w : World} {b : Nat} {o : Obj} (h : w.heap[b]? = some o) : b < w.heap.size := (Array.getElem?_eq_some_iff.1 h).1

theorem RB.keep {k : Nat} {x : Blk} (hb : RB S w φ k x) (hw : ∀ b, b < w.heap.size → blockOf (φ k) x = some b → w'.heap[b]? = w.heap[b]?)
    (hS : ∀ a, S a → S' a) (hc : ∀ a, S a → w'.cell? a = w.cell? a) (hφ : ∀ k, (φ k).le (φ' k)) (hk : φ' k = φ k)
    (hn : ∀ a, S' a → S a ∨ ∀ b, blockOf (φ k) x = some b → b < w.heap.size → a.block ≠ b) : RB S' w' φ' k x := by
  cases x with
  | cells t cs =>
    obtain ⟨b, vs, h1, h2, h3, h4, h5⟩ := hb
    have ho : blockOf (φ k) (.cells t cs) = some b := by rw [h1]; rfl
    refine ⟨b, vs, hk.trans h1, (hw b (heap_lt h2) ho).trans h2, h3.mono hS hc hφ, h4, fun a ha => ?_⟩
    rcases hn a ha with g | g
    · exact h5 a g
    · exact g b ho (heap_lt h2)
  | tok e sz n =>
    obtain ⟨u, h1, h2⟩ := hb
    refine ⟨u, hk.trans h1, ?_⟩
    rcases h2 with h2 | h2 | ⟨b, cap, vs, g1, g2, rfl, g4, g5, g6⟩
    · exact .inl h2
    · exact .inr (.inl h2)
    · have ho : blockOf (φ k) (.tok e sz n) = some b := by rw [h1]; simp [blockOf]; omega
      refine .inr (.inr ⟨b, cap, vs, g1, g2, rfl, (hw b (heap_lt g4) ho).trans g4, g5, fun a ha hab => ?_⟩)
      rcases hn a ha with g | g
      · exact g6 a g hab
      · exact absurd hab (g b ho (heap_lt g4))
  | own e sz es =>
    obtain ⟨u, h1, h2, h3⟩ := hb
    refine ⟨u, hk.trans h1, h2, ?_⟩
    rcases h3 with h3 | ⟨b, cap, vs, g1, g2, rfl, g4, g5, g6, g7⟩
    · exact .inl h3
    · have ho : blockOf (φ k) (.own e sz es) = some b := by rw [h1]; rfl
      refine .inr ⟨b, cap, vs, g1, g2, rfl, (hw b (heap_lt g4) ho).trans g4, g5, fun j c hj => ?_, fun a ha => ?_⟩
      · obtain ⟨x, q1, q2, q3⟩ := g6 j c hj
        exact ⟨x, q1, q2.mono hS hc hφ, q3⟩
      · rcases hn a ha with g | g
        · exact g7 a g
        · exact g b ho (heap_lt g4)
  | mp kk n f =>
    obtain ⟨b, es, clock, h1, h2, h3, h4, h5⟩ := hb
    have ho : blockOf (φ k) (.mp kk n f) = some b := by rw [h1]; rfl
    refine ⟨b, es, clock, hk.trans h1, (hw b (heap_lt h2) ho).trans h2, h3, h4.mono hS hc hφ, fun a ha => ?_⟩
    rcases hn a ha with g | g
    · exact h5 a g
    · exact g b ho (heap_lt h2)
  | dead => trivial

theorem owned_lt {k : Nat} {x : Blk} (hb : RB S w φ k x) {b : Nat} (ho : blockOf (φ k) x = some b) : b < w.heap.size := by
  cases x with
  | cells t cs =>
    obtain ⟨b', vs, h1, h2, _⟩ := hb
    rw [h1] at ho
    cases ho
    exact heap_lt h2
  | tok e sz n =>
    obtain ⟨u, h1, h2⟩ := hb
    rw [h1] at ho
    rcases h2 with ⟨rfl, _⟩ | ⟨a, rfl⟩ | ⟨b', cap, vs, g1, g2, rfl, g4, _⟩
    · simp [blockOf] at ho
    · simp [blockOf] at ho
    · simp only [blockOf] at ho
      rw [if_neg (by omega)] at ho
      cases ho
      exact heap_lt g4
  | own e sz es =>
    obtain ⟨u, h1, h2, h3⟩ := hb
    rw [h1] at ho
    rcases h3 with ⟨rfl, _⟩ | ⟨b', cap, vs, g1, g2, rfl, g4, _⟩
    · simp [blockOf] at ho
    · simp only [blockOf] at ho
      cases ho
      exact heap_lt g4
  | mp kk n f =>
    obtain ⟨b', es, clock, h1, h2, _⟩ := hb
    rw [h1] at ho
    cases ho
    exact heap_lt h2
  | dead => cases hl : φ k <;> simp [blockOf] at ho

theorem cell_of_heap {a : Addr} (h : w'.heap[a.block]? = w.heap[a.block]?) : w'.cell? a = w.cell? a := by simp [World.cell?, h]

/-- A new block of the call's own. -/
theorem R.push (r : R S φ h w) {l : Loc} {x : Blk} (hos : w'.os = w.os) (htape : w'.tape = w.tape) (hout : w'.output = w.output) (hsize : w.heap.size ≤ w'.heap.size)
    (hw : ∀ b, b < w.heap.size → w'.heap[b]? = w.heap[b]?) (hS : ∀ a, S a → S' a) (hn : ∀ a, S' a → S a ∨ w.heap.size ≤ a.block) (hbnd : ∀ a, S' a → a.block < w'.heap.size)
    (hb : RB S' w' (upd φ h.length l) h.length x) (ho : ∀ b, blockOf l x = some b → w.heap.size ≤ b) :
    R S' (upd φ h.length l) (h ++ [x]) w' ∧ Ext S φ h w S' (upd φ h.length l) (h ++ [x]) w' := by
  have hfr : φ h.length = .no := r.fresh _ (Nat.le_refl _)
  have hle : ∀ k, (φ k).le (upd φ h.length l k) := by
    intro k
    by_cases e : k = h.length
    · subst e; rw [hfr]; trivial
    · rw [upd_other _ e]; exact Loc.le_refl _
  have hc : ∀ a, S a → w'.cell? a = w.cell? a := fun a ha => cell_of_heap (hw _ (r.bnd a ha))
  have hold : ∀ (k : Nat) y, (h ++ [x])[k]? = some y → (k < h.length ∧ h[k]? = some y) ∨ (k = h.length ∧ y = x) := by
    intro k y hk
    rw [List.getElem?_append] at hk
    split at hk
    · rename_i hlt; exact .inl ⟨hlt, hk⟩
    · have := lookupD hk
      simp at this
      have e : k - h.length = 0 := by omega
      rw [e] at hk
      simp at hk
      exact .inr ⟨by omega, hk.symm⟩
  have howns : ∀ (k : Nat) y b, (h ++ [x])[k]? = some y → blockOf (upd φ h.length l k) y = some b → (k < h.length ∧ h[k]? = some y ∧ blockOf (φ k) y = some b ∧ b < w.heap.size) ∨ (k = h.length ∧ w.heap.size ≤ b) := by
    intro k y b hk hbk
    rcases hold k y hk with ⟨hlt, hk'⟩ | ⟨rfl, rfl⟩
    · rw [upd_other _ (by omega)] at hbk
      exact .inl ⟨hlt, hk', hbk, owned_lt (r.blk k y hk') hbk⟩
    · rw [upd_same] at hbk
      exact .inr ⟨rfl, ho b hbk⟩
  refine ⟨⟨fun k y hk => ?_, fun k k' y y' b hk hk' hb1 hb2 => ?_, hbnd, fun k hk => ?_⟩, ⟨hos, htape, hout, hsize, fun b hb _ => hw b hb, hS, hc, hle, fun a ha => ?_, fun b hb => ?_⟩⟩
  · rcases hold k y hk with ⟨hlt, hk'⟩ | ⟨rfl, rfl⟩
    · refine (r.blk k y hk').keep (fun b hb _ => hw b hb) hS hc hle (upd_other _ (by omega)) (fun a ha => ?_)
      rcases hn a ha with g | g
      · exact .inl g
      · exact .inr fun b _ hb => by omega
    · exact hb
  · rcases howns k y b hk hb1 with ⟨h1, h2, h3, h4⟩ | ⟨h1, h2⟩ <;> rcases howns k' y' b hk' hb2 with ⟨g1, g2, g3, g4⟩ | ⟨g1, g2⟩
    · exact r.inj k k' y y' b h2 g2 h3 g3
    · omega
    · omega
    · omega
  · rw [List.length_append, List.length_singleton] at hk
    rw [upd_other _ (by omega)]
    exact r.fresh k (by omega)
  · rcases hn a ha with g | g
    · exact .inl g
    · exact .inr (.inl g)
  · obtain ⟨k, y, hk, hbk⟩ := hb
    rcases howns k y b hk hbk with ⟨h1, h2, h3, h4⟩ | ⟨h1, h2⟩
    · exact .inl ⟨k, y, h2, h3⟩
    · exact .inr h2

/-- A block of the call's own is written, or moves. -/
theorem R.put (r : R S φ h w) {k : Nat} {y x : Blk} {l : Loc} (hk : h[k]? = some y) (hos : w'.os = w.os) (htape : w'.tape = w.tape) (hout : w'.output = w.output) (hsize : w.heap.size ≤ w'.heap.size)
    (hw : ∀ b, b < w.heap.size → blockOf (φ k) y ≠ some b → w'.heap[b]? = w.heap[b]?) (hS : ∀ a, S a → S' a) (hc : ∀ a, S a → w'.cell? a = w.cell? a)
    (hn : ∀ a, S' a → S a ∨ w.heap.size ≤ a.block ∨ blockOf (φ k) y = some a.block) (hbnd : ∀ a, S' a → a.block < w'.heap.size) (hl : (φ k).le l)
    (hb : RB S' w' (upd φ k l) k x) (ho : ∀ b, blockOf l x = some b → w.heap.size ≤ b ∨ blockOf (φ k) y = some b) :
    R S' (upd φ k l) (h.set k x) w' ∧ Ext S φ h w S' (upd φ k l) (h.set k x) w' := by
  have hlt : k < h.length := lookupD hk
  have hle : ∀ j, (φ j).le (upd φ k l j) := by
    intro j
    by_cases e : j = k
    · subst e; rw [upd_same]; exact hl
    · rw [upd_other _ e]; exact Loc.le_refl _
  have hold : ∀ (j : Nat) z, (h.set k x)[j]? = some z → (j ≠ k ∧ h[j]? = some z) ∨ (j = k ∧ z = x) := by
    intro j z hj
    rw [List.getElem?_set] at hj
    by_cases e : k = j
    · subst e; simp [hlt] at hj; exact .inr ⟨rfl, hj.symm⟩
    · rw [if_neg e] at hj; exact .inl ⟨fun e' => e e'.symm, hj⟩
  have howns : ∀ (j : Nat) z b, (h.set k x)[j]? = some z → blockOf (upd φ k l j) z = some b → (j ≠ k ∧ h[j]? = some z ∧ blockOf (φ j) z = some b ∧ b < w.heap.size) ∨ (j = k ∧ (w.heap.size ≤ b ∨ blockOf (φ k) y = some b)) := by
    intro j z b hj hbj
    rcases hold j z hj with ⟨hne, hj'⟩ | ⟨rfl, rfl⟩
    · rw [upd_other _ hne] at hbj
      exact .inl ⟨hne, hj', hbj, owned_lt (r.blk j z hj') hbj⟩
    · rw [upd_same] at hbj
      exact .inr ⟨rfl, ho b hbj⟩
  refine ⟨⟨fun j z hj => ?_, fun j j' z z' b hj hj' hb1 hb2 => ?_, hbnd, fun j hj => ?_⟩, ⟨hos, htape, hout, hsize, fun b hb hno => hw b hb (fun e => hno ⟨k, y, hk, e⟩), hS, hc, hle, fun a ha => ?_, fun b hb => ?_⟩⟩
  · rcases hold j z hj with ⟨hne, hj'⟩ | ⟨rfl, rfl⟩
    · refine (r.blk j z hj').keep (fun b hb hbo => hw b hb (fun e => hne (r.inj j k z y b hj' hk hbo e))) hS hc hle (upd_other _ hne) (fun a ha => ?_)
      rcases hn a ha with g | g | g
      · exact .inl g
      · exact .inr fun b _ hb => by omega
      · exact .inr fun b hbo _ e => hne (r.inj j k z y b hj' hk hbo (by rw [← e]; exact g))
    · exact hb
  · rcases howns j z b hj hb1 with ⟨h1, h2, h3, h4⟩ | ⟨h1, h2⟩ <;> rcases howns j' z' b hj' hb2 with ⟨g1, g2, g3, g4⟩ | ⟨g1, g2⟩
    · exact r.inj j j' z z' b h2 g2 h3 g3
    · rcases g2 with g2 | g2
      · omega
      · exact absurd (r.inj j k z y b h2 hk h3 g2) h1
    · rcases h2 with h2 | h2
      · omega
      · exact absurd (r.inj j' k z' y b g2 hk g3 h2) g1
    · omega
  · rw [List.length_set] at hj
    rw [upd_other _ (by omega)]
    exact r.fresh j hj
  · rcases hn a ha with g | g | g
    · exact .inl g
    · exact .inr (.inl g)
    · exact .inr (.inr ⟨k, y, hk, g⟩)
  · obtain ⟨j, z, hj, hbj⟩ := hb
    rcases howns j z b hj hbj with ⟨h1, h2, h3, h4⟩ | ⟨h1, h2 | h2⟩
    · exact .inl ⟨j, z, h2, h3⟩
    · exact .inr h2
    · exact .inl ⟨k, y, hk, h2⟩

end
end Go.Abs
