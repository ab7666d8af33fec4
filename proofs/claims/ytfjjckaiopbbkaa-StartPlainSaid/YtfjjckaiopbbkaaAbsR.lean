/-
  The abstract layer, part R: a loop's rule that keeps what the loop does not touch; calls that run in the caller's heap.
-/
import Derived.Test.YtfjjckaiopbbkaaAbsO
namespace Go.Abs
open Go.RowKit

section
variable {P : Program} {T : TypeId → TI} {s s' : List AV} {h h' : List Blk} {Q : Post} {c : Code}

def carried (C : List (Nat × AV)) (t : Nat) : Option AV :=
  match C with
  | [] => none
  | (u, v) :: r => match Nat.beq u t with
    | true => some v
    | false => carried r t

def inD (D : List Nat) (t : Nat) : Bool :=
  match D with
  | [] => false
  | u :: r => match Nat.beq u t with
    | true => true
    | false => inD r t

/-- A state: the slots of C as told, those of D whatever they are, the others as in the given one. -/
def mixC (D : List Nat) (C : List (Nat × AV)) (j : Nat → AV) : Nat → List AV → List AV
  | _, [] => []
  | k, a :: l => (match carried C k with | some v => v | none => match inD D k with | true => j k | false => a) :: mixC D C j (k + 1) l

def Agree (C : List (Nat × AV)) (s : List AV) : Prop := ∀ p ∈ C, s[p.1]? = some p.2
theorem Agree.nil : Agree [] s := by intro p hp; simp at hp
theorem Agree.cons {C : List (Nat × AV)} {t : Nat} {v : AV} (h : s[t]? = some v) (hv : Agree C s) : Agree ((t, v) :: C) s := by
  intro p hp
  rcases List.mem_cons.1 hp with rfl | hp
  · exact h
  · exact hv p hp

def Fr (D : List Nat) (s s' : List AV) : Prop := s' = mixC D [] (fun k => s'.getD k (.tup [])) 0 s

theorem mixC_at (D : List Nat) (C : List (Nat × AV)) (j : Nat → AV) : ∀ (s : List AV) (k i : Nat), (mixC D C j k s)[i]? = s[i]?.map fun a => match carried C (k + i) with | some v => v | none => match inD D (k + i) with | true => j (k + i) | false => a
  | [], k, i => by simp [mixC]
  | a :: l, k, 0 => by simp [mixC]
  | a :: l, k, i + 1 => by
    simp only [mixC, List.getElem?_cons_succ]
    rw [mixC_at D C j l (k + 1) i]
    have : k + 1 + i = k + (i + 1) := by omega
    rw [this]

theorem carried_some {C : List (Nat × AV)} {t : Nat} {v : AV} (h : carried C t = some v) : (t, v) ∈ C := by
  induction C with
  | nil => cases h
  | cons p r ih =>
    obtain ⟨u, x⟩ := p
    simp only [carried] at h
    split at h
    · rename_i hb
      cases h
      rw [Nat.eq_of_beq_eq_true hb]
      simp
    · exact List.mem_cons_of_mem _ (ih h)

theorem mix_eq {D : List Nat} {C : List (Nat × AV)} (hf : Fr D s s') (ha : Agree C s') : s' = mixC D C (fun k => s'.getD k (.tup [])) 0 s := by
  apply List.ext_getElem?
  intro i
  rw [mixC_at]
  rw [Nat.zero_add]
  have hi : s'[i]? = (mixC D [] (fun k => s'.getD k (.tup [])) 0 s)[i]? := congrArg (fun l => l[i]?) hf
  rw [mixC_at, Nat.zero_add] at hi
  cases hc : carried C i with
  | none => rw [hi]; simp [carried]
  | some v =>
    have := ha _ (carried_some hc)
    simp only at this
    rw [this]
    rw [this] at hi
    cases hs : s[i]? with
    | none => rw [hs] at hi; simp at hi
    | some a => simp

/-- What a round comes to, the heap told with it. -/
def FrI (I : Nat → List (Nat × AV) → List Blk → Prop) (D : List Nat) (s : List AV) (n : Nat) (s' : List AV) (h' : List Blk) : Prop := ∃ C, I n C h' ∧ Agree C s' ∧ Fr D s s'

theorem fr_self (D : List Nat) (s : List AV) : Fr D s s := by
  apply List.ext_getElem?
  intro i
  rw [mixC_at]
  cases hs : s[i]? with
  | none => simp
  | some a =>
    simp only [Option.map_some, carried, Nat.zero_add, Option.some.injEq]
    split <;> simp [List.getD_eq_getElem?_getD, hs]

/-- **A loop: the invariant tells the slots that it carries; all that the loop does not touch stays.** -/
theorem loop_fr (D : List Nat) (I : Nat → List (Nat × AV) → List Blk → Prop) (n0 : Nat) (C0 : List (Nat × AV)) (hi : I n0 C0 h) (hc : Agree C0 s)
    (hstep : ∀ n C j h', I n C h' → vc P T c (LoopK (FrI I D s) n Q) (mixC D C j 0 s) h') : vc P T (.loop c) Q s h := by
  refine loop_rule (FrI I D s) n0 ⟨C0, hi, hc, fr_self D s⟩ ?_
  rintro n s' h' ⟨C, hI, ha, hf⟩
  have := hstep n C (fun k => s'.getD k (.tup [])) h' hI
  rw [← mix_eq hf ha] at this
  exact this

theorem loopFr {I : Nat → List (Nat × AV) → List Blk → Prop} {D : List Nat} {n : Nat} (m : Nat) (hm : m < n) {C : List (Nat × AV)} (hi : I m C h') (ha : Agree C s') (hf : Fr D s s') : LoopGo (FrI I D s) n s' h' := ⟨m, hm, C, hi, ha, hf⟩

/-- The heap stays. -/
theorem loop_frH (D : List Nat) (I : Nat → List (Nat × AV) → Prop) (n0 : Nat) (C0 : List (Nat × AV)) (hi : I n0 C0) (hc : Agree C0 s)
    (hstep : ∀ n C j, I n C → vc P T c (LoopK (FrI (fun n C h' => I n C ∧ h' = h) D s) n Q) (mixC D C j 0 s) h) : vc P T (.loop c) Q s h :=
  loop_fr D (fun n C h' => I n C ∧ h' = h) n0 C0 ⟨hi, rfl⟩ hc fun n C j h' hI => by obtain ⟨hI, rfl⟩ := hI; exact hstep n C j hI

theorem loopFrH {I : Nat → List (Nat × AV) → Prop} {D : List Nat} {n : Nat} (m : Nat) (hm : m < n) {C : List (Nat × AV)} (hi : I m C) (ha : Agree C s') (hf : Fr D s s') : LoopGo (FrI (fun n C h' => I n C ∧ h' = h) D s) n s' h := ⟨m, hm, C, ⟨hi, rfl⟩, ha, hf⟩

/-- The heap gets more behind it. -/
theorem loop_frX (D : List Nat) (I : Nat → List (Nat × AV) → Prop) (n0 : Nat) (C0 : List (Nat × AV)) (hi : I n0 C0) (hc : Agree C0 s)
    (hstep : ∀ n C j r, I n C → vc P T c (LoopK (FrI (fun n C h' => I n C ∧ ∃ r, h' = h ++ r) D s) n Q) (mixC D C j 0 s) (h ++ r)) : vc P T (.loop c) Q s h :=
  loop_fr D (fun n C h' => I n C ∧ ∃ r, h' = h ++ r) n0 C0 ⟨hi, [], by simp⟩ hc fun n C j h' hI => by obtain ⟨hI, r, rfl⟩ := hI; exact hstep n C j r hI

theorem loopFrX {I : Nat → List (Nat × AV) → Prop} {D : List Nat} {n : Nat} (m : Nat) (hm : m < n) {C : List (Nat × AV)} (r : List Blk) (hi : I m C) (ha : Agree C s') (hf : Fr D s s') (hh : h' = h ++ r) : LoopGo (FrI (fun n C h' => I n C ∧ ∃ r, h' = h ++ r) D s) n s' h' := ⟨m, hm, C, ⟨hi, r, hh⟩, ha, hf⟩

theorem Agree.next {C : List (Nat × AV)} {t i : Nat} (h : s[t]? = some (.raw (.int .i64 (IntKind.i64.wrap ((i : Int) + 1))))) (hi : i < 9223372036854775807) (hv : Agree C s) : Agree ((t, .raw (.int .i64 ((i + 1 : Nat) : Int))) :: C) s := by
  have : IntKind.i64.wrap ((i : Int) + 1) = ((i + 1 : Nat) : Int) := by rw [IntKind.wrap_i64]; omega
  rw [this] at h
  exact .cons h hv

end
attribute [go_sem] mixC carried inD
end Go.Abs
