import Derived.Test.YtipcmpkihhfhcaaDoorRightD
import Derived.Test.YtipcmpkihhfhcaaDoorSmallE
namespace Go.Proofs.YtipcmpkihhfhcaaDoor
open Go.Abs
set_option maxRecDepth 20000
set_option linter.unusedSimpArgs false
set_option linter.unusedVariables false
set_option maxHeartbeats 1000000
attribute [local irreducible] vc vcOps vcStep vcGuard prK hrK gK gsK brK callK ElemK SeqK BlockK ScopeK OpsK CallK LoopK LoopGo finPost ACall PCall PCallE BCall vqOps vqStep vqGuard qrK heK pcK gqK gqsK QOpsK qcallK DrawK
theorem mem_partsL {l : List Ex} {y : Ex} (h : y ∈ partsL l) : ∃ x ∈ l, y ∈ parts x := by
  induction l with
  | nil => simp [partsL] at h
  | cons x l ih =>
    simp only [partsL, List.mem_append] at h
    rcases h with h | h
    · exact ⟨x, by simp, h⟩
    · obtain ⟨z, hz, hy⟩ := ih h
      exact ⟨z, by simp [hz], hy⟩
theorem sub_partsL {l : List Ex} {x y : Ex} (hx : x ∈ l) (h : y ∈ parts x) : y ∈ partsL l := by
  induction l with
  | nil => simp at hx
  | cons z l ih =>
    simp only [partsL, List.mem_append]
    rcases List.mem_cons.1 hx with rfl | hx
    · exact .inl h
    · exact .inr (ih hx)
theorem sub_parts {e x y : Ex} (hx : x ∈ e.subs) (h : y ∈ parts x) : y ∈ parts e := by
  rw [parts_eq]
  exact List.mem_cons_of_mem _ (sub_partsL hx h)
theorem self_parts (e : Ex) : e ∈ parts e := by rw [parts_eq]; simp
theorem partE_len {e : Ex} (h : partE e = true) : (subsE e).1 ≤ e.subs.length ∧ (e.subs.length : Int) ≤ (subsE e).2 ∧ (e.kind = 8 → constE (e.subs.headD e) = true) := by
  unfold partE at h
  simp only [Bool.and_eq_true, Bool.or_eq_true, decide_eq_true_eq] at h
  refine ⟨h.1.1.2, h.1.2, fun hk => ?_⟩
  rcases h.2 with h2 | h2
  · exact absurd hk h2
  · exact h2
theorem leaf_subs {e : Ex} (h : partE e = true) (hk : e.kind = 1 ∨ e.kind = 2 ∨ e.kind = 4) : e.subs = [] := by
  have h2 := (partE_len h).2.1
  have h0 : (subsE e).2 = 0 := by rcases hk with q | q | q <;> simp [subsE, q]
  exact List.length_eq_zero_iff.1 (by omega)
theorem lit_none {e : Ex} (hr : ∀ x ∈ parts e, partE x = true) (h : litE e = true) : ∀ y ∈ parts e, ¬ isV y = true := by
  have he := hr e (self_parts e)
  unfold litE at h
  split at h
  · rename_i h5
    simp only [Bool.and_eq_true, decide_eq_true_eq] at h
    match hs : e.subs, h with
    | [z], h =>
      have hz : z.kind = 1 := h.2
      have hzz : z.subs = [] := leaf_subs (hr z (sub_parts (by simp [hs]) (self_parts z))) (.inl hz)
      intro y hy
      rw [parts_eq, hs] at hy
      simp only [partsL, parts_eq z, hzz, List.append_nil, List.mem_cons, List.not_mem_nil, or_false] at hy
      rcases hy with rfl | rfl
      · simp [isV, h5]
      · simp [isV, hz]
    | [], h => simp at h
    | _ :: _ :: _, h => simp at h
  · simp only [decide_eq_true_eq] at h
    intro y hy
    rw [parts_eq, leaf_subs he h] at hy
    simp only [partsL, List.mem_cons, List.not_mem_nil, or_false] at hy
    subst hy
    simp [isV]
    omega
theorem const_none {e : Ex} (hr : ∀ x ∈ parts e, partE x = true) (h : constE e = true) : ∀ y ∈ parts e, ¬ isV y = true := by
  unfold constE at h
  split at h
  · rename_i h14
    intro y hy
    rw [parts_eq] at hy
    rcases List.mem_cons.1 hy with rfl | hy
    · simp [isV, h14]
    · obtain ⟨x, hx, hy⟩ := mem_partsL hy
      exact lit_none (fun z hz => hr z (sub_parts hx hz)) (List.all_eq_true.1 h x hx) y hy
  · exact lit_none hr h
theorem depth_mem {l : List Ex} {x : Ex} (hx : x ∈ l) : depthE x ≤ depthL l := by
  induction l with
  | nil => simp at hx
  | cons y l ih =>
    simp only [depthL]
    rcases List.mem_cons.1 hx with rfl | hx
    · omega
    · have := ih hx; omega
theorem len_mem {l : List Ex} {x : Ex} (hx : x ∈ l) : (parts x).length ≤ (partsL l).length := by
  obtain ⟨k, hk, rfl⟩ := List.getElem_of_mem hx
  exact parts_le hk
theorem part_in : ∀ (e x : Ex), x ∈ parts e → (∀ y ∈ parts x, y ∈ parts e) ∧ (parts x).length ≤ (parts e).length ∧ depthE x ≤ depthE e := by
  intro e
  induction e using Ex.ind with
  | _ e ih =>
  intro x hx
  rw [parts_eq] at hx
  rcases List.mem_cons.1 hx with rfl | hx
  · exact ⟨fun y h => h, Nat.le_refl _, Nat.le_refl _⟩
  · obtain ⟨z, hz, hxz⟩ := mem_partsL hx
    obtain ⟨h1, h2, h3⟩ := ih z hz x hxz
    have h4 := len_mem hz
    have h5 := depth_mem hz
    refine ⟨fun y hy => sub_parts hz (h1 y hy), ?_, ?_⟩
    · rw [parts_eq e, List.length_cons]; omega
    · rw [depthE_eq e]; omega
theorem right_part {e x : Ex} (h : rightE e = true) (hx : x ∈ parts e) : rightE x = true := by
  obtain ⟨h1, h2, h3⟩ := part_in e x hx
  unfold rightE at *
  simp only [Bool.and_eq_true, decide_eq_true_eq] at *
  exact ⟨⟨by omega, by omega⟩, List.all_eq_true.2 fun y hy => List.all_eq_true.1 h.2 y (h1 y hy)⟩
theorem ok_part {e x : Ex} (h : okE e) (hx : x ∈ parts e) : okE x := by
  obtain ⟨h1, h2, h3⟩ := part_in e x hx
  exact ⟨Nat.le_trans h2 h.1, fun y hy => h.2 y (h1 y hy)⟩
end Go.Proofs.YtipcmpkihhfhcaaDoor
