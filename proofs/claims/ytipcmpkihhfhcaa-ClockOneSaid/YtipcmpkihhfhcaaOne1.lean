import Derived.Test.YtipcmpkihhfhcaaFits2
import Derived.Test.YtipcmpkihhfhcaaExD
namespace Go.Proofs.Ytipcmpkihhfhcaa
open Go.Abs
set_option maxRecDepth 20000
set_option linter.unusedSimpArgs false
set_option linter.unusedVariables false
set_option maxHeartbeats 1000000
attribute [local irreducible] vc vcOps vcStep vcGuard prK hrK gK gsK brK callK ElemK SeqK BlockK ScopeK OpsK CallK LoopK LoopGo finPost ACall PCall PCallE BCall vqOps vqStep vqGuard qrK heK pcK gqK gqsK QOpsK qcallK DrawK
theorem one_plain {R : ByteArray → List DCond × Bool} {L : List DEnum} : ∀ (e : Ex), (∀ x ∈ parts e, partE x = true) → (∃ y ∈ parts e, isV y = true) → ∀ a b : List DCond, fitsF R L e a = true → fitsF R L e b = true → a = b := by
  intro e
  induction e using Ex.ind with
  | _ e ih =>
  intro hr hv a b ha hb
  have he := hr e (self_parts e)
  have ih' : ∀ x ∈ e.subs, (∃ y ∈ parts x, isV y = true) → fitsF R L x a = true → fitsF R L x b = true → a = b := fun x hx hy => ih x hx (fun z hz => hr z (sub_parts hx hz)) hy a b
  have hsub : ¬ isV e = true → ∃ x ∈ e.subs, ∃ y ∈ parts x, isV y = true := by
    intro hn
    obtain ⟨y, hy, hvy⟩ := hv
    rw [parts_eq] at hy
    rcases List.mem_cons.1 hy with rfl | hy
    · exact absurd hvy hn
    · obtain ⟨x, hx, hy⟩ := mem_partsL hy
      exact ⟨x, hx, y, hy, hvy⟩
  rw [fitsF_eq] at ha hb
  split at ha
  · rename_i hk
    obtain ⟨x, hx, _⟩ := hsub (by simp [isV]; omega)
    rw [leaf_subs he hk] at hx
    simp at hx
  rename_i h124
  rw [if_neg h124] at hb
  split at ha
  · rename_i hk
    rw [if_pos hk] at hb
    simp only [Bool.and_eq_true] at ha hb
    exact (eqB_t ha.2).symm.trans (eqB_t hb.2)
  rename_i h3
  rw [if_neg h3] at hb
  split at ha
  · rename_i hk
    rw [if_pos hk] at hb
    simp only [Bool.and_eq_true, decide_eq_true_eq] at ha hb
    obtain ⟨x, hx, y, hy, hvy⟩ := hsub (by simp [isV, hk])
    match hs : e.subs, ha with
    | [u, w], ha =>
      rw [hs] at hx hb
      have hc := (partE_len he).2.2 hk
      rw [hs] at hc
      rcases List.mem_cons.1 hx with rfl | hx
      · exact absurd hvy (const_none (fun z hz => hr z (sub_parts (by simp [hs]) hz)) hc y hy)
      · have hxw : x = w := by simpa using hx
        subst hxw
        have h1 := ha.2
        have h2 := hb.2
        simp only [List.drop_succ_cons, List.drop_zero, fitsL_all, List.all_cons, List.all_nil, Bool.and_true] at h1 h2
        exact ih' x (by simp [hs]) ⟨y, hy, hvy⟩ h1 h2
    | [], ha => simp at ha
    | [_], ha => simp at ha
    | _ :: _ :: _ :: _, ha => simp at ha
  rename_i h8
  rw [if_neg h8] at hb
  split at ha
  · rename_i hk
    rw [if_pos hk] at hb
    simp only [Bool.and_eq_true] at ha hb
    exact (eqB_t ha.1.2).trans (eqB_t hb.1.2).symm
  rename_i h11
  rw [if_neg h11] at hb
  split at ha
  · rename_i hk
    rw [if_pos hk] at hb
    simp only [Bool.and_eq_true] at ha hb
    exact (eqB_t ha.1.1.2).symm.trans (eqB_t hb.1.1.2)
  rename_i h12
  rw [if_neg h12] at hb
  split at ha
  · cases ha
  rename_i h17
  rw [if_neg h17] at hb
  obtain ⟨x, hx, hy⟩ := hsub (by simp [isV]; omega)
  rw [fitsL_all] at ha hb
  exact ih' x hx hy (List.all_eq_true.1 ha x hx) (List.all_eq_true.1 hb x hx)
end Go.Proofs.Ytipcmpkihhfhcaa
