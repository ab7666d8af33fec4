import Derived.Test.YtipcmpkihhfhcaaDoorIdX2
import Derived.Test.YtipcmpkihhfhcaaDoorAbsT
namespace Go.Proofs.YtipcmpkihhfhcaaDoor
open Go.Abs
set_option maxRecDepth 20000
set_option linter.unusedSimpArgs false
set_option linter.unusedVariables false
set_option maxHeartbeats 1000000
attribute [local irreducible] vc vcOps vcStep vcGuard prK hrK gK gsK brK callK ElemK SeqK BlockK ScopeK OpsK CallK LoopK LoopGo finPost ACall PCall PCallE BCall vqOps vqStep vqGuard qrK heK pcK gqK gqsK QOpsK qcallK DrawK
noncomputable def onceB (l : List ByteArray) : Bool := @decide l.Nodup (Classical.propDecidable _)
theorem onceB_yes {l : List ByteArray} (h : l.Nodup) : onceB l = true := by unfold onceB; simp [h]
theorem onceB_no {l : List ByteArray} (h : ¬ l.Nodup) : onceB l = false := by unfold onceB; simp [h]
attribute [irreducible] onceB
theorem nodup_step {l : List ByteArray} {i : Nat} {x : ByteArray} (h : (l.take i).Nodup) (hx : l[i]? = some x) (hn : x ∉ l.take i) : (l.take (i + 1)).Nodup := by
  obtain ⟨hi, rfl⟩ := List.getElem?_eq_some_iff.1 hx
  rw [List.take_succ_eq_append_getElem hi, List.nodup_append]
  refine ⟨h, by simp, fun a ha b hb e => ?_⟩
  rw [List.mem_singleton.1 hb] at e
  exact hn (e ▸ ha)
theorem nodup_bad {l : List ByteArray} {i : Nat} {x : ByteArray} (hx : l[i]? = some x) (hm : x ∈ l.take i) : ¬ l.Nodup := by
  intro h
  obtain ⟨hi, rfl⟩ := List.getElem?_eq_some_iff.1 hx
  have h' : (l.take i ++ l[i] :: l.drop (i + 1)).Nodup := by rw [← List.drop_eq_getElem_cons hi, List.take_append_drop]; exact h
  rw [List.nodup_append] at h'
  exact h'.2.2 l[i] hm l[i] List.mem_cons_self rfl
theorem nodup_all {l : List ByteArray} {i : Nat} (h : (l.take i).Nodup) (hi : l.length ≤ i) : onceB l = true := onceB_yes (by rwa [List.take_of_length_le hi] at h)
theorem mem_take {l : List ByteArray} {k i : Nat} {x y : ByteArray} (hk : l[((k : Int)).toNat]? = some y) (hlt : k < i) (e : y = x) : x ∈ l.take i := by
  rw [Int.toNat_natCast] at hk
  rw [List.mem_take_iff_getElem]
  obtain ⟨hi, he⟩ := List.getElem?_eq_some_iff.1 hk
  exact ⟨k, by omega, by rw [he, e]⟩
theorem ostep {l : List ByteArray} {i k : Nat} {x y : ByteArray} (h : ∀ x, l[i]? = some x → x ∉ l.take k) (hx : l[((i : Int)).toNat]? = some x) (hy : l[((k : Int)).toNat]? = some y) (hn : ¬ y = x) : ∀ x, l[i]? = some x → x ∉ l.take (k + 1) := by
  rw [Int.toNat_natCast] at hx hy
  intro z hz
  rw [hx] at hz
  cases hz
  exact not_step (p := True) (fun _ => h x hx) hy (fun _ => hn) trivial
theorem oend {l : List ByteArray} {i k : Nat} (hN : (l.take i).Nodup) (h : ∀ x, l[i]? = some x → x ∉ l.take k) (hk : k = i) (hi : i < l.length) : (l.take (i + 1)).Nodup := by
  subst hk
  exact nodup_step hN (List.getElem?_eq_getElem hi) (h _ (List.getElem?_eq_getElem hi))
end Go.Proofs.YtipcmpkihhfhcaaDoor
