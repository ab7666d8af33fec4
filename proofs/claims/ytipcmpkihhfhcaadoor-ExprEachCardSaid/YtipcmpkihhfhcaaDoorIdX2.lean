import Derived.Test.YtipcmpkihhfhcaaDoorIdX
import Derived.Test.YtipcmpkihhfhcaaDoorAbsJ
namespace Go.Proofs.YtipcmpkihhfhcaaDoor
open Go.Abs
set_option maxRecDepth 20000
set_option linter.unusedSimpArgs false
set_option linter.unusedVariables false
set_option maxHeartbeats 1000000
attribute [local irreducible] vc vcOps vcStep vcGuard prK hrK gK gsK brK callK ElemK SeqK BlockK ScopeK OpsK CallK LoopK LoopGo finPost ACall PCall PCallE BCall vqOps vqStep vqGuard qrK heK pcK gqK gqsK QOpsK qcallK DrawK
theorem numG_bad {t : ByteArray} (h : ¬ (1 ≤ t.size ∧ t.size ≤ 3)) : numG t = false := by
  unfold numG
  rcases Classical.em (1 ≤ t.size) with q | q
  · have : ¬ t.size ≤ 3 := fun q' => h ⟨q, q'⟩
    simp [this]
  · simp [q]
theorem partF_one {t p : ByteArray} {l : List ByteArray} (hp : pieces 46 t = l) (hl : l.length = 1) (h0 : l[0]? = some p) : partF t = lowF p := by
  match l, hl with
  | [x], _ => simp at h0; subst h0; unfold partF; rw [hp]
theorem partF_two {t p q : ByteArray} {l : List ByteArray} (hp : pieces 46 t = l) (hl : l.length = 2) (h0 : l[0]? = some p) (h1 : l[1]? = some q) : partF t = (lowF p && numG q) := by
  match l, hl with
  | [x, y], _ => simp at h0 h1; subst h0; subst h1; unfold partF; rw [hp]
theorem partF_more {t : ByteArray} {l : List ByteArray} (hp : pieces 46 t = l) (hl : 2 < l.length) : partF t = false := by
  match l, hl with
  | x :: y :: z :: l, _ => unfold partF; rw [hp]
theorem partF_low0 {t p : ByteArray} {l : List ByteArray} (hp : pieces 46 t = l) (h0 : l[0]? = some p) (h : lowF p = false) : partF t = false := by
  unfold partF
  rw [hp]
  match l with
  | [] => rfl
  | [x] => simp at h0; subst h0; exact h
  | [x, y] => simp at h0; subst h0; simp [h]
  | x :: y :: z :: l => rfl
theorem numG_of {t : ByteArray} {b : Bool} {c : UInt8} (h1 : 1 ≤ t.size) (h2 : t.size ≤ 3) (h0 : (bts t)[0]? = some c) (h48 : ¬ c.toNat = 48) (hb : ((bts t).all fun c => inB 48 57 c.toNat) = b) : numG t = b := by
  unfold numG
  obtain ⟨l, hl⟩ := bts_cons h0
  rw [decide_eq_true h1, decide_eq_true h2, hb, hl]
  simp [firstNo0, h48]
theorem numG_48 {t : ByteArray} {c : UInt8} (h0 : (bts t)[0]? = some c) (h48 : c.toNat = 48) : numG t = false := by
  unfold numG
  obtain ⟨l, hl⟩ := bts_cons h0
  rw [hl]
  simp [firstNo0, h48]
end Go.Proofs.YtipcmpkihhfhcaaDoor
