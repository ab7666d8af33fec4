import Derived.Test.YtipcmpkihhfhcaaDoorTab
import Derived.Test.YtipcmpkihhfhcaaDoorAbsX
import Derived.Test.YtipcmpkihhfhcaaDoorAbsI
import Derived.Test.YtipcmpkihhfhcaaDoorAbsV
namespace Go.Proofs.YtipcmpkihhfhcaaDoor
open Go.Abs
set_option maxRecDepth 20000
set_option linter.unusedSimpArgs false
set_option linter.unusedVariables false
set_option maxHeartbeats 1000000
attribute [local irreducible] vc vcOps vcStep vcGuard prK hrK gK gsK brK callK ElemK SeqK BlockK ScopeK OpsK CallK LoopK LoopGo finPost ACall PCall PCallE BCall vqOps vqStep vqGuard qrK heK pcK gqK gqsK QOpsK qcallK DrawK
theorem moX : Tryd.prog.follows .mixedOrders = true := by kernel_rfl
theorem mo : Tryd.prog.follows .mixedOrders = true := moX

theorem bat {t : ByteArray} {i : Nat} {c : UInt8} (h : (bts t)[i]? = some c) : (t.data.toList.getD ((i : Int)).toNat 0).toNat = c.toNat := by
  rw [Int.toNat_natCast, List.getD_eq_getElem?_getD, show t.data.toList[i]? = some c from h]
  rfl
theorem bts_at {t : ByteArray} {i : Nat} (h : i < t.size) : ∃ c, (bts t)[i]? = some c := ⟨_, List.getElem?_eq_getElem (by rw [bts_len]; exact h)⟩
theorem bts_cons {t : ByteArray} {c : UInt8} (h : (bts t)[0]? = some c) : ∃ l, bts t = c :: l := by
  cases hb : bts t with
  | nil => rw [hb] at h; cases h
  | cons x l => rw [hb] at h; cases h; exact ⟨l, rfl⟩
theorem all_no {t : ByteArray} {i : Nat} {c : UInt8} {p : UInt8 → Bool} (h : (bts t)[i]? = some c) (hp : p c = false) : (bts t).all p = false := by
  rw [List.all_eq_false]
  exact ⟨c, List.mem_of_getElem? h, by simp [hp]⟩
theorem all_yes {t : ByteArray} {i : Nat} {p : UInt8 → Bool} (h : ∀ c ∈ (bts t).take i, p c = true) (hi : t.size ≤ i) : (bts t).all p = true :=
  List.all_eq_true.2 fun c hc => by
    rw [List.take_of_length_le (by rw [bts_len]; exact hi)] at h
    exact h c hc

theorem word_no {t : ByteArray} {i : Nat} (h : ∀ w ∈ words.take i, ¬ w = t) (hi : words.length ≤ i) : wordF t = false := by
  unfold wordF
  rw [List.any_eq_false]
  intro w hw
  rw [List.take_of_length_le hi] at h
  simpa using fun e => h w hw e.symm
theorem word_yes {t w : ByteArray} (h : w ∈ words) (e : w = t) : wordF t = true := by
  unfold wordF
  rw [List.any_eq_true]
  exact ⟨w, h, by simp [e]⟩
end Go.Proofs.YtipcmpkihhfhcaaDoor
