import Derived.Test.YtfjjckaiopbbkaaDoorTab
import Derived.Test.YtfjjckaiopbbkaaDoorAbsQ
import Derived.Test.YtfjjckaiopbbkaaDoorAbsY
namespace Go.Proofs.YtfjjckaiopbbkaaDoor
open Go.Abs
set_option maxRecDepth 20000
set_option linter.unusedSimpArgs false
set_option linter.unusedVariables false
set_option maxHeartbeats 1000000
attribute [local irreducible] vc vcOps vcStep vcGuard prK hrK gK gsK brK callK ElemK SeqK BlockK ScopeK OpsK CallK LoopK LoopGo finPost ACall PCall PCallE BCall vqOps vqStep vqGuard qrK heK pcK gqK gqsK QOpsK qcallK DrawK

theorem ty_list {α : Type} {enc : α → AV} {n : Nat} {t : TypeId} {q : α → Prop} (h : ∀ cs, Ty ti n t cs → ∃ x : α, mkT (ti t) cs = enc x ∧ q x) : ∀ {es : List (List AV)}, (∀ x ∈ es, Ty ti n t x) → ∃ l : List α, es.map (mkT (ti t)) = l.map enc ∧ ∀ x ∈ l, q x
  | [], _ => ⟨[], rfl, by simp⟩
  | x :: es, hx => by
    obtain ⟨y, hy, hq⟩ := h x (hx x (by simp))
    obtain ⟨l, hl, hql⟩ := ty_list h (es := es) fun z hz => hx z (by simp [hz])
    exact ⟨y :: l, by simp [hy, hl], by simp only [List.mem_cons]; rintro z (rfl | hz); exact hq; exact hql z hz⟩
theorem ty_slice {α : Type} {enc : α → AV} {t e sz : Nat} (hk : (ti t).kind = .slice e) (hs : (ti e).size = sz) {n : Nat} {q : α → Prop} (h : ∀ n' cs, n' < n → Ty ti n' e cs → ∃ x : α, mkT (ti e) cs = enc x ∧ q x) {cs : List AV} (hc : Ty ti n t cs) : ∃ l : List α, cs = [.lst sz (l.map enc) none] ∧ ∀ x ∈ l, q x := by
  cases n with
  | zero => exact hc.elim
  | succ n =>
    unfold Ty at hc
    simp only [hk] at hc
    obtain ⟨es, rfl, _, hes⟩ := hc
    obtain ⟨l, hl, hq⟩ := ty_list (enc := enc) (t := e) (fun cs hcs => h n cs (by omega) hcs) hes
    exact ⟨l, by rw [hl, hs], hq⟩
theorem ty_iK {t : Nat} (hk : (ti t).kind = .int .i64) {n : Nat} {cs : List AV} (h : Ty ti n t cs) : ∃ k : Int, cs = [.i k] ∧ I64 k := by
  cases n with
  | zero => exact h.elim
  | succ n =>
    unfold Ty at h
    simp only [hk] at h
    obtain ⟨k, rfl, hw⟩ := h
    simp only [Lit.wf, Bool.and_eq_true, decide_eq_true_eq] at hw
    exact ⟨k, rfl, (hw : (IntKind.i64.min : Int) ≤ k ∧ k ≤ IntKind.i64.max)⟩
theorem ty_uK {t : Nat} (hk : (ti t).kind = .int .u8) {n : Nat} {cs : List AV} (h : Ty ti n t cs) : ∃ k : Int, cs = [.raw (.int .u8 k)] ∧ 0 ≤ k ∧ k ≤ 255 := by
  cases n with
  | zero => exact h.elim
  | succ n =>
    unfold Ty at h
    simp only [hk] at h
    obtain ⟨k, rfl, hw⟩ := h
    simp only [Lit.wf, Bool.and_eq_true, decide_eq_true_eq] at hw
    exact ⟨k, rfl, (hw : (IntKind.u8.min : Int) ≤ k ∧ k ≤ IntKind.u8.max)⟩
theorem ty_sK {t : Nat} (hk : (ti t).kind = .string) {n : Nat} {cs : List AV} (h : Ty ti n t cs) : ∃ k : ByteArray, cs = [.s k] ∧ S47 k := by
  cases n with
  | zero => exact h.elim
  | succ n => unfold Ty at h; simp only [hk] at h; obtain ⟨k, rfl, hw⟩ := h; exact ⟨k, rfl, hw⟩
theorem ty_bK {t : Nat} (hk : (ti t).kind = .bool) {n : Nat} {cs : List AV} (h : Ty ti n t cs) : ∃ k : Bool, cs = [.b k] := by
  cases n with
  | zero => exact h.elim
  | succ n => unfold Ty at h; simp only [hk] at h; obtain ⟨k, rfl⟩ := h; exact ⟨k, rfl⟩
theorem ty_i {n : Nat} {cs : List AV} (h : Ty ti n 3 cs) : ∃ k : Int, cs = [.i k] ∧ I64 k := ty_iK rfl h
theorem ty_l {n : Nat} {cs : List AV} (h : Ty ti n 2 cs) : ∃ k : Int, cs = [.i k] ∧ I64 k := ty_iK rfl h
theorem ty_s {n : Nat} {cs : List AV} (h : Ty ti n 9 cs) : ∃ k : ByteArray, cs = [.s k] ∧ S47 k := ty_sK rfl h
theorem ty_b {n : Nat} {cs : List AV} (h : Ty ti n 4 cs) : ∃ k : Bool, cs = [.b k] := ty_bK rfl h
theorem ty_ss {n : Nat} {cs : List AV} (h : Ty ti n 28 cs) : ∃ l : List ByteArray, cs = [.lst 1 (l.map AV.s) none] ∧ ∀ y ∈ l, S47 y := ty_slice (e := 9) rfl rfl (fun _ _ _ hc => by obtain ⟨s, rfl, hs⟩ := ty_s hc; exact ⟨s, rfl, hs⟩) h


abbrev dataTypes : List TypeId := [2, 3, 4, 5, 9, 28]
theorem dataClosed : closedT ti dataTypes = true := by kernel_rfl
end Go.Proofs.YtfjjckaiopbbkaaDoor
