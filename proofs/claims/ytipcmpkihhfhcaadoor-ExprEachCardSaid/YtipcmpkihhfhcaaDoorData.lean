import Derived.Test.YtipcmpkihhfhcaaDoorTab
import Derived.Test.YtipcmpkihhfhcaaDoorAbsQ
import Derived.Test.YtipcmpkihhfhcaaDoorAbsY
namespace Go.Proofs.YtipcmpkihhfhcaaDoor
open Go.Abs
set_option maxRecDepth 20000
set_option linter.unusedSimpArgs false
set_option linter.unusedVariables false
set_option maxHeartbeats 1000000
attribute [local irreducible] vc vcOps vcStep vcGuard prK hrK gK gsK brK callK ElemK SeqK BlockK ScopeK OpsK CallK LoopK LoopGo finPost ACall PCall PCallE BCall vqOps vqStep vqGuard qrK heK pcK gqK gqsK QOpsK qcallK DrawK

theorem ty_list {α : Type} {enc : α → AV} {n : Nat} {t : TypeId} {q : α → Prop} (h : ∀ cs, Ty ti n t cs → ∃ x : α, mkT (ti t) cs = enc x ∧ q x) : ∀ {es : List (List AV)}, (∀ x ∈ es, Ty ti n t x) → ∃ l : List α, es.map (mkT (ti t)) = l.map enc ∧ ∀ x ∈ l, q x
  | [], _ => ⟨[], rfl, by simp⟩
  | x :: es, hx => by
    obtain ⟨y, hy, hq⟩ := h x (hx x (by simp))
    obtain ⟨l, hl, hql⟩ := ty_list h (es := es) fun z hz => hx z (by simp [hz])
    exact ⟨y :: l, by simp [hy, hl], by simp only [List.mem_cons]; rintro z (rfl | hz); exact hq; exact hql z hz⟩
theorem ty_slice {α : Type} {enc : α → AV} {t e sz : Nat} (hk : (ti t).kind = .slice e) (hs : (ti e).size = sz) {n : Nat} {q : α → Prop} (h : ∀ n' cs, n' < n → Ty ti n' e cs → ∃ x : α, mkT (ti e) cs = enc x ∧ q x) {cs : List AV} (hc : Ty ti n t cs) : ∃ l : List α, cs = [.lst sz (l.map enc) none] ∧ ∀ x ∈ l, q x := by
  cases n with
  | zero => exact hc.elim
  | succ n =>
    unfold Ty at hc
    simp only [hk] at hc
    obtain ⟨es, rfl, _, hes⟩ := hc
    obtain ⟨l, hl, hq⟩ := ty_list (enc := enc) (t := e) (fun cs hcs => h n cs (by omega) hcs) hes
    exact ⟨l, by rw [hl, hs], hq⟩
theorem ty_iK {t : Nat} (hk : (ti t).kind = .int .i64) {n : Nat} {cs : List AV} (h : Ty ti n t cs) : ∃ k : Int, cs = [.i k] ∧ I64 k := by
  cases n with
  | zero => exact h.elim
  | succ n =>
    unfold Ty at h
    simp only [hk] at h
    obtain ⟨k, rfl, hw⟩ := h
    simp only [Lit.wf, Bool.and_eq_true, decide_eq_true_eq] at hw
    exact ⟨k, rfl, (hw : (IntKind.i64.min : Int) ≤ k ∧ k ≤ IntKind.i64.max)⟩
theorem ty_uK {t : Nat} (hk : (ti t).kind = .int .u8) {n : Nat} {cs : List AV} (h : Ty ti n t cs) : ∃ k : Int, cs = [.raw (.int .u8 k)] ∧ 0 ≤ k ∧ k ≤ 255 := by
  cases n with
  | zero => exact h.elim
  | succ n =>
    unfold Ty at h
    simp only [hk] at h
    obtain ⟨k, rfl, hw⟩ := h
    simp only [Lit.wf, Bool.and_eq_true, decide_eq_true_eq] at hw
    exact ⟨k, rfl, (hw : (IntKind.u8.min : Int) ≤ k ∧ k ≤ IntKind.u8.max)⟩
theorem ty_sK {t : Nat} (hk : (ti t).kind = .string) {n : Nat} {cs : List AV} (h : Ty ti n t cs) : ∃ k : ByteArray, cs = [.s k] ∧ S47 k := by
  cases n with
  | zero => exact h.elim
  | succ n => unfold Ty at h; simp only [hk] at h; obtain ⟨k, rfl, hw⟩ := h; exact ⟨k, rfl, hw⟩
theorem ty_bK {t : Nat} (hk : (ti t).kind = .bool) {n : Nat} {cs : List AV} (h : Ty ti n t cs) : ∃ k : Bool, cs = [.b k] := by
  cases n with
  | zero => exact h.elim
  | succ n => unfold Ty at h; simp only [hk] at h; obtain ⟨k, rfl⟩ := h; exact ⟨k, rfl⟩
theorem ty_i {n : Nat} {cs : List AV} (h : Ty ti n 3 cs) : ∃ k : Int, cs = [.i k] ∧ I64 k := ty_iK rfl h
theorem ty_l {n : Nat} {cs : List AV} (h : Ty ti n 2 cs) : ∃ k : Int, cs = [.i k] ∧ I64 k := ty_iK rfl h
theorem ty_s {n : Nat} {cs : List AV} (h : Ty ti n 9 cs) : ∃ k : ByteArray, cs = [.s k] ∧ S47 k := ty_sK rfl h
theorem ty_b {n : Nat} {cs : List AV} (h : Ty ti n 4 cs) : ∃ k : Bool, cs = [.b k] := ty_bK rfl h
theorem ty_ss {n : Nat} {cs : List AV} (h : Ty ti n 22 cs) : ∃ l : List ByteArray, cs = [.lst 1 (l.map AV.s) none] ∧ ∀ y ∈ l, S47 y := ty_slice (e := 9) rfl rfl (fun _ _ _ hc => by obtain ⟨s, rfl, hs⟩ := ty_s hc; exact ⟨s, rfl, hs⟩) h

theorem ty_ex : ∀ {n : Nat} {cs : List AV}, Ty ti n 25 cs → ∃ e : Ex, .agg cs = e.enc ∧ e.ok := by
  intro n
  induction n using Nat.strongRecOn with
  | _ n ih =>
  intro cs h
  cases n with
  | zero => exact h.elim
  | succ n =>
    simp only [Ty, ti, FieldsTy] at h
    obtain ⟨a1, b1, rfl, h1, a2, b2, rfl, h2, a3, b3, rfl, h3, a4, b4, rfl, h4, a5, b5, rfl, h5, a6, b6, rfl, h6, rfl⟩ := h
    obtain ⟨k, rfl, q1⟩ := ty_i h1
    obtain ⟨m, rfl, q2⟩ := ty_l h2
    obtain ⟨nm, rfl, q3⟩ := ty_s h3
    obtain ⟨op, rfl, q4⟩ := ty_i h4
    obtain ⟨arms, rfl, q5⟩ := ty_ss h5
    obtain ⟨subs, rfl, q6⟩ := ty_slice (enc := Ex.enc) (t := 23) (e := 25) (sz := 6) rfl rfl (fun n' cs' hn hc => ih n' (by omega) hc) h6
    exact ⟨.mk k m nm op arms subs, by rw [Go.Abs.enc_eq]; rfl, (Ex.ok_eq _).2 ⟨q1, q2, q3, q4, q5, q6⟩⟩
theorem ty_exs {n : Nat} {cs : List AV} (h : Ty ti n 23 cs) : ∃ l : List Ex, cs = [.lst 6 (l.map Ex.enc) none] ∧ ∀ x ∈ l, x.ok := ty_slice (e := 25) rfl rfl (fun _ _ _ hc => ty_ex hc) h
theorem ty_DTy {n : Nat} {cs : List AV} (h : Ty ti n 37 cs) : ∃ x : DTy, .agg cs = x.enc ∧ x.ok := by
  cases n with
  | zero => exact h.elim
  | succ n =>
    simp only [Ty, ti, FieldsTy] at h
    obtain ⟨a0, b0, rfl, h0, a1, b1, rfl, h1, a2, b2, rfl, h2, rfl⟩ := h
    obtain ⟨x0, rfl, q0⟩ := ty_iK rfl h0
    obtain ⟨x1, rfl, q1⟩ := ty_iK rfl h1
    obtain ⟨x2, rfl, q2⟩ := ty_iK rfl h2
    exact ⟨⟨x0, x1, x2⟩, by rw [DTy.enc_eq]; rfl, ⟨q0, q1, q2⟩⟩
theorem ty_DEnum {n : Nat} {cs : List AV} (h : Ty ti n 47 cs) : ∃ x : DEnum, .agg cs = x.enc ∧ x.ok := by
  cases n with
  | zero => exact h.elim
  | succ n =>
    simp only [Ty, ti, FieldsTy] at h
    obtain ⟨a0, b0, rfl, h0, a1, b1, rfl, h1, rfl⟩ := h
    obtain ⟨x0, rfl, q0⟩ := ty_s h0
    obtain ⟨x1, rfl, q1⟩ := ty_ss h1
    exact ⟨⟨x0, x1⟩, by rw [DEnum.enc_eq]; rfl, ⟨q0, q1⟩⟩
theorem tys_DEnum {n : Nat} {cs : List AV} (h : Ty ti n 34 cs) : ∃ l : List DEnum, cs = [.lst 2 (l.map DEnum.enc) none] ∧ ∀ x ∈ l, x.ok := ty_slice (e := 47) rfl rfl (fun _ _ _ hc => ty_DEnum hc) h
theorem ty_DDecl {n : Nat} {cs : List AV} (h : Ty ti n 49 cs) : ∃ x : DDecl, .agg cs = x.enc ∧ x.ok := by
  cases n with
  | zero => exact h.elim
  | succ n =>
    simp only [Ty, ti, FieldsTy] at h
    obtain ⟨a0, b0, rfl, h0, a1, b1, rfl, h1, a2, b2, rfl, h2, a3, b3, rfl, h3, rfl⟩ := h
    obtain ⟨x0, rfl, q0⟩ := ty_s h0
    obtain ⟨x1, e1, q1⟩ := ty_DTy h1
    obtain ⟨x2, rfl, q2⟩ := ty_s h2
    obtain ⟨x3, rfl, q3⟩ := ty_s h3
    rw [DTy.enc_eq] at e1
    cases e1
    exact ⟨⟨x0, x1, x2, x3⟩, by rw [DDecl.enc_eq]; rfl, ⟨q0, q1, q2, q3⟩⟩
theorem tys_DDecl {n : Nat} {cs : List AV} (h : Ty ti n 50 cs) : ∃ l : List DDecl, cs = [.lst 6 (l.map DDecl.enc) none] ∧ ∀ x ∈ l, x.ok := ty_slice (e := 49) rfl rfl (fun _ _ _ hc => ty_DDecl hc) h
theorem ty_DEq {n : Nat} {cs : List AV} (h : Ty ti n 52 cs) : ∃ x : DEq, .agg cs = x.enc ∧ x.ok := by
  cases n with
  | zero => exact h.elim
  | succ n =>
    simp only [Ty, ti, FieldsTy] at h
    obtain ⟨a0, b0, rfl, h0, a1, b1, rfl, h1, rfl⟩ := h
    obtain ⟨x0, rfl, q0⟩ := ty_ss h0
    obtain ⟨x1, e1, q1⟩ := ty_ex h1
    rw [Go.Abs.enc_eq] at e1
    cases e1
    exact ⟨⟨x0, x1⟩, by rw [DEq.enc_eq]; rfl, ⟨q0, q1⟩⟩
theorem tys_DEq {n : Nat} {cs : List AV} (h : Ty ti n 53 cs) : ∃ l : List DEq, cs = [.lst 7 (l.map DEq.enc) none] ∧ ∀ x ∈ l, x.ok := ty_slice (e := 52) rfl rfl (fun _ _ _ hc => ty_DEq hc) h
theorem ty_DNode {n : Nat} {cs : List AV} (h : Ty ti n 55 cs) : ∃ x : DNode, .agg cs = x.enc ∧ x.ok := by
  cases n with
  | zero => exact h.elim
  | succ n =>
    simp only [Ty, ti, FieldsTy] at h
    obtain ⟨a0, b0, rfl, h0, a1, b1, rfl, h1, a2, b2, rfl, h2, a3, b3, rfl, h3, a4, b4, rfl, h4, rfl⟩ := h
    obtain ⟨x0, rfl, q0⟩ := ty_s h0
    obtain ⟨x1, rfl, q1⟩ := tys_DDecl h1
    obtain ⟨x2, rfl, q2⟩ := tys_DDecl h2
    obtain ⟨x3, rfl, q3⟩ := tys_DDecl h3
    obtain ⟨x4, rfl, q4⟩ := tys_DEq h4
    exact ⟨⟨x0, x1, x2, x3, x4⟩, by rw [DNode.enc_eq]; rfl, ⟨q0, q1, q2, q3, q4⟩⟩
theorem tys_DNode {n : Nat} {cs : List AV} (h : Ty ti n 60 cs) : ∃ l : List DNode, cs = [.lst 5 (l.map DNode.enc) none] ∧ ∀ x ∈ l, x.ok := ty_slice (e := 55) rfl rfl (fun _ _ _ hc => ty_DNode hc) h
theorem ty_DProg {n : Nat} {cs : List AV} (h : Ty ti n 62 cs) : ∃ x : DProg, .agg cs = x.enc ∧ x.ok := by
  cases n with
  | zero => exact h.elim
  | succ n =>
    simp only [Ty, ti, FieldsTy] at h
    obtain ⟨a0, b0, rfl, h0, a1, b1, rfl, h1, rfl⟩ := h
    obtain ⟨x0, rfl, q0⟩ := tys_DEnum h0
    obtain ⟨x1, rfl, q1⟩ := tys_DNode h1
    exact ⟨⟨x0, x1⟩, by rw [DProg.enc_eq]; rfl, ⟨q0, q1⟩⟩
theorem ty_DFault {n : Nat} {cs : List AV} (h : Ty ti n 58 cs) : ∃ x : DFault, .agg cs = x.enc ∧ x.ok := by
  cases n with
  | zero => exact h.elim
  | succ n =>
    simp only [Ty, ti, FieldsTy] at h
    obtain ⟨a0, b0, rfl, h0, a1, b1, rfl, h1, a2, b2, rfl, h2, rfl⟩ := h
    obtain ⟨x0, rfl, q0⟩ := ty_iK rfl h0
    obtain ⟨x1, rfl, q1⟩ := ty_iK rfl h1
    obtain ⟨x2, rfl, q2⟩ := ty_iK rfl h2
    exact ⟨⟨x0, x1, x2⟩, by rw [DFault.enc_eq]; rfl, ⟨q0, q1, q2⟩⟩
theorem eqv_DTy (x y : DTy) : eqV ti 6 37 (.agg x.enc.cells) (.agg y.enc.cells) = some (decide (x = y)) := by
  obtain ⟨xKind, xEnum, xLen⟩ := x
  obtain ⟨yKind, yEnum, yLen⟩ := y
  rw [DTy.enc_cells, DTy.enc_cells]
  simp [eqV, eqFs, ti, loadAV, takeN, kEq, TI.agg, str_beq, int_beq]
theorem eql_DTy (x y : DTy) : structAV ti 37 .eql x.enc y.enc = .ok (.raw (.bool (decide (x = y)))) := by
  unfold structAV
  rw [DTy.isAgg, DTy.isAgg, eqv_DTy]
theorem neq_DTy (x y : DTy) : structAV ti 37 .neq x.enc y.enc = .ok (.raw (.bool (decide (¬ x = y)))) := by
  unfold structAV
  rw [DTy.isAgg, DTy.isAgg, eqv_DTy]
  simp
attribute [go_sem] eql_DTy neq_DTy
theorem eqv_DDecl (x y : DDecl) : eqV ti 6 49 (.agg x.enc.cells) (.agg y.enc.cells) = some (decide (x = y)) := by
  obtain ⟨xName, ⟨xTyKind, xTyEnum, xTyLen⟩, xOn, xCtor⟩ := x
  obtain ⟨yName, ⟨yTyKind, yTyEnum, yTyLen⟩, yOn, yCtor⟩ := y
  rw [DDecl.enc_cells, DDecl.enc_cells]
  simp [eqV, eqFs, ti, loadAV, takeN, kEq, TI.agg, str_beq, int_beq]
theorem eql_DDecl (x y : DDecl) : structAV ti 49 .eql x.enc y.enc = .ok (.raw (.bool (decide (x = y)))) := by
  unfold structAV
  rw [DDecl.isAgg, DDecl.isAgg, eqv_DDecl]
theorem neq_DDecl (x y : DDecl) : structAV ti 49 .neq x.enc y.enc = .ok (.raw (.bool (decide (¬ x = y)))) := by
  unfold structAV
  rw [DDecl.isAgg, DDecl.isAgg, eqv_DDecl]
  simp
attribute [go_sem] eql_DDecl neq_DDecl
theorem eqv_DFault (x y : DFault) : eqV ti 6 58 (.agg x.enc.cells) (.agg y.enc.cells) = some (decide (x = y)) := by
  obtain ⟨xNode, xEq, xErr⟩ := x
  obtain ⟨yNode, yEq, yErr⟩ := y
  rw [DFault.enc_cells, DFault.enc_cells]
  simp [eqV, eqFs, ti, loadAV, takeN, kEq, TI.agg, str_beq, int_beq]
theorem eql_DFault (x y : DFault) : structAV ti 58 .eql x.enc y.enc = .ok (.raw (.bool (decide (x = y)))) := by
  unfold structAV
  rw [DFault.isAgg, DFault.isAgg, eqv_DFault]
theorem neq_DFault (x y : DFault) : structAV ti 58 .neq x.enc y.enc = .ok (.raw (.bool (decide (¬ x = y)))) := by
  unfold structAV
  rw [DFault.isAgg, DFault.isAgg, eqv_DFault]
  simp
attribute [go_sem] eql_DFault neq_DFault

abbrev dataTypes : List TypeId := [2, 3, 4, 5, 9, 22, 23, 25, 34, 37, 47, 49, 50, 52, 53, 55, 56, 58, 60, 62]
theorem dataClosed : closedT ti dataTypes = true := by kernel_rfl
end Go.Proofs.YtipcmpkihhfhcaaDoor
