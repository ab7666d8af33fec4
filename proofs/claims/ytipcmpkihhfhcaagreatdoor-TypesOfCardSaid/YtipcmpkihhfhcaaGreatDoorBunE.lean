/-
  TyX, TyY, TyS, TyT, TyU, TyZ, TyOf, ScopeP1, ScopeP2, ScopeP3, ChkP2, ChkP3, ChkP4, ScopeP4, ChkX, ChkX2, ScopeX1, ScopeX2, ScopeX3, ScopeL, TyL: put together.
-/
import Derived.Test.YtipcmpkihhfhcaaGreatDoorBunA
import Derived.Test.YtipcmpkihhfhcaaGreatDoorBunB
import Derived.Test.YtipcmpkihhfhcaaGreatDoorBunC
import Derived.Test.YtipcmpkihhfhcaaGreatDoorBunD
namespace Go.Proofs.YtipcmpkihhfhcaaGreatDoor
open Go.Abs
set_option maxRecDepth 20000
set_option linter.unusedSimpArgs false
set_option linter.unusedVariables false
set_option maxHeartbeats 1000000
attribute [local irreducible] vc vcOps vcStep vcGuard prK hrK gK gsK brK callK ElemK SeqK BlockK ScopeK OpsK CallK LoopK LoopGo finPost ACall PCall PCallE BCall vqOps vqStep vqGuard qrK heK pcK gqK gqsK QOpsK qcallK DrawK
theorem two_no {arms : List ByteArray} {i : Nat} {x y : ByteArray} (hx : arms[i]? = some x) (hy : [tTrue, tFalse][i]? = some y) (h : ¬ x = y) : eqB arms [tTrue, tFalse] = false := eqB_ne fun e => h (by rw [e, hy] at hx; exact (Option.some.inj hx).symm)
theorem two_len {arms : List ByteArray} (h : ¬ arms.length = 2) : eqB arms [tTrue, tFalse] = false := eqB_ne fun e => h (by rw [e]; rfl)
theorem two_yes {arms : List ByteArray} (hl : arms.length = 2) (h0 : arms[0]? = some tTrue) (h1 : arms[1]? = some tFalse) : eqB arms [tTrue, tFalse] = true := by
  match arms, hl with
  | [a, b], _ =>
    cases h0
    cases h1
    exact eqB_eq rfl
theorem two_val {arms : List ByteArray} {a b : ByteArray} (hl : arms.length = 2) (h0 : arms[0]? = some a) (h1 : arms[1]? = some b) : eqB arms [tTrue, tFalse] = (decide (a = tTrue) && decide (b = tFalse)) := by
  by_cases h2 : a = tTrue
  · by_cases h3 : b = tFalse
    · subst h2 h3
      rw [two_yes hl h0 h1]; simp
    · rw [two_no (i := 1) h1 rfl h3]; simp [h3]
  · rw [two_no (i := 0) h0 rfl h2]; simp [h2]
theorem n154 : (Tryz.f154.name == "runtime.NumGoroutine") = false := by kernel_rfl
theorem armsX (L : List DEnum) (t : DTy) (arms : List ByteArray) (hT : t.Kind = 3 → 0 ≤ t.Enum ∧ t.Enum < L.length) : PCall Tryz.prog 154 [.lst 2 (L.map DEnum.enc) none, t.enc, .lst 1 (arms.map AV.s) none] (.b (armsT L t arms)) := by
  refine pcall_of_vc tabOK Tryz.func154 n154 rfl (pure_cons (DEnum.pures _) (pure_cons (DTy.pure _) (pure_cons (pure_strs _) pure_nil))) (.raw _) (n := 65) rfl (rs := [.tmp 6]) rfl ?_
  unfold armsT
  by_cases hB : t = tyB
  · rw [if_pos hB]
    by_cases h2 : arms.length = 2
    · obtain ⟨a, ha⟩ : ∃ a, arms[0]? = some a := ⟨_, List.getElem?_eq_getElem (by omega)⟩
      obtain ⟨b, hb⟩ : ∃ b, arms[1]? = some b := ⟨_, List.getElem?_eq_getElem (by omega)⟩
      rw [two_val h2 ha hb]
      repeat' first
        | (exfalso; omega)
        | simp only [go_sem, Nat.reduceAdd, Nat.reduceSub, Nat.reduceMul, Nat.reduceLT, Nat.reduceLeDiff, Nat.reduceEqDiff, Nat.reduceBEq, Nat.reduceBNe, Nat.reducePow, Int.reduceEq, Int.reduceNe, Int.reduceLT, Int.reduceLE, Int.reduceGT, Int.reduceGE, Int.reduceAdd, Int.reduceSub, Int.reduceNeg, Int.reduceMul, not_true_eq_false, not_false_eq_true, true_and, and_true, Int.reduceToNat]
        | (intro _)
        | (refine PCall.call (truthX t) ?_; rw [decide_eq_true hB])
        | refine gK_dec (fun _ => ?_) (fun _ => ?_)
        | refine gqK_dec (fun _ => ?_) (fun _ => ?_)
        | refine brK_dec (fun _ => ?_) (fun _ => ?_)
        | refine drawK mo (by kernel_rfl) ?_
        | refine elemHave (x := a) (by omega) ha ?_
        | refine elemHave (x := b) (by omega) hb ?_
        | exact finBq rfl (by simp [*])
    · rw [two_len h2]
      repeat' first
        | (exfalso; omega)
        | simp only [go_sem, Nat.reduceAdd, Nat.reduceSub, Nat.reduceMul, Nat.reduceLT, Nat.reduceLeDiff, Nat.reduceEqDiff, Nat.reduceBEq, Nat.reduceBNe, Nat.reducePow, Int.reduceEq, Int.reduceNe, Int.reduceLT, Int.reduceLE, Int.reduceGT, Int.reduceGE, Int.reduceAdd, Int.reduceSub, Int.reduceNeg, Int.reduceMul, not_true_eq_false, not_false_eq_true, true_and, and_true, Int.reduceToNat]
        | (intro _)
        | (refine PCall.call (truthX t) ?_; rw [decide_eq_true hB])
        | refine gK_dec (fun _ => ?_) (fun _ => ?_)
        | refine gqK_dec (fun _ => ?_) (fun _ => ?_)
        | refine brK_dec (fun _ => ?_) (fun _ => ?_)
        | refine drawK mo (by kernel_rfl) ?_
        | (exact finBq rfl rfl)
  · rw [if_neg hB]
    by_cases h3 : t.Kind = 3 ∧ t.Len = 0
    · rw [if_pos h3]
      have hr := hT h3.1
      obtain ⟨c, hc⟩ : ∃ c, L[t.Enum.toNat]? = some c := ⟨_, List.getElem?_eq_getElem (by omega)⟩
      rw [hc]
      have hgd : ((some c).map DEnum.Ctors).getD [] = c.Ctors := rfl
      rw [hgd]
      repeat' first
        | (exfalso; omega)
        | simp only [go_sem, Nat.reduceAdd, Nat.reduceSub, Nat.reduceMul, Nat.reduceLT, Nat.reduceLeDiff, Nat.reduceEqDiff, Nat.reduceBEq, Nat.reduceBNe, Nat.reducePow, Int.reduceEq, Int.reduceNe, Int.reduceLT, Int.reduceLE, Int.reduceGT, Int.reduceGE, Int.reduceAdd, Int.reduceSub, Int.reduceNeg, Int.reduceMul, not_true_eq_false, not_false_eq_true, true_and, and_true, Int.reduceToNat]
        | (intro _)
        | (refine PCall.call (truthX t) ?_; rw [decide_eq_false hB])
        | refine gK_dec (fun _ => ?_) (fun _ => ?_)
        | refine elemHave (x := c) (by omega) hc ?_
      refine brK_dec (fun hlen => ?_) (fun hlen => ?_)
      · rw [eqB_ne (len_ne (l := arms) (m := c.Ctors) (by omega))]
        simp only [go_sem, Nat.reduceAdd, Nat.reduceSub, Nat.reduceMul, Nat.reduceLT, Nat.reduceLeDiff, Nat.reduceEqDiff, Nat.reduceBEq, Nat.reduceBNe, Nat.reducePow, Int.reduceEq, Int.reduceNe, Int.reduceLT, Int.reduceLE, Int.reduceGT, Int.reduceGE, Int.reduceAdd, Int.reduceSub, Int.reduceNeg, Int.reduceMul, not_true_eq_false, not_false_eq_true, true_and, and_true, Int.reduceToNat]
        exact finBq rfl rfl
      · simp only [go_sem, Nat.reduceAdd, Nat.reduceSub, Nat.reduceMul, Nat.reduceLT, Nat.reduceLeDiff, Nat.reduceEqDiff, Nat.reduceBEq, Nat.reduceBNe, Nat.reducePow, Int.reduceEq, Int.reduceNe, Int.reduceLT, Int.reduceLE, Int.reduceGT, Int.reduceGE, Int.reduceAdd, Int.reduceSub, Int.reduceNeg, Int.reduceMul, not_true_eq_false, not_false_eq_true, true_and, and_true, Int.reduceToNat]
        refine loop_frH [6, 7, 45, 46, 47, 48, 49, 50, 51, 52, 53, 54, 55, 56, 57, 58, 59, 60, 61, 62, 63, 64] (fun m_ C => ∃ i : Nat, i ≤ arms.length ∧ m_ = arms.length - i ∧ arms.take i = c.Ctors.take i ∧ C = [(7, .raw (.int .i64 (i : Nat)))]) arms.length _ ⟨0, by omega, by omega, rfl, rfl⟩ (.cons rfl .nil) ?_
        rintro m_ C ja ⟨i, hi, rfl, hp, rfl⟩
        simp only [go_sem, Nat.reduceAdd, Nat.reduceSub, Nat.reduceMul, Nat.reduceLT, Nat.reduceLeDiff, Nat.reduceEqDiff, Nat.reduceBEq, Nat.reduceBNe, Nat.reducePow, Int.reduceEq, Int.reduceNe, Int.reduceLT, Int.reduceLE, Int.reduceGT, Int.reduceGE, Int.reduceAdd, Int.reduceSub, Int.reduceNeg, Int.reduceMul, not_true_eq_false, not_false_eq_true, true_and, and_true, Int.reduceToNat]
        intro _
        refine brK_dec (fun hlt => ?_) (fun hge => ?_)
        · obtain ⟨x, hx⟩ : ∃ x, arms[i]? = some x := ⟨_, List.getElem?_eq_getElem (by omega)⟩
          obtain ⟨y, hy⟩ : ∃ y, c.Ctors[i]? = some y := ⟨_, List.getElem?_eq_getElem (by omega)⟩
          repeat' first
            | simp only [go_sem, Nat.reduceAdd, Nat.reduceSub, Nat.reduceMul, Nat.reduceLT, Nat.reduceLeDiff, Nat.reduceEqDiff, Nat.reduceBEq, Nat.reduceBNe, Nat.reducePow, Int.reduceEq, Int.reduceNe, Int.reduceLT, Int.reduceLE, Int.reduceGT, Int.reduceGE, Int.reduceAdd, Int.reduceSub, Int.reduceNeg, Int.reduceMul, not_true_eq_false, not_false_eq_true, true_and, and_true, Int.reduceToNat]
            | refine drawK mo (by kernel_rfl) ?_
            | refine elemHave (x := c) (by omega) hc ?_
            | refine elemHave (x := x) (by omega) (by simpa using hx) ?_
            | refine elemHave (x := y) (by omega) (by simpa using hy) ?_
          refine brK_dec (fun hne => ?_) (fun hne => ?_)
          · rw [eqB_ne (at_ne' (l := arms) (m := c.Ctors) (i := i) (by simpa using hx) (by simpa using hy) hne)]
            simp only [go_sem, Nat.reduceAdd, Nat.reduceSub, Nat.reduceMul, Nat.reduceLT, Nat.reduceLeDiff, Nat.reduceEqDiff, Nat.reduceBEq, Nat.reduceBNe, Nat.reducePow, Int.reduceEq, Int.reduceNe, Int.reduceLT, Int.reduceLE, Int.reduceGT, Int.reduceGE, Int.reduceAdd, Int.reduceSub, Int.reduceNeg, Int.reduceMul, not_true_eq_false, not_false_eq_true, true_and, and_true, Int.reduceToNat]
            exact finBq rfl rfl
          · simp only [go_sem, Nat.reduceAdd, Nat.reduceSub, Nat.reduceMul, Nat.reduceLT, Nat.reduceLeDiff, Nat.reduceEqDiff, Nat.reduceBEq, Nat.reduceBNe, Nat.reducePow, Int.reduceEq, Int.reduceNe, Int.reduceLT, Int.reduceLE, Int.reduceGT, Int.reduceGE, Int.reduceAdd, Int.reduceSub, Int.reduceNeg, Int.reduceMul, not_true_eq_false, not_false_eq_true, true_and, and_true, Int.reduceToNat]
            exact loopFrH _ (by omega) ⟨i + 1, by omega, rfl, take_eq_step' hp (by simpa using hx) (by simpa using hy) (Classical.not_not.1 hne), rfl⟩ (.next rfl (by omega) .nil) rfl
        · rw [eqB_eq (take_eq_full (l := arms) (m := c.Ctors) (i := i) (by omega) hp (by omega))]
          simp only [go_sem, Nat.reduceAdd, Nat.reduceSub, Nat.reduceMul, Nat.reduceLT, Nat.reduceLeDiff, Nat.reduceEqDiff, Nat.reduceBEq, Nat.reduceBNe, Nat.reducePow, Int.reduceEq, Int.reduceNe, Int.reduceLT, Int.reduceLE, Int.reduceGT, Int.reduceGE, Int.reduceAdd, Int.reduceSub, Int.reduceNeg, Int.reduceMul, not_true_eq_false, not_false_eq_true, true_and, and_true, Int.reduceToNat]
          exact finBq rfl rfl
    · rw [if_neg h3]
      repeat' first
        | (exfalso; omega)
        | simp only [go_sem, Nat.reduceAdd, Nat.reduceSub, Nat.reduceMul, Nat.reduceLT, Nat.reduceLeDiff, Nat.reduceEqDiff, Nat.reduceBEq, Nat.reduceBNe, Nat.reducePow, Int.reduceEq, Int.reduceNe, Int.reduceLT, Int.reduceLE, Int.reduceGT, Int.reduceGE, Int.reduceAdd, Int.reduceSub, Int.reduceNeg, Int.reduceMul, not_true_eq_false, not_false_eq_true, true_and, and_true, Int.reduceToNat]
        | (intro _)
        | (refine PCall.call (truthX t) ?_; rw [decide_eq_false hB])
        | refine gK_dec (fun _ => ?_) (fun _ => ?_)
        | refine brK_dec (fun _ => ?_) (fun _ => ?_)
        | (exact finBq rfl rfl)
        | (exfalso; exact h3 ⟨by omega, by omega⟩)
end Go.Proofs.YtipcmpkihhfhcaaGreatDoor

namespace Go.Proofs.YtipcmpkihhfhcaaGreatDoor
open Go.Abs
set_option maxRecDepth 20000
set_option linter.unusedSimpArgs false
set_option linter.unusedVariables false
set_option maxHeartbeats 1000000
attribute [local irreducible] vc vcOps vcStep vcGuard prK hrK gK gsK brK callK ElemK SeqK BlockK ScopeK OpsK CallK LoopK LoopGo finPost ACall PCall PCallE BCall vqOps vqStep vqGuard qrK heK pcK gqK gqsK QOpsK qcallK DrawK
theorem n103 : (Tryz.f103.name == "runtime.NumGoroutine") = false := by kernel_rfl
theorem flowX (p : DProg) (j : Nat) (n : DNode) (hj : p.Nodes[j]? = some n) (hl : (allV n).length ≤ 60) (e : Ex) (ts : List DTy) (hb : ts.length ≤ 100000) (hk : 9 ≤ e.kind ∧ e.kind ≤ 13) (hlen : ¬ e.kind = 13 → 0 < ts.length) (h9 : e.kind = 9 → 1 < ts.length) (h11 : e.kind = 11 → 0 < e.arms.length) (h12 : (decl n e.name).1.Ty.Kind = 3 → 0 ≤ (decl n e.name).1.Ty.Enum ∧ (decl n e.name).1.Ty.Enum < p.Enums.length)
    (h13 : e.kind = 13 → (e.n = 0 ∨ e.n = 1) ∧ e.n ≤ (ts.length : Int)) : PCall Tryz.prog 103 [p.enc, .i (j : Int), e.enc, .lst 3 (ts.map DTy.enc) none] (tyA (flowT p n e ts)) := by
  refine pcall_of_vc tabOK Tryz.func103 n103 rfl (pure_cons (DProg.pure _) (pure_cons (.raw _) (pure_cons (pure_enc e) (pure_cons (DTy.pures _) pure_nil)))) (pure_tyA _) (n := 123) rfl (rs := [.cell 8 42, .tmp 9]) rfl ?_
  rcases (show e.kind = 9 ∨ e.kind = 11 ∨ e.kind = 12 ∨ e.kind = 13 ∨ e.kind = 10 by omega) with hk | hk | hk | hk | hk
  · have h1 := h9 hk
    obtain ⟨t0, ht0⟩ : ∃ t, ts[0]? = some t := ⟨_, List.getElem?_eq_getElem (by omega)⟩
    obtain ⟨t1, ht1⟩ : ∃ t, ts[1]? = some t := ⟨_, List.getElem?_eq_getElem (by omega)⟩
    have hf : flowT p n e ts = (t0, decide (t0 = t1)) := by unfold flowT; rw [if_pos hk, getD_at ht0, getD_at ht1]
    rw [hf]
    repeat' first
      | simp only [go_sem, Nat.reduceAdd, Nat.reduceSub, Nat.reduceMul, Nat.reduceLT, Nat.reduceLeDiff, Nat.reduceEqDiff, Nat.reduceBEq, Nat.reduceBNe, Nat.reducePow, Int.reduceEq, Int.reduceNe, Int.reduceLT, Int.reduceLE, Int.reduceGT, Int.reduceGE, Int.reduceAdd, Int.reduceSub, Int.reduceNeg, Int.reduceMul, not_true_eq_false, not_false_eq_true, true_and, and_true, Int.reduceToNat, hk]
      | refine drawC [2] mo (by kernel_rfl) ?_
      | refine elemHave (x := t0) (by omega) ht0 ?_
      | refine elemHave (x := t1) (by omega) ht1 ?_
      | exact finTy rfl rfl
  · obtain ⟨t0, ht0⟩ : ∃ t, ts[0]? = some t := ⟨_, List.getElem?_eq_getElem (hlen (by omega))⟩
    obtain ⟨a, ha⟩ : ∃ a, e.arms[0]? = some a := ⟨_, List.getElem?_eq_getElem (h11 hk)⟩
    have hf : flowT p n e ts = (t0, whenT p n e.name a) := by unfold flowT; rw [if_neg (by omega), if_pos hk, getD_at ht0, arms_hd (by simpa using ha)]
    rw [hf]
    unfold whenT armOk
    repeat' first
      | simp only [go_sem, Nat.reduceAdd, Nat.reduceSub, Nat.reduceMul, Nat.reduceLT, Nat.reduceLeDiff, Nat.reduceEqDiff, Nat.reduceBEq, Nat.reduceBNe, Nat.reducePow, Int.reduceEq, Int.reduceNe, Int.reduceLT, Int.reduceLE, Int.reduceGT, Int.reduceGE, Int.reduceAdd, Int.reduceSub, Int.reduceNeg, Int.reduceMul, not_true_eq_false, not_false_eq_true, true_and, and_true, Int.reduceToNat, hk]
      | refine drawC [2] mo (by kernel_rfl) ?_
      | refine elemHave (x := n) (by omega) hj ?_
      | refine elemHave (x := t0) (by omega) ht0 ?_
      | refine elemHave (x := a) (by omega) ha ?_
      | (refine pcK_of (decl26 n e.name (by omega)) ?_; generalize decl n e.name = d; obtain ⟨d, ok⟩ := d)
      | (refine pcK_of (arm91 p.Enums a) ?_; generalize armF p.Enums a = q; obtain ⟨u, v, is⟩ := q)
      | refine gqK_split (fun _ => ?_) (fun _ => ?_)
      | refine gqK_dec (fun _ => ?_) (fun _ => ?_)
      | (refine finTy rfl ?_; simp [*]; done)
      | (refine finTy rfl ?_; simp [*]; exact eq_comm)
  · obtain ⟨t0, ht0⟩ : ∃ t, ts[0]? = some t := ⟨_, List.getElem?_eq_getElem (hlen (by omega))⟩
    have hf : flowT p n e ts = (t0, (decl n e.name).2 && sameT ts && armsT p.Enums (decl n e.name).1.Ty e.arms) := by unfold flowT; rw [if_neg (by omega), if_neg (by omega), if_pos hk, getD_at ht0]
    rw [hf]
    have hd26 := decl26 n e.name (by omega)
    generalize decl n e.name = d at h12 hd26
    obtain ⟨d, ok⟩ := d
    repeat' first
      | simp only [go_sem, Nat.reduceAdd, Nat.reduceSub, Nat.reduceMul, Nat.reduceLT, Nat.reduceLeDiff, Nat.reduceEqDiff, Nat.reduceBEq, Nat.reduceBNe, Nat.reducePow, Int.reduceEq, Int.reduceNe, Int.reduceLT, Int.reduceLE, Int.reduceGT, Int.reduceGE, Int.reduceAdd, Int.reduceSub, Int.reduceNeg, Int.reduceMul, not_true_eq_false, not_false_eq_true, true_and, and_true, Int.reduceToNat, hk]
      | refine drawC [2] mo (by kernel_rfl) ?_
      | refine elemHave (x := n) (by omega) hj ?_
      | refine elemHave (x := t0) (by omega) ht0 ?_
      | (refine pcK_of hd26 ?_)
      | (refine pcK_of (allX ts) ?_; generalize sameT ts = b; cases b)
      | (refine pcK_of (armsX p.Enums d.Ty e.arms h12) ?_)
      | refine gqK_split (fun _ => ?_) (fun _ => ?_)
      | exact finTy rfl (by simp [*])
  · have h14 := h13 hk
    have hf : flowT p n e ts = if (callT p e ts).2 = true ∧ (callT p e ts).1.Outs.length = 1 then (((callT p e ts).1.Outs.headD zeroD).Ty, true) else (ty0, false) := by unfold flowT; rw [if_neg (by omega), if_neg (by omega), if_neg (by omega), if_pos hk]
    rw [hf]
    have hcX := callX p e ts h14.1 h14.2 hb
    have hd26 := decl26 n e.name (by omega)
    generalize decl n e.name = d at hd26
    obtain ⟨d, dok⟩ := d
    cases hc : (callT p e ts).2 with
    | false =>
      rw [callXT_no hc] at hcX
      rw [if_neg (by rintro ⟨h, _⟩; cases h)]
      repeat' first
        | (exfalso; omega)
        | simp only [go_sem, Nat.reduceAdd, Nat.reduceSub, Nat.reduceMul, Nat.reduceLT, Nat.reduceLeDiff, Nat.reduceEqDiff, Nat.reduceBEq, Nat.reduceBNe, Nat.reducePow, Int.reduceEq, Int.reduceNe, Int.reduceLT, Int.reduceLE, Int.reduceGT, Int.reduceGE, Int.reduceAdd, Int.reduceSub, Int.reduceNeg, Int.reduceMul, not_true_eq_false, not_false_eq_true, true_and, and_true, Int.reduceToNat]
        | (refine PCall.call hcX ?_)
        | refine brK_dec (fun _ => ?_) (fun _ => ?_)
        | refine drawC [2] mo (by kernel_rfl) ?_
        | refine elemHave (x := n) (by omega) hj ?_
        | (refine pcK_of hd26 ?_)
        | exact finTy rfl rfl
    | true =>
      rw [callXT_yes hc] at hcX
      have hfi : ¬ findF p e.name < 0 := fun h => by unfold callT at hc; rw [if_pos h] at hc; cases hc
      obtain ⟨m, hm⟩ := find_at hfi
      have hcm : (callT p e ts).1 = m := by
        unfold callT at hc ⊢
        rw [if_neg hfi] at hc ⊢
        split at hc
        · cases hc
        · rename_i h1
          rw [if_neg h1, hm]; rfl
      rw [hcm]
      generalize findF p e.name = f at hcX hfi hm
      repeat' first
        | (exfalso; omega)
        | simp only [go_sem, Nat.reduceAdd, Nat.reduceSub, Nat.reduceMul, Nat.reduceLT, Nat.reduceLeDiff, Nat.reduceEqDiff, Nat.reduceBEq, Nat.reduceBNe, Nat.reducePow, Int.reduceEq, Int.reduceNe, Int.reduceLT, Int.reduceLE, Int.reduceGT, Int.reduceGE, Int.reduceAdd, Int.reduceSub, Int.reduceNeg, Int.reduceMul, not_true_eq_false, not_false_eq_true, true_and, and_true, Int.reduceToNat]
        | (intro _)
        | (refine PCall.call hcX ?_)
        | refine brK_dec (fun _ => ?_) (fun _ => ?_)
        | refine gK_dec (fun _ => ?_) (fun _ => ?_)
        | refine drawC [2] mo (by kernel_rfl) ?_
        | refine elemHave (x := n) (by omega) hj ?_
        | refine elemHave (x := m) (by omega) hm ?_
        | (refine pcK_of hd26 ?_)
        | refine elemMap (by omega) (by omega) (fun x hx => ?_)
        | (have hz : m.Outs.length = 1 := (by omega); have ho := outs_hd hx; refine finTy rfl ?_; rw [if_pos hz, ho])
        | (have hz : ¬ m.Outs.length = 1 := (by omega); refine finTy rfl ?_; simp [hz]; done)
  · obtain ⟨t0, ht0⟩ : ∃ t, ts[0]? = some t := ⟨_, List.getElem?_eq_getElem (hlen (by omega))⟩
    have hf : flowT p n e ts = (t0, true) := by unfold flowT; rw [if_neg (by omega), if_neg (by omega), if_neg (by omega), if_neg (by omega), getD_at ht0]
    rw [hf]
    repeat' first
      | simp only [go_sem, Nat.reduceAdd, Nat.reduceSub, Nat.reduceMul, Nat.reduceLT, Nat.reduceLeDiff, Nat.reduceEqDiff, Nat.reduceBEq, Nat.reduceBNe, Nat.reducePow, Int.reduceEq, Int.reduceNe, Int.reduceLT, Int.reduceLE, Int.reduceGT, Int.reduceGE, Int.reduceAdd, Int.reduceSub, Int.reduceNeg, Int.reduceMul, not_true_eq_false, not_false_eq_true, true_and, and_true, Int.reduceToNat, hk]
      | refine elemHave (x := t0) (by omega) ht0 ?_
      | exact finTy rfl rfl
end Go.Proofs.YtipcmpkihhfhcaaGreatDoor

namespace Go.Proofs.YtipcmpkihhfhcaaGreatDoor
open Go.Abs
set_option maxRecDepth 20000
set_option linter.unusedSimpArgs false
set_option linter.unusedVariables false
set_option maxHeartbeats 1000000
attribute [local irreducible] vc vcOps vcStep vcGuard prK hrK gK gsK brK callK ElemK SeqK BlockK ScopeK OpsK CallK LoopK LoopGo finPost ACall PCall PCallE BCall vqOps vqStep vqGuard qrK heK pcK gqK gqsK QOpsK qcallK DrawK
theorem n101 : (Tryz.f101.name == "runtime.NumGoroutine") = false := by kernel_rfl
theorem plainP (p : DProg) (n : DNode) (e : Ex) (ts : List DTy) (hk : e.kind = 5 ∨ e.kind = 6 ∨ e.kind = 7 ∨ e.kind = 14 ∨ e.kind = 15 ∨ e.kind = 16) (hlen : 0 < ts.length) (h2 : e.kind = 6 ∨ e.kind = 15 → 1 < ts.length) (h3 : e.kind = 7 ∨ e.kind = 16 → 2 < ts.length) : PCall Tryz.prog 101 [plE p n,e.enc, .lst 3 (ts.map DTy.enc) none] (tyA (plainT e ts)) := by
  refine pcall_of_vc tabOK Tryz.func101 n101 rfl (by repeat' first | exact pure_nil | refine pure_cons ?_ ?_ | exact pure_plE _ _ | exact pure_enc _ | exact DTy.pures _) (pure_tyA _) (n := 111) rfl (rs := [.cell 6 42, .tmp 7]) rfl ?_
  obtain ⟨t0, ht0⟩ : ∃ t, ts[0]? = some t := ⟨_, List.getElem?_eq_getElem (by omega)⟩
  rcases hk with hk | hk | hk | hk | hk | hk
  · have hf : plainT e ts = unT e.op t0 := by unfold plainT; rw [if_pos hk, getD_at ht0]
    rw [hf]
    repeat' first
      | simp only [go_sem, Nat.reduceAdd, Nat.reduceSub, Nat.reduceMul, Nat.reduceLT, Nat.reduceLeDiff, Nat.reduceEqDiff, Nat.reduceBEq, Nat.reduceBNe, Nat.reducePow, Int.reduceEq, Int.reduceNe, Int.reduceLT, Int.reduceLE, Int.reduceGT, Int.reduceGE, Int.reduceAdd, Int.reduceSub, Int.reduceNeg, Int.reduceMul, not_true_eq_false, not_false_eq_true, true_and, and_true, Int.reduceToNat, hk]
      | refine drawC [2] mo (by kernel_rfl) ?_
      | refine elemHave (x := t0) (by omega) ht0 ?_
      | (refine pcK_of (unP e.op t0) ?_; generalize unT e.op t0 = q; obtain ⟨t, ok⟩ := q)
      | (refine PCall.call (unP e.op t0) ?_; generalize unT e.op t0 = q; obtain ⟨t, ok⟩ := q)
      | exact finTy rfl rfl
  · have h2' := h2 (.inl hk)
    obtain ⟨t1, ht1⟩ : ∃ t, ts[1]? = some t := ⟨_, List.getElem?_eq_getElem (by omega)⟩
    have hf : plainT e ts = binT e.op t0 t1 := by unfold plainT; rw [if_neg (by omega), if_pos hk, getD_at ht0, getD_at ht1]
    rw [hf]
    repeat' first
      | simp only [go_sem, Nat.reduceAdd, Nat.reduceSub, Nat.reduceMul, Nat.reduceLT, Nat.reduceLeDiff, Nat.reduceEqDiff, Nat.reduceBEq, Nat.reduceBNe, Nat.reducePow, Int.reduceEq, Int.reduceNe, Int.reduceLT, Int.reduceLE, Int.reduceGT, Int.reduceGE, Int.reduceAdd, Int.reduceSub, Int.reduceNeg, Int.reduceMul, not_true_eq_false, not_false_eq_true, true_and, and_true, Int.reduceToNat, hk]
      | refine drawC [2] mo (by kernel_rfl) ?_
      | refine elemHave (x := t0) (by omega) ht0 ?_
      | refine elemHave (x := t1) (by omega) ht1 ?_
      | (refine pcK_of (binP e.op t0 t1) ?_; generalize binT e.op t0 t1 = q; obtain ⟨t, ok⟩ := q)
      | (refine PCall.call (binP e.op t0 t1) ?_; generalize binT e.op t0 t1 = q; obtain ⟨t, ok⟩ := q)
      | exact finTy rfl rfl
  · have h3' := h3 (.inl hk)
    obtain ⟨t1, ht1⟩ : ∃ t, ts[1]? = some t := ⟨_, List.getElem?_eq_getElem (by omega)⟩
    obtain ⟨t2, ht2⟩ : ∃ t, ts[2]? = some t := ⟨_, List.getElem?_eq_getElem (by omega)⟩
    have hf : plainT e ts = (t1, decide (t0 = tyB) && decide (t1 = t2)) := by unfold plainT; rw [if_neg (by omega), if_neg (by omega), if_pos hk, getD_at ht0, getD_at ht1, getD_at ht2]
    rw [hf]
    repeat' first
      | simp only [go_sem, Nat.reduceAdd, Nat.reduceSub, Nat.reduceMul, Nat.reduceLT, Nat.reduceLeDiff, Nat.reduceEqDiff, Nat.reduceBEq, Nat.reduceBNe, Nat.reducePow, Int.reduceEq, Int.reduceNe, Int.reduceLT, Int.reduceLE, Int.reduceGT, Int.reduceGE, Int.reduceAdd, Int.reduceSub, Int.reduceNeg, Int.reduceMul, not_true_eq_false, not_false_eq_true, true_and, and_true, Int.reduceToNat, hk]
      | refine drawC [2] mo (by kernel_rfl) ?_
      | refine elemHave (x := t0) (by omega) ht0 ?_
      | refine elemHave (x := t1) (by omega) ht1 ?_
      | refine elemHave (x := t2) (by omega) ht2 ?_
      | (refine pcK_of (truthP t0) ?_)
      | refine gqK_dec (fun _ => ?_) (fun _ => ?_)
      | exact finTy rfl (by simp [*])
  · have hf : plainT e ts = (⟨t0.Kind, t0.Enum, (ts.length : Int)⟩, sameT ts && decide (t0.Len = 0)) := by unfold plainT; rw [if_neg (by omega), if_neg (by omega), if_neg (by omega), if_pos hk, getD_at ht0]
    rw [hf]
    repeat' first
      | simp only [go_sem, Nat.reduceAdd, Nat.reduceSub, Nat.reduceMul, Nat.reduceLT, Nat.reduceLeDiff, Nat.reduceEqDiff, Nat.reduceBEq, Nat.reduceBNe, Nat.reducePow, Int.reduceEq, Int.reduceNe, Int.reduceLT, Int.reduceLE, Int.reduceGT, Int.reduceGE, Int.reduceAdd, Int.reduceSub, Int.reduceNeg, Int.reduceMul, not_true_eq_false, not_false_eq_true, true_and, and_true, Int.reduceToNat, hk]
      | (intro _)
      | refine drawC [2] mo (by kernel_rfl) ?_
      | refine elemHave (x := t0) (by omega) ht0 ?_
      | (refine pcK_of (sameP ts) ?_; generalize sameT ts = b; cases b)
      | exact finTy rfl (by simp)
  · have h2' := h2 (.inr hk)
    obtain ⟨t1, ht1⟩ : ∃ t, ts[1]? = some t := ⟨_, List.getElem?_eq_getElem (by omega)⟩
    have hf : plainT e ts = (oneT t0, decide (t0.Len > 0) && decide (t1 = tyI)) := by unfold plainT; rw [if_neg (by omega), if_neg (by omega), if_neg (by omega), if_neg (by omega), if_pos hk, getD_at ht0, getD_at ht1]
    rw [hf]
    repeat' first
      | simp only [go_sem, Nat.reduceAdd, Nat.reduceSub, Nat.reduceMul, Nat.reduceLT, Nat.reduceLeDiff, Nat.reduceEqDiff, Nat.reduceBEq, Nat.reduceBNe, Nat.reducePow, Int.reduceEq, Int.reduceNe, Int.reduceLT, Int.reduceLE, Int.reduceGT, Int.reduceGE, Int.reduceAdd, Int.reduceSub, Int.reduceNeg, Int.reduceMul, not_true_eq_false, not_false_eq_true, true_and, and_true, Int.reduceToNat, hk]
      | refine drawC [2] mo (by kernel_rfl) ?_
      | refine elemHave (x := t0) (by omega) ht0 ?_
      | refine elemHave (x := t1) (by omega) ht1 ?_
      | (refine pcK_of (oneP t0) ?_)
      | (refine pcK_of (wholeP t1) ?_)
      | refine gqK_dec (fun _ => ?_) (fun _ => ?_)
      | exact finTy rfl (by simp [oneT, *])
  · have h3' := h3 (.inr hk)
    obtain ⟨t1, ht1⟩ : ∃ t, ts[1]? = some t := ⟨_, List.getElem?_eq_getElem (by omega)⟩
    obtain ⟨t2, ht2⟩ : ∃ t, ts[2]? = some t := ⟨_, List.getElem?_eq_getElem (by omega)⟩
    have hf : plainT e ts = (t0, decide (t0.Len > 0) && decide (t1 = tyI) && decide (t2 = oneT t0)) := by unfold plainT; rw [if_neg (by omega), if_neg (by omega), if_neg (by omega), if_neg (by omega), if_neg (by omega), getD_at ht0, getD_at ht1, getD_at ht2]
    rw [hf]
    unfold oneT
    repeat' first
      | simp only [go_sem, Nat.reduceAdd, Nat.reduceSub, Nat.reduceMul, Nat.reduceLT, Nat.reduceLeDiff, Nat.reduceEqDiff, Nat.reduceBEq, Nat.reduceBNe, Nat.reducePow, Int.reduceEq, Int.reduceNe, Int.reduceLT, Int.reduceLE, Int.reduceGT, Int.reduceGE, Int.reduceAdd, Int.reduceSub, Int.reduceNeg, Int.reduceMul, not_true_eq_false, not_false_eq_true, true_and, and_true, Int.reduceToNat, hk]
      | refine drawC [2] mo (by kernel_rfl) ?_
      | refine elemHave (x := t0) (by omega) ht0 ?_
      | refine elemHave (x := t1) (by omega) ht1 ?_
      | refine elemHave (x := t2) (by omega) ht2 ?_
      | (refine pcK_of (oneP t0) ?_)
      | (refine pcK_of (wholeP t1) ?_)
      | refine gqK_dec (fun _ => ?_) (fun _ => ?_)
      | exact finTy rfl (by simp [*])

end Go.Proofs.YtipcmpkihhfhcaaGreatDoor

namespace Go.Proofs.YtipcmpkihhfhcaaGreatDoor
open Go.Abs
set_option maxRecDepth 20000
set_option linter.unusedSimpArgs false
set_option linter.unusedVariables false
set_option maxHeartbeats 1000000
attribute [local irreducible] vc vcOps vcStep vcGuard prK hrK gK gsK brK callK ElemK SeqK BlockK ScopeK OpsK CallK LoopK LoopGo finPost ACall PCall PCallE BCall vqOps vqStep vqGuard qrK heK pcK gqK gqsK QOpsK qcallK DrawK
abbrev subsA (o : Option (List DTy)) : AV := .tup [.lst 3 ((o.getD []).map DTy.enc) none, .b o.isSome]
theorem pure_subsA (o : Option (List DTy)) : Go.Abs.Pure (subsA o) := .tup _ (pure_cons (DTy.pures _) (pure_cons (.raw _) pure_nil))
theorem finS0 {T : TypeId → TI} {rs : List ResultVar} {s : List AV} {h : List Blk} {o : Option (List DTy)} (hr : resAV T s h rs = some [.raw (.slice none 0 0), .b false]) (ho : o = none) : Go.Abs.Fin T rs (subsA o) s h := by
  subst ho
  refine ⟨_, hr, false, Weak.tup _ _ rfl (fun i c d hc hd => ?_)⟩
  match i with
  | 0 => (cases hc; cases hd; exact .nil _)
  | 1 => (cases hc; cases hd; exact .refl _)
  | i + 2 => simp at hc
theorem finSk {T : TypeId → TI} {rs : List ResultVar} {s : List AV} {h : List Blk} {o : Option (List DTy)} {ts : List DTy} {k : Nat} (hr : resAV T s h rs = some [.lst 3 (ts.map DTy.enc) (some k), .b true]) (ho : o = some ts) : Go.Abs.Fin T rs (subsA o) s h := by
  subst ho
  refine ⟨_, hr, false, Weak.tup _ _ rfl (fun i c d hc hd => ?_)⟩
  match i with
  | 0 => (cases hc; cases hd; exact .tok _ _ _)
  | 1 => (cases hc; cases hd; exact .refl _)
  | i + 2 => simp at hc
theorem allS_len : ∀ {l : List (Option DTy)} {ts : List DTy}, allS l = some ts → ts.length = l.length
  | [], ts, h => by cases h; rfl
  | none :: l, ts, h => by cases h
  | some t :: l, ts, h => by
    rw [allS] at h
    cases hq : allS l with
    | none => rw [hq] at h; cases h
    | some us => rw [hq] at h; cases h; simp [allS_len hq]
theorem allS_snoc : ∀ {l : List (Option DTy)} {ts : List DTy} (t : DTy), allS l = some ts → allS (l ++ [some t]) = some (ts ++ [t])
  | [], ts, t, h => by cases h; rfl
  | none :: l, ts, t, h => by cases h
  | some u :: l, ts, t, h => by
    rw [allS] at h
    cases hq : allS l with
    | none => rw [hq] at h; cases h
    | some us => rw [hq] at h; cases h; rw [List.cons_append, allS, allS_snoc t hq]; rfl
theorem allS_none : ∀ {l : List (Option DTy)}, none ∈ l → allS l = none
  | [], h => by simp at h
  | none :: l, _ => rfl
  | some u :: l, h => by
    rw [allS, allS_none (l := l) (by simpa using h)]
    rfl
abbrev OfC (p : DProg) (n : DNode) (x : Ex) : Prop := PCall Tryz.prog 56 [plE p n, x.enc] (tyA (headP p n x (ofL p n x.subs)))
theorem n99 : (Tryz.f99.name == "runtime.NumGoroutine") = false := by kernel_rfl
theorem subsP (p : DProg) (n : DNode) (e : Ex) (hb : e.subs.length ≤ 200) (ih : ∀ x ∈ e.subs, OfC p n x) : PCall Tryz.prog 99 [plE p n, e.enc] (subsA (allS (ofL p n e.subs))) := by
  refine pcall_of_vc tabOK Tryz.func99 n99 rfl (pure_cons (pure_plE p n) (pure_cons (pure_enc e) pure_nil)) (pure_subsA _) (n := 32) rfl (rs := [.tmp 4, .tmp 5]) rfl ?_
  rw [ofL_map]
  simp only [go_sem, Nat.reduceAdd, Nat.reduceSub, Nat.reduceMul, Nat.reduceLT, Nat.reduceLeDiff, Nat.reduceEqDiff, Nat.reduceBEq, Nat.reduceBNe, Nat.reducePow, Int.reduceEq, Int.reduceNe, Int.reduceLT, Int.reduceLE, Int.reduceGT, Int.reduceGE, Int.reduceAdd, Int.reduceSub, Int.reduceNeg, Int.reduceMul, not_true_eq_false, not_false_eq_true, true_and, and_true, Int.reduceToNat]
  intro _
  refine loop_ghost (ghost_tok 6 42 3 rfl) ?_
  refine loop_fr [4, 5, 6, 8, 9, 10, 14, 15, 16, 17, 18, 19, 20, 21, 22, 23, 24, 25, 26, 27, 28, 29, 30] (fun m C hh => ∃ (i : Nat) (r : List Blk) (ts : List DTy), i ≤ e.subs.length ∧ m = e.subs.length - i ∧ allS ((e.subs.take i).map (ofT p n)) = some ts ∧ ts.length = i ∧ C = [(14, .raw (.int .i64 (i : Nat))), (6, .lst 3 (ts.map DTy.enc) (some 2))] ∧
    hh = .cells 83 [.lst 2 (p.Enums.map DEnum.enc) none, .lst 5 (p.Nodes.map DNode.enc) none, .s n.Name, .lst 6 (n.Ins.map DDecl.enc) none, .lst 6 (n.Outs.map DDecl.enc) none, .lst 6 (n.Vars.map DDecl.enc) none, .lst 7 (n.Eqs.map DEq.enc) none] :: .cells 49 [.i e.kind, .i e.n, .s e.name, .i e.op, .lst 1 (e.arms.map AV.s) none, .lst 6 (e.subs.map Ex.enc) none] :: .tok 42 3 i :: r) e.subs.length _ ⟨0, [], [], by omega, by omega, rfl, rfl, rfl, rfl⟩ (.cons rfl (.cons rfl .nil)) ?_
  rintro m C ja hh ⟨i, r, ts, hi, rfl, hA, hl, rfl, rfl⟩
  simp only [go_sem, Nat.reduceAdd, Nat.reduceSub, Nat.reduceMul, Nat.reduceLT, Nat.reduceLeDiff, Nat.reduceEqDiff, Nat.reduceBEq, Nat.reduceBNe, Nat.reducePow, Int.reduceEq, Int.reduceNe, Int.reduceLT, Int.reduceLE, Int.reduceGT, Int.reduceGE, Int.reduceAdd, Int.reduceSub, Int.reduceNeg, Int.reduceMul, not_true_eq_false, not_false_eq_true, true_and, and_true, Int.reduceToNat]
  refine brK_dec (fun hlt => ?_) (fun hge => ?_)
  · simp only [go_sem, Nat.reduceAdd, Nat.reduceSub, Nat.reduceMul, Nat.reduceLT, Nat.reduceLeDiff, Nat.reduceEqDiff, Nat.reduceBEq, Nat.reduceBNe, Nat.reducePow, Int.reduceEq, Int.reduceNe, Int.reduceLT, Int.reduceLE, Int.reduceGT, Int.reduceGE, Int.reduceAdd, Int.reduceSub, Int.reduceNeg, Int.reduceMul, not_true_eq_false, not_false_eq_true, true_and, and_true, Int.reduceToNat]
    refine elemMap (by omega) (by omega) (fun x hx => ?_)
    have hxm := List.mem_of_getElem? hx
    have hst := take_mapS (f := ofT p n) hx
    have hoT := ofT_eq p n x
    simp only [go_sem, Nat.reduceAdd, Nat.reduceSub, Nat.reduceMul, Nat.reduceLT, Nat.reduceLeDiff, Nat.reduceEqDiff, Nat.reduceBEq, Nat.reduceBNe, Nat.reducePow, Int.reduceEq, Int.reduceNe, Int.reduceLT, Int.reduceLE, Int.reduceGT, Int.reduceGE, Int.reduceAdd, Int.reduceSub, Int.reduceNeg, Int.reduceMul, not_true_eq_false, not_false_eq_true, true_and, and_true, Int.reduceToNat]
    refine PCall.call (ih x hxm) ?_
    generalize headP p n x (ofL p n x.subs) = q at hoT
    obtain ⟨t, ok⟩ := q
    cases ok with
    | false =>
      simp only [go_sem, Nat.reduceAdd, Nat.reduceSub, Nat.reduceMul, Nat.reduceLT, Nat.reduceLeDiff, Nat.reduceEqDiff, Nat.reduceBEq, Nat.reduceBNe, Nat.reducePow, Int.reduceEq, Int.reduceNe, Int.reduceLT, Int.reduceLE, Int.reduceGT, Int.reduceGE, Int.reduceAdd, Int.reduceSub, Int.reduceNeg, Int.reduceMul, not_true_eq_false, not_false_eq_true, true_and, and_true, Int.reduceToNat]
      exact finS0 rfl (allS_none (List.mem_map.2 ⟨x, hxm, by rw [hoT]; rfl⟩))
    | true =>
      simp only [go_sem, Nat.reduceAdd, Nat.reduceSub, Nat.reduceMul, Nat.reduceLT, Nat.reduceLeDiff, Nat.reduceEqDiff, Nat.reduceBEq, Nat.reduceBNe, Nat.reducePow, Int.reduceEq, Int.reduceNe, Int.reduceLT, Int.reduceLE, Int.reduceGT, Int.reduceGE, Int.reduceAdd, Int.reduceSub, Int.reduceNeg, Int.reduceMul, not_true_eq_false, not_false_eq_true, true_and, and_true, Int.reduceToNat]
      refine ⟨by omega, ?_⟩
      exact loopFr _ (by omega) ⟨i + 1, _, ts ++ [t], by omega, rfl, by rw [hst, hoT]; exact allS_snoc t hA, by simp [hl], rfl, by rw [hl]⟩ (.next rfl (by omega) (.cons (by simp [slot]) .nil)) rfl
  · rw [List.take_of_length_le (by omega)] at hA
    simp only [go_sem, Nat.reduceAdd, Nat.reduceSub, Nat.reduceMul, Nat.reduceLT, Nat.reduceLeDiff, Nat.reduceEqDiff, Nat.reduceBEq, Nat.reduceBNe, Nat.reducePow, Int.reduceEq, Int.reduceNe, Int.reduceLT, Int.reduceLE, Int.reduceGT, Int.reduceGE, Int.reduceAdd, Int.reduceSub, Int.reduceNeg, Int.reduceMul, not_true_eq_false, not_false_eq_true, true_and, and_true, Int.reduceToNat]
    exact finSk rfl hA
theorem n98 : (Tryz.f98.name == "runtime.NumGoroutine") = false := by kernel_rfl
theorem delayedP (p : DProg) (n : DNode) (e c x : Ex) (hs : e.subs = [c, x]) (h8 : e.kind = 8) (hc : okE c) (ih : OfC p n x) : PCall Tryz.prog 98 [plE p n, e.enc] (tyA (headP p n e (ofL p n e.subs))) := by
  refine pcall_of_vc tabOK Tryz.func98 n98 rfl (pure_cons (pure_plE p n) (pure_cons (pure_enc e) pure_nil)) (pure_tyA _) (n := 42) rfl (rs := [.cell 4 42, .tmp 5]) rfl ?_
  have hf : headP p n e (ofL p n e.subs) = ((constT p.Enums c).2.1, (constT p.Enums c).2.2 && decide (ofT p n x = some (constT p.Enums c).2.1)) := by
    unfold headP
    rw [if_neg (by omega), if_neg (by omega), if_pos h8, hs, ofL_map]
    rfl
  have hoT := ofT_eq p n x
  rw [hf]
  have e0 : e.subs[0]? = some c := by rw [hs]; rfl
  have e1 : e.subs[1]? = some x := by rw [hs]; rfl
  generalize hq : constT p.Enums c = q
  obtain ⟨l, t, ok⟩ := q
  generalize hq2 : headP p n x (ofL p n x.subs) = q2 at hoT
  obtain ⟨u, is⟩ := q2
  have hcP := constP p.Enums c hc
  rw [hq] at hcP
  have hx := ih
  unfold OfC at hx
  rw [hq2] at hx
  repeat' first
    | simp only [go_sem, Nat.reduceAdd, Nat.reduceSub, Nat.reduceMul, Nat.reduceLT, Nat.reduceLeDiff, Nat.reduceEqDiff, Nat.reduceBEq, Nat.reduceBNe, Nat.reducePow, Int.reduceEq, Int.reduceNe, Int.reduceLT, Int.reduceLE, Int.reduceGT, Int.reduceGE, Int.reduceAdd, Int.reduceSub, Int.reduceNeg, Int.reduceMul, not_true_eq_false, not_false_eq_true, true_and, and_true, Int.reduceToNat]
    | refine drawC [2] mo (by kernel_rfl) ?_
    | refine elemHave (x := c) (by omega) e0 ?_
    | refine elemHave (x := x) (by omega) e1 ?_
    | (refine pcK_of hcP ?_)
    | (refine pcK_of hx ?_)
    | refine gqK_split (fun _ => ?_) (fun _ => ?_)
    | refine gqK_dec (fun _ => ?_) (fun _ => ?_)
  all_goals (refine finTy rfl ?_; rw [hoT]; first | (simp [opt, *]; done) | (simp [opt, *]; exact eq_comm))
end Go.Proofs.YtipcmpkihhfhcaaGreatDoor

namespace Go.Proofs.YtipcmpkihhfhcaaGreatDoor
open Go.Abs
set_option maxRecDepth 20000
set_option linter.unusedSimpArgs false
set_option linter.unusedVariables false
set_option maxHeartbeats 1000000
attribute [local irreducible] vc vcOps vcStep vcGuard prK hrK gK gsK brK callK ElemK SeqK BlockK ScopeK OpsK CallK LoopK LoopGo finPost ACall PCall PCallE BCall vqOps vqStep vqGuard qrK heK pcK gqK gqsK QOpsK qcallK DrawK
theorem part_facts {e : Ex} (h : partE e = true) : (1 ≤ e.kind ∧ e.kind ≤ 17) ∧ (subsE e).1 ≤ e.subs.length ∧ (e.subs.length : Int) ≤ (subsE e).2 ∧ (e.kind = 11 → 0 < e.arms.length) ∧ (e.kind = 12 → 0 < e.arms.length) ∧ (e.kind = 13 → e.n = 0 ∨ e.n = 1) := by
  obtain ⟨h1, h2, _⟩ := partE_len h
  unfold partE at h
  simp only [Bool.and_eq_true, decide_eq_true_eq] at h
  obtain ⟨⟨⟨⟨⟨⟨hk, hn⟩, _⟩, ha⟩, _⟩, _⟩, _⟩ := h
  refine ⟨hk, h1, h2, fun k => ?_, fun k => ?_, fun k => ?_⟩
  · unfold armsE at ha
    rw [if_pos k] at ha
    simp only [Bool.and_eq_true, decide_eq_true_eq] at ha
    omega
  · unfold armsE at ha
    rw [if_neg (by omega), if_pos k] at ha
    simp only [Bool.and_eq_true, decide_eq_true_eq] at ha
    omega
  · unfold numbersE at hn
    rw [if_neg (by omega), if_neg (by omega), if_neg (by omega), if_pos (.inr k)] at hn
    simp only [Bool.and_eq_true, decide_eq_true_eq] at hn
    exact hn.2
def tyOK (p : DProg) (n : DNode) : Prop := (allV n).length ≤ 60 ∧ ∀ nm, (decl n nm).1.Ty.Kind = 3 → 0 ≤ (decl n nm).1.Ty.Enum ∧ (decl n nm).1.Ty.Enum < p.Enums.length
theorem sub_ok {e x : Ex} (h : ∀ y ∈ parts e, partE y = true) (hx : x ∈ e.subs) : ∀ y ∈ parts x, partE y = true := fun y hy => h y (sub_parts hx hy)
theorem sub_okE {e x : Ex} (h : okE e) (hx : x ∈ e.subs) : okE x := ok_part h (sub_parts hx (self_parts x))
theorem n56 : (Tryz.f56.name == "runtime.NumGoroutine") = false := by kernel_rfl
theorem ofP (p : DProg) (n : DNode) (ho : tyOK p n) : ∀ (e : Ex), (∀ y ∈ parts e, partE y = true) → okE e → OfC p n e := by
  intro e
  induction e using Ex.ind with
  | _ e ih =>
  intro hp hok
  have hsl := subs_le hok
  obtain ⟨hk, hlo, hhi, ha11, ha12, hn13⟩ := part_facts (hp e (self_parts e))
  have ih' : ∀ x ∈ e.subs, OfC p n x := fun x hx => ih x hx (sub_ok hp hx) (sub_okE hok hx)
  unfold OfC
  refine pcall_of_vc tabOK Tryz.func56 n56 rfl (pure_cons (pure_plE p n) (pure_cons (pure_enc e) pure_nil)) (pure_tyA _) (n := 82) rfl (rs := [.cell 4 42, .tmp 5]) rfl ?_
  by_cases h124 : e.kind = 1 ∨ e.kind = 2 ∨ e.kind = 4
  · have hf : headP p n e (ofL p n e.subs) = ((constT p.Enums e).2.1, (constT p.Enums e).2.2) := by unfold headP; rw [if_pos h124]
    rw [hf]
    have hc := constP p.Enums e hok
    generalize constT p.Enums e = q at hc
    obtain ⟨l, t, ok⟩ := q
    repeat' first
      | (exfalso; omega)
      | simp only [go_sem, Nat.reduceAdd, Nat.reduceSub, Nat.reduceMul, Nat.reduceLT, Nat.reduceLeDiff, Nat.reduceEqDiff, Nat.reduceBEq, Nat.reduceBNe, Nat.reducePow, Int.reduceEq, Int.reduceNe, Int.reduceLT, Int.reduceLE, Int.reduceGT, Int.reduceGE, Int.reduceAdd, Int.reduceSub, Int.reduceNeg, Int.reduceMul, not_true_eq_false, not_false_eq_true, true_and, and_true, Int.reduceToNat]
      | refine brK_dec (fun _ => ?_) (fun _ => ?_)
      | (refine PCall.call hc ?_)
      | exact finTy rfl rfl
  by_cases h3 : e.kind = 3
  · have hf : headP p n e (ofL p n e.subs) = ((decl n e.name).1.Ty, (decl n e.name).2) := by unfold headP; rw [if_neg h124, if_pos h3]
    rw [hf]
    have hc := decl25 n e.name (by have := ho.1; omega)
    generalize decl n e.name = q at hc
    obtain ⟨d, ok⟩ := q
    repeat' first
      | (exfalso; omega)
      | simp only [go_sem, Nat.reduceAdd, Nat.reduceSub, Nat.reduceMul, Nat.reduceLT, Nat.reduceLeDiff, Nat.reduceEqDiff, Nat.reduceBEq, Nat.reduceBNe, Nat.reducePow, Int.reduceEq, Int.reduceNe, Int.reduceLT, Int.reduceLE, Int.reduceGT, Int.reduceGE, Int.reduceAdd, Int.reduceSub, Int.reduceNeg, Int.reduceMul, not_true_eq_false, not_false_eq_true, true_and, and_true, Int.reduceToNat]
      | refine brK_dec (fun _ => ?_) (fun _ => ?_)
      | (refine PCall.call hc ?_)
      | exact finTy rfl rfl
  by_cases h8 : e.kind = 8
  · have hs2 : (subsE e).1 = 2 ∧ (subsE e).2 = 2 := by simp [subsE, h8]
    match hs : e.subs, (show e.subs.length = 2 by omega) with
    | [c, x], _ =>
      have hd := delayedP p n e c x hs h8 (sub_okE hok (by rw [hs]; simp)) (ih' x (by rw [hs]; simp))
      rw [hs] at hd
      generalize headP p n e (ofL p n [c, x]) = q at hd
      obtain ⟨t, ok⟩ := q
      repeat' first
        | (exfalso; omega)
        | simp only [go_sem, Nat.reduceAdd, Nat.reduceSub, Nat.reduceMul, Nat.reduceLT, Nat.reduceLeDiff, Nat.reduceEqDiff, Nat.reduceBEq, Nat.reduceBNe, Nat.reducePow, Int.reduceEq, Int.reduceNe, Int.reduceLT, Int.reduceLE, Int.reduceGT, Int.reduceGE, Int.reduceAdd, Int.reduceSub, Int.reduceNeg, Int.reduceMul, not_true_eq_false, not_false_eq_true, true_and, and_true, Int.reduceToNat]
        | refine brK_dec (fun _ => ?_) (fun _ => ?_)
        | (refine PCall.call hd ?_)
        | exact finTy rfl rfl
  by_cases h17 : e.kind = 17
  · have hf : headP p n e (ofL p n e.subs) = (ty0, false) := by unfold headP; rw [if_neg h124, if_neg h3, if_neg h8, if_pos h17]
    rw [hf]
    repeat' first
      | (exfalso; omega)
      | simp only [go_sem, Nat.reduceAdd, Nat.reduceSub, Nat.reduceMul, Nat.reduceLT, Nat.reduceLeDiff, Nat.reduceEqDiff, Nat.reduceBEq, Nat.reduceBNe, Nat.reducePow, Int.reduceEq, Int.reduceNe, Int.reduceLT, Int.reduceLE, Int.reduceGT, Int.reduceGE, Int.reduceAdd, Int.reduceSub, Int.reduceNeg, Int.reduceMul, not_true_eq_false, not_false_eq_true, true_and, and_true, Int.reduceToNat]
      | refine brK_dec (fun _ => ?_) (fun _ => ?_)
      | exact finTy rfl rfl
  have hf0 : allS (ofL p n e.subs) = none → headP p n e (ofL p n e.subs) = (ty0, false) := fun h => by
    unfold headP; rw [if_neg h124, if_neg h3, if_neg h8, if_neg h17, h]
  have hf1 : ∀ ts, allS (ofL p n e.subs) = some ts → headP p n e (ofL p n e.subs) = if 9 ≤ e.kind ∧ e.kind ≤ 13 then flowT p n e ts else plainT e ts := fun ts h => by
    unfold headP; rw [if_neg h124, if_neg h3, if_neg h8, if_neg h17, h]
  have hsub := subsP p n e hsl ih'
  have hlen : ∀ ts, allS (ofL p n e.subs) = some ts → ts.length = e.subs.length := fun ts h => by rw [allS_len h, ofL_map, List.length_map]
  generalize headP p n e (ofL p n e.subs) = HH at hf0 hf1 ⊢
  generalize allS (ofL p n e.subs) = S at hsub hlen hf0 hf1
  cases S with
  | none =>
    rw [hf0 rfl]
    have hsub : PCall Tryz.prog 99 [plE p n, e.enc] (.tup [.lst 3 [] none, .b false]) := hsub
    repeat' first
      | (exfalso; omega)
      | simp only [go_sem, Nat.reduceAdd, Nat.reduceSub, Nat.reduceMul, Nat.reduceLT, Nat.reduceLeDiff, Nat.reduceEqDiff, Nat.reduceBEq, Nat.reduceBNe, Nat.reducePow, Int.reduceEq, Int.reduceNe, Int.reduceLT, Int.reduceLE, Int.reduceGT, Int.reduceGE, Int.reduceAdd, Int.reduceSub, Int.reduceNeg, Int.reduceMul, not_true_eq_false, not_false_eq_true, true_and, and_true, Int.reduceToNat]
      | refine brK_dec (fun _ => ?_) (fun _ => ?_)
      | (refine PCall.call hsub ?_)
      | exact finTy rfl rfl
  | some ts =>
    have hl := hlen ts rfl
    have hsub : PCall Tryz.prog 99 [plE p n, e.enc] (.tup [.lst 3 (ts.map DTy.enc) none, .b true]) := hsub
    rw [hf1 ts rfl]
    by_cases hfl : 9 ≤ e.kind ∧ e.kind ≤ 13
    · rw [if_pos hfl]
      have hfp := flowP p n ho.1 e ts hfl
        (fun h => by
          have : 1 ≤ (subsE e).1 := by
            rcases (show e.kind = 9 ∨ e.kind = 10 ∨ e.kind = 11 ∨ e.kind = 12 by omega) with k | k | k | k
            · simp [subsE, k]
            · simp [subsE, k]
            · simp [subsE, k]
            · have := ha12 k; simp [subsE, k]; omega
          omega)
        (fun h => by have : (subsE e).1 = 2 := by simp [subsE, h]
                     omega) ha11 (ho.2 e.name)
        (fun h => ⟨hn13 h, by have : (subsE e).1 = e.n := by simp [subsE, h]
                              omega⟩)
      generalize flowT p n e ts = q at hfp
      obtain ⟨t, ok⟩ := q
      repeat' first
        | (exfalso; omega)
        | simp only [go_sem, Nat.reduceAdd, Nat.reduceSub, Nat.reduceMul, Nat.reduceLT, Nat.reduceLeDiff, Nat.reduceEqDiff, Nat.reduceBEq, Nat.reduceBNe, Nat.reducePow, Int.reduceEq, Int.reduceNe, Int.reduceLT, Int.reduceLE, Int.reduceGT, Int.reduceGE, Int.reduceAdd, Int.reduceSub, Int.reduceNeg, Int.reduceMul, not_true_eq_false, not_false_eq_true, true_and, and_true, Int.reduceToNat]
        | refine brK_dec (fun _ => ?_) (fun _ => ?_)
        | (refine PCall.call hsub ?_)
        | (refine PCall.call hfp ?_)
        | exact finTy rfl rfl
    · rw [if_neg hfl]
      have hk2 : e.kind = 5 ∨ e.kind = 6 ∨ e.kind = 7 ∨ e.kind = 14 ∨ e.kind = 15 ∨ e.kind = 16 := by omega
      have hpp := plainP p n e ts hk2
        (by
          have : 1 ≤ (subsE e).1 := by rcases hk2 with k | k | k | k | k | k <;> simp [subsE, k]
          omega)
        (fun h => by
          have : (subsE e).1 = 2 := by rcases h with k | k <;> simp [subsE, k]
          omega)
        (fun h => by
          have : (subsE e).1 = 3 := by rcases h with k | k <;> simp [subsE, k]
          omega)
      generalize plainT e ts = q at hpp
      obtain ⟨t, ok⟩ := q
      repeat' first
        | (exfalso; omega)
        | simp only [go_sem, Nat.reduceAdd, Nat.reduceSub, Nat.reduceMul, Nat.reduceLT, Nat.reduceLeDiff, Nat.reduceEqDiff, Nat.reduceBEq, Nat.reduceBNe, Nat.reducePow, Int.reduceEq, Int.reduceNe, Int.reduceLT, Int.reduceLE, Int.reduceGT, Int.reduceGE, Int.reduceAdd, Int.reduceSub, Int.reduceNeg, Int.reduceMul, not_true_eq_false, not_false_eq_true, true_and, and_true, Int.reduceToNat]
        | refine brK_dec (fun _ => ?_) (fun _ => ?_)
        | (refine PCall.call hsub ?_)
        | (refine PCall.call hpp ?_)
        | exact finTy rfl rfl
end Go.Proofs.YtipcmpkihhfhcaaGreatDoor

namespace Go.Proofs.YtipcmpkihhfhcaaGreatDoor
open Go.Abs
set_option maxRecDepth 20000
set_option linter.unusedSimpArgs false
set_option linter.unusedVariables false
set_option maxHeartbeats 1000000
attribute [local irreducible] vc vcOps vcStep vcGuard prK hrK gK gsK brK callK ElemK SeqK BlockK ScopeK OpsK CallK LoopK LoopGo finPost ACall PCall PCallE BCall vqOps vqStep vqGuard qrK heK pcK gqK gqsK QOpsK qcallK DrawK
def normT (o : Option DTy) : DTy × Bool := (o.getD ty0, o.isSome)
theorem normT_opt (q : DTy × Bool) : normT (opt q) = if q.2 = true then q else (ty0, false) := by
  obtain ⟨t, ok⟩ := q
  cases ok <;> rfl
noncomputable def headX (p : DProg) (n : DNode) (e : Ex) (S : List (Option DTy)) : DTy × Bool :=
  if e.kind = 8 then ((normT (S.getD 1 none)).1, (constT p.Enums (e.subs.headD e)).2.2 && decide (S.getD 1 none = some (constT p.Enums (e.subs.headD e)).2.1)) else headP p n e S
theorem opt_headX (p : DProg) (n : DNode) (e : Ex) (S : List (Option DTy)) : opt (headX p n e S) = opt (headP p n e S) := by
  unfold headX
  by_cases h8 : e.kind = 8
  · rw [if_pos h8]
    unfold headP
    rw [if_neg (by omega), if_neg (by omega), if_pos h8]
    generalize constT p.Enums (e.subs.headD e) = c
    obtain ⟨l, t, ok⟩ := c
    by_cases h : S.getD 1 none = some t
    · rw [h]; cases ok <;> simp [opt, normT]
    · rw [decide_eq_false h]; cases ok <;> simp [opt]
  · rw [if_neg h8]
abbrev OfXC (p : DProg) (j : Nat) (n : DNode) (x : Ex) : Prop := PCall Tryz.prog 25 [p.enc, .i (j : Int), x.enc] (tyA (normT (ofT p n x)))
theorem n102 : (Tryz.f102.name == "runtime.NumGoroutine") = false := by kernel_rfl
theorem subsX (p : DProg) (j : Nat) (n : DNode) (e : Ex) (hb : e.subs.length ≤ 200) (ih : ∀ x ∈ e.subs, OfXC p j n x) : PCall Tryz.prog 102 [p.enc, .i (j : Int), e.enc] (subsA (allS (ofL p n e.subs))) := by
  refine pcall_of_vc tabOK Tryz.func102 n102 rfl (pure_cons (DProg.pure _) (pure_cons (.raw _) (pure_cons (pure_enc e) pure_nil))) (pure_subsA _) (n := 38) rfl (rs := [.tmp 6, .tmp 7]) rfl ?_
  rw [ofL_map]
  simp only [go_sem, Nat.reduceAdd, Nat.reduceSub, Nat.reduceMul, Nat.reduceLT, Nat.reduceLeDiff, Nat.reduceEqDiff, Nat.reduceBEq, Nat.reduceBNe, Nat.reducePow, Int.reduceEq, Int.reduceNe, Int.reduceLT, Int.reduceLE, Int.reduceGT, Int.reduceGE, Int.reduceAdd, Int.reduceSub, Int.reduceNeg, Int.reduceMul, not_true_eq_false, not_false_eq_true, true_and, and_true, Int.reduceToNat]
  refine loop_fr [6, 7, 8, 9, 10, 11, 13, 14, 15, 16, 17, 18, 19, 20, 21, 22, 23, 24, 25, 26, 27, 28, 29, 30, 31, 32, 33, 34, 35, 36] (fun m C hh => ∃ (i : Nat) (r : List Blk) (ts : List DTy), i ≤ e.subs.length ∧ m = e.subs.length - i ∧ allS ((e.subs.take i).map (ofT p n)) = some ts ∧ ts.length = i ∧ C = [(9, .raw (.int .i64 (i : Nat))), (8, .lst 3 (ts.map DTy.enc) (some 2))] ∧
    hh = .cells 25 [.lst 2 (p.Enums.map DEnum.enc) none, .lst 5 (p.Nodes.map DNode.enc) none] :: .cells 49 [.i e.kind, .i e.n, .s e.name, .i e.op, .lst 1 (e.arms.map AV.s) none, .lst 6 (e.subs.map Ex.enc) none] :: .tok 42 3 i :: r) e.subs.length _ ⟨0, [], [], by omega, by omega, rfl, rfl, rfl, rfl⟩ (.cons rfl (.cons rfl .nil)) ?_
  rintro m C ja hh ⟨i, r, ts, hi, rfl, hA, hl, rfl, rfl⟩
  simp only [go_sem, Nat.reduceAdd, Nat.reduceSub, Nat.reduceMul, Nat.reduceLT, Nat.reduceLeDiff, Nat.reduceEqDiff, Nat.reduceBEq, Nat.reduceBNe, Nat.reducePow, Int.reduceEq, Int.reduceNe, Int.reduceLT, Int.reduceLE, Int.reduceGT, Int.reduceGE, Int.reduceAdd, Int.reduceSub, Int.reduceNeg, Int.reduceMul, not_true_eq_false, not_false_eq_true, true_and, and_true, Int.reduceToNat]
  intro _
  refine brK_dec (fun hlt => ?_) (fun hge => ?_)
  · simp only [go_sem, Nat.reduceAdd, Nat.reduceSub, Nat.reduceMul, Nat.reduceLT, Nat.reduceLeDiff, Nat.reduceEqDiff, Nat.reduceBEq, Nat.reduceBNe, Nat.reducePow, Int.reduceEq, Int.reduceNe, Int.reduceLT, Int.reduceLE, Int.reduceGT, Int.reduceGE, Int.reduceAdd, Int.reduceSub, Int.reduceNeg, Int.reduceMul, not_true_eq_false, not_false_eq_true, true_and, and_true, Int.reduceToNat]
    refine drawK mo (by kernel_rfl) ?_
    simp only [go_sem, Nat.reduceAdd, Nat.reduceSub, Nat.reduceMul, Nat.reduceLT, Nat.reduceLeDiff, Nat.reduceEqDiff, Nat.reduceBEq, Nat.reduceBNe, Nat.reducePow, Int.reduceEq, Int.reduceNe, Int.reduceLT, Int.reduceLE, Int.reduceGT, Int.reduceGE, Int.reduceAdd, Int.reduceSub, Int.reduceNeg, Int.reduceMul, not_true_eq_false, not_false_eq_true, true_and, and_true, Int.reduceToNat]
    refine elemMap (by omega) (by omega) (fun x hx => ?_)
    have hxm := List.mem_of_getElem? hx
    have hst := take_mapS (f := ofT p n) hx
    have hx' := ih x hxm
    unfold OfXC at hx'
    generalize hoT : ofT p n x = o at hst hx'
    cases o with
    | none =>
      have hx' : PCall Tryz.prog 25 [p.enc, .i (j : Int), x.enc] (tyA (ty0, false)) := hx'
      simp only [go_sem, Nat.reduceAdd, Nat.reduceSub, Nat.reduceMul, Nat.reduceLT, Nat.reduceLeDiff, Nat.reduceEqDiff, Nat.reduceBEq, Nat.reduceBNe, Nat.reducePow, Int.reduceEq, Int.reduceNe, Int.reduceLT, Int.reduceLE, Int.reduceGT, Int.reduceGE, Int.reduceAdd, Int.reduceSub, Int.reduceNeg, Int.reduceMul, not_true_eq_false, not_false_eq_true, true_and, and_true, Int.reduceToNat]
      refine pcK_of hx' ?_
      simp only [go_sem, Nat.reduceAdd, Nat.reduceSub, Nat.reduceMul, Nat.reduceLT, Nat.reduceLeDiff, Nat.reduceEqDiff, Nat.reduceBEq, Nat.reduceBNe, Nat.reducePow, Int.reduceEq, Int.reduceNe, Int.reduceLT, Int.reduceLE, Int.reduceGT, Int.reduceGE, Int.reduceAdd, Int.reduceSub, Int.reduceNeg, Int.reduceMul, not_true_eq_false, not_false_eq_true, true_and, and_true, Int.reduceToNat]
      exact finS0 rfl (allS_none (List.mem_map.2 ⟨x, hxm, hoT⟩))
    | some t =>
      have hx' : PCall Tryz.prog 25 [p.enc, .i (j : Int), x.enc] (tyA (t, true)) := hx'
      simp only [go_sem, Nat.reduceAdd, Nat.reduceSub, Nat.reduceMul, Nat.reduceLT, Nat.reduceLeDiff, Nat.reduceEqDiff, Nat.reduceBEq, Nat.reduceBNe, Nat.reducePow, Int.reduceEq, Int.reduceNe, Int.reduceLT, Int.reduceLE, Int.reduceGT, Int.reduceGE, Int.reduceAdd, Int.reduceSub, Int.reduceNeg, Int.reduceMul, not_true_eq_false, not_false_eq_true, true_and, and_true, Int.reduceToNat]
      refine pcK_of hx' ?_
      simp only [go_sem, Nat.reduceAdd, Nat.reduceSub, Nat.reduceMul, Nat.reduceLT, Nat.reduceLeDiff, Nat.reduceEqDiff, Nat.reduceBEq, Nat.reduceBNe, Nat.reducePow, Int.reduceEq, Int.reduceNe, Int.reduceLT, Int.reduceLE, Int.reduceGT, Int.reduceGE, Int.reduceAdd, Int.reduceSub, Int.reduceNeg, Int.reduceMul, not_true_eq_false, not_false_eq_true, true_and, and_true, Int.reduceToNat]
      refine ⟨by omega, ?_⟩
      exact loopFr _ (by omega) ⟨i + 1, _, ts ++ [t], by omega, rfl, by rw [hst]; exact allS_snoc t hA, by simp [hl], rfl, by rw [hl]⟩ (.next rfl (by omega) (.cons (by simp [slot]) .nil)) rfl
  · rw [List.take_of_length_le (by omega)] at hA
    simp only [go_sem, Nat.reduceAdd, Nat.reduceSub, Nat.reduceMul, Nat.reduceLT, Nat.reduceLeDiff, Nat.reduceEqDiff, Nat.reduceBEq, Nat.reduceBNe, Nat.reducePow, Int.reduceEq, Int.reduceNe, Int.reduceLT, Int.reduceLE, Int.reduceGT, Int.reduceGE, Int.reduceAdd, Int.reduceSub, Int.reduceNeg, Int.reduceMul, not_true_eq_false, not_false_eq_true, true_and, and_true, Int.reduceToNat]
    exact finSk rfl hA
theorem n57 : (Tryz.f57.name == "runtime.NumGoroutine") = false := by kernel_rfl
theorem ofX (p : DProg) (j : Nat) (n : DNode) (hj : p.Nodes[j]? = some n) (ho : tyOK p n) (e : Ex) (hp : ∀ y ∈ parts e, partE y = true) (hok : okE e) (ih : ∀ x ∈ e.subs, OfXC p j n x) : PCall Tryz.prog 57 [p.enc, .i (j : Int), e.enc] (tyA (headX p n e (ofL p n e.subs))) := by
  have hsl := subs_le hok
  obtain ⟨hk, hlo, hhi, ha11, ha12, hn13⟩ := part_facts (hp e (self_parts e))
  refine pcall_of_vc tabOK Tryz.func57 n57 rfl (pure_cons (DProg.pure _) (pure_cons (.raw _) (pure_cons (pure_enc e) pure_nil))) (pure_tyA _) (n := 118) rfl (rs := [.cell 6 42, .tmp 7]) rfl ?_
  by_cases h8 : e.kind = 8
  · have hs2 : (subsE e).1 = 2 ∧ (subsE e).2 = 2 := by simp [subsE, h8]
    match hs : e.subs, (show e.subs.length = 2 by omega) with
    | [c, x], _ =>
      have hf : headX p n e (ofL p n [c, x]) = ((normT (ofT p n x)).1, (constT p.Enums c).2.2 && decide (ofT p n x = some (constT p.Enums c).2.1)) := by
        unfold headX
        rw [if_pos h8, hs, ofL_map]
        rfl
      rw [hf]
      have e0 : e.subs[0]? = some c := by rw [hs]; rfl
      have e1 : e.subs[1]? = some x := by rw [hs]; rfl
      have hcX := constX p.Enums c (sub_okE hok (by rw [hs]; simp))
      generalize constT p.Enums c = q at hcX
      obtain ⟨l, t, ok⟩ := q
      have hx := ih x (by rw [hs]; simp)
      unfold OfXC at hx
      generalize ofT p n x = o at hx
      cases o with
      | none =>
        have hx : PCall Tryz.prog 25 [p.enc, .i (j : Int), x.enc] (tyA (ty0, false)) := hx
        repeat' first
          | (exfalso; omega)
          | simp only [go_sem, Nat.reduceAdd, Nat.reduceSub, Nat.reduceMul, Nat.reduceLT, Nat.reduceLeDiff, Nat.reduceEqDiff, Nat.reduceBEq, Nat.reduceBNe, Nat.reducePow, Int.reduceEq, Int.reduceNe, Int.reduceLT, Int.reduceLE, Int.reduceGT, Int.reduceGE, Int.reduceAdd, Int.reduceSub, Int.reduceNeg, Int.reduceMul, not_true_eq_false, not_false_eq_true, true_and, and_true, Int.reduceToNat]
          | refine brK_dec (fun _ => ?_) (fun _ => ?_)
          | refine drawC [2] mo (by kernel_rfl) ?_
          | refine elemHave (x := c) (by omega) e0 ?_
          | refine elemHave (x := x) (by omega) e1 ?_
          | (refine pcK_of hcX ?_)
          | (refine pcK_of hx ?_)
          | refine gqK_split (fun _ => ?_) (fun _ => ?_)
          | refine gqK_dec (fun _ => ?_) (fun _ => ?_)
          | (refine finTy rfl ?_; simp [normT, *]; done)
      | some u =>
        have hx : PCall Tryz.prog 25 [p.enc, .i (j : Int), x.enc] (tyA (u, true)) := hx
        repeat' first
          | (exfalso; omega)
          | simp only [go_sem, Nat.reduceAdd, Nat.reduceSub, Nat.reduceMul, Nat.reduceLT, Nat.reduceLeDiff, Nat.reduceEqDiff, Nat.reduceBEq, Nat.reduceBNe, Nat.reducePow, Int.reduceEq, Int.reduceNe, Int.reduceLT, Int.reduceLE, Int.reduceGT, Int.reduceGE, Int.reduceAdd, Int.reduceSub, Int.reduceNeg, Int.reduceMul, not_true_eq_false, not_false_eq_true, true_and, and_true, Int.reduceToNat]
          | refine brK_dec (fun _ => ?_) (fun _ => ?_)
          | refine drawC [2] mo (by kernel_rfl) ?_
          | refine elemHave (x := c) (by omega) e0 ?_
          | refine elemHave (x := x) (by omega) e1 ?_
          | (refine pcK_of hcX ?_)
          | (refine pcK_of hx ?_)
          | refine gqK_split (fun _ => ?_) (fun _ => ?_)
          | refine gqK_dec (fun _ => ?_) (fun _ => ?_)
          | (refine finTy rfl ?_; simp [normT, *]; done)
          | (refine finTy rfl ?_; simp [normT, *]; exact eq_comm)
  have hhx : headX p n e (ofL p n e.subs) = headP p n e (ofL p n e.subs) := by unfold headX; rw [if_neg h8]
  rw [hhx]
  by_cases h124 : e.kind = 1 ∨ e.kind = 2 ∨ e.kind = 4
  · have hf : headP p n e (ofL p n e.subs) = ((constT p.Enums e).2.1, (constT p.Enums e).2.2) := by unfold headP; rw [if_pos h124]
    rw [hf]
    have hc := constX p.Enums e hok
    generalize constT p.Enums e = q at hc
    obtain ⟨l, t, ok⟩ := q
    repeat' first
      | (exfalso; omega)
      | simp only [go_sem, Nat.reduceAdd, Nat.reduceSub, Nat.reduceMul, Nat.reduceLT, Nat.reduceLeDiff, Nat.reduceEqDiff, Nat.reduceBEq, Nat.reduceBNe, Nat.reducePow, Int.reduceEq, Int.reduceNe, Int.reduceLT, Int.reduceLE, Int.reduceGT, Int.reduceGE, Int.reduceAdd, Int.reduceSub, Int.reduceNeg, Int.reduceMul, not_true_eq_false, not_false_eq_true, true_and, and_true, Int.reduceToNat]
      | refine brK_dec (fun _ => ?_) (fun _ => ?_)
      | (refine PCall.call hc ?_)
      | exact finTy rfl rfl
  by_cases h3 : e.kind = 3
  · have hf : headP p n e (ofL p n e.subs) = ((decl n e.name).1.Ty, (decl n e.name).2) := by unfold headP; rw [if_neg h124, if_pos h3]
    rw [hf]
    have hc := decl26 n e.name (by have := ho.1; omega)
    generalize decl n e.name = q at hc
    obtain ⟨d, ok⟩ := q
    repeat' first
      | (exfalso; omega)
      | simp only [go_sem, Nat.reduceAdd, Nat.reduceSub, Nat.reduceMul, Nat.reduceLT, Nat.reduceLeDiff, Nat.reduceEqDiff, Nat.reduceBEq, Nat.reduceBNe, Nat.reducePow, Int.reduceEq, Int.reduceNe, Int.reduceLT, Int.reduceLE, Int.reduceGT, Int.reduceGE, Int.reduceAdd, Int.reduceSub, Int.reduceNeg, Int.reduceMul, not_true_eq_false, not_false_eq_true, true_and, and_true, Int.reduceToNat]
      | refine brK_dec (fun _ => ?_) (fun _ => ?_)
      | refine drawC [2] mo (by kernel_rfl) ?_
      | refine elemHave (x := n) (by omega) hj ?_
      | (refine pcK_of hc ?_)
      | exact finTy rfl rfl
  by_cases h17 : e.kind = 17
  · have hf : headP p n e (ofL p n e.subs) = (ty0, false) := by unfold headP; rw [if_neg h124, if_neg h3, if_neg h8, if_pos h17]
    rw [hf]
    repeat' first
      | (exfalso; omega)
      | simp only [go_sem, Nat.reduceAdd, Nat.reduceSub, Nat.reduceMul, Nat.reduceLT, Nat.reduceLeDiff, Nat.reduceEqDiff, Nat.reduceBEq, Nat.reduceBNe, Nat.reducePow, Int.reduceEq, Int.reduceNe, Int.reduceLT, Int.reduceLE, Int.reduceGT, Int.reduceGE, Int.reduceAdd, Int.reduceSub, Int.reduceNeg, Int.reduceMul, not_true_eq_false, not_false_eq_true, true_and, and_true, Int.reduceToNat]
      | refine brK_dec (fun _ => ?_) (fun _ => ?_)
      | exact finTy rfl rfl
  have hf0 : allS (ofL p n e.subs) = none → headP p n e (ofL p n e.subs) = (ty0, false) := fun h => by
    unfold headP; rw [if_neg h124, if_neg h3, if_neg h8, if_neg h17, h]
  have hf1 : ∀ ts, allS (ofL p n e.subs) = some ts → headP p n e (ofL p n e.subs) = if 9 ≤ e.kind ∧ e.kind ≤ 13 then flowT p n e ts else plainT e ts := fun ts h => by
    unfold headP; rw [if_neg h124, if_neg h3, if_neg h8, if_neg h17, h]
  have hsub := subsX p j n e hsl ih
  have hlen : ∀ ts, allS (ofL p n e.subs) = some ts → ts.length = e.subs.length := fun ts h => by rw [allS_len h, ofL_map, List.length_map]
  clear hhx
  generalize headP p n e (ofL p n e.subs) = HH at hf0 hf1 ⊢
  generalize allS (ofL p n e.subs) = S at hsub hlen hf0 hf1
  cases S with
  | none =>
    rw [hf0 rfl]
    have hsub : PCall Tryz.prog 102 [p.enc, .i (j : Int), e.enc] (.tup [.lst 3 [] none, .b false]) := hsub
    repeat' first
      | (exfalso; omega)
      | simp only [go_sem, Nat.reduceAdd, Nat.reduceSub, Nat.reduceMul, Nat.reduceLT, Nat.reduceLeDiff, Nat.reduceEqDiff, Nat.reduceBEq, Nat.reduceBNe, Nat.reducePow, Int.reduceEq, Int.reduceNe, Int.reduceLT, Int.reduceLE, Int.reduceGT, Int.reduceGE, Int.reduceAdd, Int.reduceSub, Int.reduceNeg, Int.reduceMul, not_true_eq_false, not_false_eq_true, true_and, and_true, Int.reduceToNat]
      | refine brK_dec (fun _ => ?_) (fun _ => ?_)
      | (refine PCall.call hsub ?_)
      | exact finTy rfl rfl
  | some ts =>
    have hl := hlen ts rfl
    have hsub : PCall Tryz.prog 102 [p.enc, .i (j : Int), e.enc] (.tup [.lst 3 (ts.map DTy.enc) none, .b true]) := hsub
    rw [hf1 ts rfl]
    by_cases hfl : 9 ≤ e.kind ∧ e.kind ≤ 13
    · rw [if_pos hfl]
      have hfp := flowX p j n hj ho.1 e ts (by omega) hfl
        (fun h => by
          have : 1 ≤ (subsE e).1 := by
            rcases (show e.kind = 9 ∨ e.kind = 10 ∨ e.kind = 11 ∨ e.kind = 12 by omega) with k | k | k | k
            · simp [subsE, k]
            · simp [subsE, k]
            · simp [subsE, k]
            · have := ha12 k; simp [subsE, k]; omega
          omega)
        (fun h => by have : (subsE e).1 = 2 := by simp [subsE, h]
                     omega) ha11 (ho.2 e.name)
        (fun h => ⟨hn13 h, by have : (subsE e).1 = e.n := by simp [subsE, h]
                              omega⟩)
      generalize flowT p n e ts = q at hfp
      obtain ⟨t, ok⟩ := q
      repeat' first
        | (exfalso; omega)
        | simp only [go_sem, Nat.reduceAdd, Nat.reduceSub, Nat.reduceMul, Nat.reduceLT, Nat.reduceLeDiff, Nat.reduceEqDiff, Nat.reduceBEq, Nat.reduceBNe, Nat.reducePow, Int.reduceEq, Int.reduceNe, Int.reduceLT, Int.reduceLE, Int.reduceGT, Int.reduceGE, Int.reduceAdd, Int.reduceSub, Int.reduceNeg, Int.reduceMul, not_true_eq_false, not_false_eq_true, true_and, and_true, Int.reduceToNat]
        | refine brK_dec (fun _ => ?_) (fun _ => ?_)
        | refine gK_dec (fun _ => ?_) (fun _ => ?_)
        | (refine PCall.call hsub ?_)
        | (refine PCall.call hfp ?_)
        | exact finTy rfl rfl
    · rw [if_neg hfl]
      have hk2 : e.kind = 5 ∨ e.kind = 6 ∨ e.kind = 7 ∨ e.kind = 14 ∨ e.kind = 15 ∨ e.kind = 16 := by omega
      have hpp := plainX p n e ts hk2
        (by
          have : 1 ≤ (subsE e).1 := by rcases hk2 with k | k | k | k | k | k <;> simp [subsE, k]
          omega)
        (fun h => by
          have : (subsE e).1 = 2 := by rcases h with k | k <;> simp [subsE, k]
          omega)
        (fun h => by
          have : (subsE e).1 = 3 := by rcases h with k | k <;> simp [subsE, k]
          omega)
      generalize plainT e ts = q at hpp
      obtain ⟨t, ok⟩ := q
      repeat' first
        | (exfalso; omega)
        | simp only [go_sem, Nat.reduceAdd, Nat.reduceSub, Nat.reduceMul, Nat.reduceLT, Nat.reduceLeDiff, Nat.reduceEqDiff, Nat.reduceBEq, Nat.reduceBNe, Nat.reducePow, Int.reduceEq, Int.reduceNe, Int.reduceLT, Int.reduceLE, Int.reduceGT, Int.reduceGE, Int.reduceAdd, Int.reduceSub, Int.reduceNeg, Int.reduceMul, not_true_eq_false, not_false_eq_true, true_and, and_true, Int.reduceToNat]
        | refine brK_dec (fun _ => ?_) (fun _ => ?_)
        | refine gK_dec (fun _ => ?_) (fun _ => ?_)
        | (refine PCall.call hsub ?_)
        | (refine PCall.call hpp ?_)
        | exact finTy rfl rfl
theorem n25 : (Tryz.f25.name == "runtime.NumGoroutine") = false := by kernel_rfl
theorem OfXj (p : DProg) (j : Nat) (n : DNode) (hj : p.Nodes[j]? = some n) (ho : tyOK p n) : ∀ (e : Ex), (∀ y ∈ parts e, partE y = true) → okE e → OfXC p j n e := by
  intro e
  induction e using Ex.ind with
  | _ e ih =>
  intro hp hok
  have hjl : j < p.Nodes.length := (List.getElem?_eq_some_iff.1 hj).1
  have hof := ofX p j n hj ho e hp hok (fun x hx => ih x hx (sub_ok hp hx) (sub_okE hok hx))
  unfold OfXC
  rw [ofT_eq, ← opt_headX, normT_opt]
  refine pcall_of_vc tabOK Tryz.func25 n25 rfl (pure_cons (DProg.pure _) (pure_cons (.raw _) (pure_cons (pure_enc e) pure_nil))) (pure_tyA _) (n := 31) rfl (rs := [.cell 6 42, .tmp 7]) rfl ?_
  generalize headX p n e (ofL p n e.subs) = q at hof
  obtain ⟨t, ok⟩ := q
  cases ok
  all_goals
    repeat' first
      | (exfalso; omega)
      | simp only [go_sem, Nat.reduceAdd, Nat.reduceSub, Nat.reduceMul, Nat.reduceLT, Nat.reduceLeDiff, Nat.reduceEqDiff, Nat.reduceBEq, Nat.reduceBNe, Nat.reducePow, Int.reduceEq, Int.reduceNe, Int.reduceLT, Int.reduceLE, Int.reduceGT, Int.reduceGE, Int.reduceAdd, Int.reduceSub, Int.reduceNeg, Int.reduceMul, not_true_eq_false, not_false_eq_true, true_and, and_true, Int.reduceToNat]
      | (intro _)
      | refine brK_dec (fun _ => ?_) (fun _ => ?_)
      | refine gK_dec (fun _ => ?_) (fun _ => ?_)
      | (refine PCall.call hof ?_)
      | exact finTy rfl rfl
end Go.Proofs.YtipcmpkihhfhcaaGreatDoor

namespace Go.Proofs.YtipcmpkihhfhcaaGreatDoor
open Go.Abs
set_option maxRecDepth 20000
set_option linter.unusedSimpArgs false
set_option linter.unusedVariables false
set_option maxHeartbeats 1000000
attribute [local irreducible] vc vcOps vcStep vcGuard prK hrK gK gsK brK callK ElemK SeqK BlockK ScopeK OpsK CallK LoopK LoopGo finPost ACall PCall PCallE BCall vqOps vqStep vqGuard qrK heK pcK gqK gqsK QOpsK qcallK DrawK
theorem check_nodes {p : DProg} (h : checkF p = 0) : p.Nodes.all (nodeF p.Enums.length) = true := by
  unfold checkF at h
  split at h
  · rename_i h0; exact absurd h h0
  · split at h
    · omega
    · split at h
      · omega
      · split at h
        · assumption
        · omega
theorem declF_mem (nm : ByteArray) : ∀ l : List DDecl, (declF nm l).1 ∈ l ∨ (declF nm l).1 = zeroD
  | [] => .inr rfl
  | d :: l => by
    rw [declF]
    split
    · exact .inl List.mem_cons_self
    · rcases declF_mem nm l with h | h
      · exact .inl (List.mem_cons_of_mem _ h)
      · exact .inr h
theorem tyOK_of {p : DProg} (hp : okProg p) (h : checkF p = 0) : ∀ n ∈ p.Nodes, tyOK p n := by
  intro n hn
  have h0 := hp.2.2 n hn
  have h1 := h0.1.1
  have h2 := h0.2.1.1
  have h3 := h0.2.2.1.1
  refine ⟨by simp [allV]; omega, fun nm hk => ?_⟩
  have hnf := List.all_eq_true.1 (check_nodes h) n hn
  unfold nodeF at hnf
  simp only [Bool.and_eq_true] at hnf
  rcases declF_mem nm (allV n) with hm | hm
  · have hd := List.all_eq_true.1 hnf.1.1.1 _ hm
    unfold declaredF at hd
    simp only [Bool.and_eq_true] at hd
    have hr := hd.1.2
    unfold rightTyF at hr
    have hr := of_decide_eq_true hr
    have hk' : (declF nm (allV n)).1.Ty.Kind = 3 := hk
    show 0 ≤ (declF nm (allV n)).1.Ty.Enum ∧ (declF nm (allV n)).1.Ty.Enum < p.Enums.length
    omega
  · have hk' : (declF nm (allV n)).1.Ty.Kind = 3 := hk
    rw [hm] at hk'
    cases hk'
def ofN0 (o : Option (DTy × Bool)) : DTy × Bool := o.getD (ty0, false)
noncomputable def ofN (p : DProg) (k : Int) (e : Ex) : DTy × Bool := if k < 0 then (ty0, false) else ofN0 (p.Nodes[k.toNat]?.map fun n => normT (ofT p n e))
theorem n24 : (Tryz.f24.name == "runtime.NumGoroutine") = false := by kernel_rfl
theorem OfPk (p : DProg) (k : Int) (e : Ex) (hty : ∀ n ∈ p.Nodes, tyOK p n) (hp : ∀ y ∈ parts e, partE y = true) (hok : okE e) : PCall Tryz.prog 24 [p.enc, .i k, e.enc] (tyA (ofN p k e)) := by
  refine pcall_of_vc tabOK Tryz.func24 n24 rfl (pure_cons (DProg.pure _) (pure_cons (.raw _) (pure_cons (pure_enc e) pure_nil))) (pure_tyA _) (n := 36) rfl (rs := [.cell 6 42, .tmp 7]) rfl ?_
  by_cases hk : k < 0
  · have hf : ofN p k e = (ty0, false) := by unfold ofN; rw [if_pos hk]
    rw [hf]
    repeat' first
      | (exfalso; omega)
      | simp only [go_sem, Nat.reduceAdd, Nat.reduceSub, Nat.reduceMul, Nat.reduceLT, Nat.reduceLeDiff, Nat.reduceEqDiff, Nat.reduceBEq, Nat.reduceBNe, Nat.reducePow, Int.reduceEq, Int.reduceNe, Int.reduceLT, Int.reduceLE, Int.reduceGT, Int.reduceGE, Int.reduceAdd, Int.reduceSub, Int.reduceNeg, Int.reduceMul, not_true_eq_false, not_false_eq_true, true_and, and_true, Int.reduceToNat]
      | (intro _)
      | refine brK_dec (fun _ => ?_) (fun _ => ?_)
      | refine gK_dec (fun _ => ?_) (fun _ => ?_)
      | exact finTy rfl rfl
  · cases hn : p.Nodes[k.toNat]? with
    | none =>
      have hl : p.Nodes.length ≤ k.toNat := List.getElem?_eq_none_iff.1 hn
      have hf : ofN p k e = (ty0, false) := by unfold ofN; rw [if_neg hk, hn]; rfl
      rw [hf]
      repeat' first
        | (exfalso; omega)
        | simp only [go_sem, Nat.reduceAdd, Nat.reduceSub, Nat.reduceMul, Nat.reduceLT, Nat.reduceLeDiff, Nat.reduceEqDiff, Nat.reduceBEq, Nat.reduceBNe, Nat.reducePow, Int.reduceEq, Int.reduceNe, Int.reduceLT, Int.reduceLE, Int.reduceGT, Int.reduceGE, Int.reduceAdd, Int.reduceSub, Int.reduceNeg, Int.reduceMul, not_true_eq_false, not_false_eq_true, true_and, and_true, Int.reduceToNat]
        | (intro _)
        | refine brK_dec (fun _ => ?_) (fun _ => ?_)
        | refine gK_dec (fun _ => ?_) (fun _ => ?_)
        | exact finTy rfl rfl
    | some n =>
      have hl : k.toNat < p.Nodes.length := (List.getElem?_eq_some_iff.1 hn).1
      have hf : ofN p k e = normT (ofT p n e) := by unfold ofN; rw [if_neg hk, hn]; rfl
      have hof := ofP p n (hty n (List.mem_of_getElem? hn)) e hp hok
      unfold OfC at hof
      rw [hf, ofT_eq, normT_opt]
      generalize headP p n e (ofL p n e.subs) = q at hof
      obtain ⟨t, ok⟩ := q
      cases ok
      all_goals
        repeat' first
          | (exfalso; omega)
          | simp only [go_sem, Nat.reduceAdd, Nat.reduceSub, Nat.reduceMul, Nat.reduceLT, Nat.reduceLeDiff, Nat.reduceEqDiff, Nat.reduceBEq, Nat.reduceBNe, Nat.reducePow, Int.reduceEq, Int.reduceNe, Int.reduceLT, Int.reduceLE, Int.reduceGT, Int.reduceGE, Int.reduceAdd, Int.reduceSub, Int.reduceNeg, Int.reduceMul, not_true_eq_false, not_false_eq_true, true_and, and_true, Int.reduceToNat]
          | (intro _)
          | refine brK_dec (fun _ => ?_) (fun _ => ?_)
          | refine gK_dec (fun _ => ?_) (fun _ => ?_)
          | refine drawK mo (by kernel_rfl) ?_
          | refine elemHave (x := n) (by omega) hn ?_
          | (refine pcK_of hof ?_)
          | exact finTy rfl rfl
theorem OfXk (p : DProg) (k : Int) (e : Ex) (hty : ∀ n ∈ p.Nodes, tyOK p n) (hp : ∀ y ∈ parts e, partE y = true) (hok : okE e) : PCall Tryz.prog 25 [p.enc, .i k, e.enc] (tyA (ofN p k e)) := by
  by_cases hk : k < 0
  · refine pcall_of_vc tabOK Tryz.func25 n25 rfl (pure_cons (DProg.pure _) (pure_cons (.raw _) (pure_cons (pure_enc e) pure_nil))) (pure_tyA _) (n := 31) rfl (rs := [.cell 6 42, .tmp 7]) rfl ?_
    have hf : ofN p k e = (ty0, false) := by unfold ofN; rw [if_pos hk]
    rw [hf]
    repeat' first
      | (exfalso; omega)
      | simp only [go_sem, Nat.reduceAdd, Nat.reduceSub, Nat.reduceMul, Nat.reduceLT, Nat.reduceLeDiff, Nat.reduceEqDiff, Nat.reduceBEq, Nat.reduceBNe, Nat.reducePow, Int.reduceEq, Int.reduceNe, Int.reduceLT, Int.reduceLE, Int.reduceGT, Int.reduceGE, Int.reduceAdd, Int.reduceSub, Int.reduceNeg, Int.reduceMul, not_true_eq_false, not_false_eq_true, true_and, and_true, Int.reduceToNat]
      | (intro _)
      | refine brK_dec (fun _ => ?_) (fun _ => ?_)
      | refine gK_dec (fun _ => ?_) (fun _ => ?_)
      | exact finTy rfl rfl
  · cases hn : p.Nodes[k.toNat]? with
    | none =>
      refine pcall_of_vc tabOK Tryz.func25 n25 rfl (pure_cons (DProg.pure _) (pure_cons (.raw _) (pure_cons (pure_enc e) pure_nil))) (pure_tyA _) (n := 31) rfl (rs := [.cell 6 42, .tmp 7]) rfl ?_
      have hl : p.Nodes.length ≤ k.toNat := List.getElem?_eq_none_iff.1 hn
      have hf : ofN p k e = (ty0, false) := by unfold ofN; rw [if_neg hk, hn]; rfl
      rw [hf]
      repeat' first
        | (exfalso; omega)
        | simp only [go_sem, Nat.reduceAdd, Nat.reduceSub, Nat.reduceMul, Nat.reduceLT, Nat.reduceLeDiff, Nat.reduceEqDiff, Nat.reduceBEq, Nat.reduceBNe, Nat.reducePow, Int.reduceEq, Int.reduceNe, Int.reduceLT, Int.reduceLE, Int.reduceGT, Int.reduceGE, Int.reduceAdd, Int.reduceSub, Int.reduceNeg, Int.reduceMul, not_true_eq_false, not_false_eq_true, true_and, and_true, Int.reduceToNat]
        | (intro _)
        | refine brK_dec (fun _ => ?_) (fun _ => ?_)
        | refine gK_dec (fun _ => ?_) (fun _ => ?_)
        | exact finTy rfl rfl
    | some n =>
      have hf : ofN p k e = normT (ofT p n e) := by unfold ofN; rw [if_neg hk, hn]; rfl
      have h := OfXj p k.toNat n hn (hty n (List.mem_of_getElem? hn)) e hp hok
      unfold OfXC at h
      rw [hf, show k = ((k.toNat : Nat) : Int) by omega]
      exact h
theorem right_parts {e : Ex} (h : rightE e = true) : ∀ y ∈ parts e, partE y = true := by
  unfold rightE at h
  simp only [Bool.and_eq_true] at h
  exact fun y hy => List.all_eq_true.1 h.2 y hy
theorem scope_check {p : DProg} (h : scopeF p = ⟨0, 0, 0⟩) : checkF p = 0 := by
  unfold scopeF at h
  split at h
  · assumption
  · cases h
end Go.Proofs.YtipcmpkihhfhcaaGreatDoor

namespace Go.Proofs.YtipcmpkihhfhcaaGreatDoor
open Go.Abs
set_option maxRecDepth 20000
set_option linter.unusedSimpArgs false
set_option linter.unusedVariables false
set_option maxHeartbeats 1000000
attribute [local irreducible] vc vcOps vcStep vcGuard prK hrK gK gsK brK callK ElemK SeqK BlockK ScopeK OpsK CallK LoopK LoopGo finPost ACall PCall PCallE BCall vqOps vqStep vqGuard qrK heK pcK gqK gqsK QOpsK qcallK DrawK
section
variable {A r : List Blk} {p : DProg} {at_ : Int} {c : Nat} {f : Value → Option AV} {n : DNode} {D : List ByteArray} {K : AV → List Blk → Prop}
theorem n138 : (Tryz.f138.name == "runtime.NumGoroutine") = false := by kernel_rfl
end
end Go.Proofs.YtipcmpkihhfhcaaGreatDoor

namespace Go.Proofs.YtipcmpkihhfhcaaGreatDoor
open Go.Abs
set_option maxRecDepth 20000
set_option linter.unusedSimpArgs false
set_option linter.unusedVariables false
set_option maxHeartbeats 1000000
attribute [local irreducible] vc vcOps vcStep vcGuard prK hrK gK gsK brK callK ElemK SeqK BlockK ScopeK OpsK CallK LoopK LoopGo finPost ACall PCall PCallE BCall vqOps vqStep vqGuard qrK heK pcK gqK gqsK QOpsK qcallK DrawK
section
variable {A r : List Blk} {p : DProg} {at_ : Int} {c : Nat} {f : Value → Option AV} {n : DNode} {D : List ByteArray} {K : AV → List Blk → Prop}
end
end Go.Proofs.YtipcmpkihhfhcaaGreatDoor

namespace Go.Proofs.YtipcmpkihhfhcaaGreatDoor
open Go.Abs
set_option maxRecDepth 20000
set_option linter.unusedSimpArgs false
set_option linter.unusedVariables false
set_option maxHeartbeats 1000000
attribute [local irreducible] vc vcOps vcStep vcGuard prK hrK gK gsK brK callK ElemK SeqK BlockK ScopeK OpsK CallK LoopK LoopGo finPost ACall PCall PCallE BCall vqOps vqStep vqGuard qrK heK pcK gqK gqsK QOpsK qcallK DrawK
section
variable {A r : List Blk} {p : DProg} {c : Nat} {f : Value → Option AV} {n : DNode} {K : AV → List Blk → Prop}
end
end Go.Proofs.YtipcmpkihhfhcaaGreatDoor

namespace Go.Proofs.YtipcmpkihhfhcaaGreatDoor
open Go.Abs
set_option maxRecDepth 20000
set_option linter.unusedSimpArgs false
set_option linter.unusedVariables false
set_option maxHeartbeats 1000000
attribute [local irreducible] vc vcOps vcStep vcGuard prK hrK gK gsK brK callK ElemK SeqK BlockK ScopeK OpsK CallK LoopK LoopGo finPost ACall PCall PCallE BCall vqOps vqStep vqGuard qrK heK pcK gqK gqsK QOpsK qcallK DrawK
end Go.Proofs.YtipcmpkihhfhcaaGreatDoor

namespace Go.Proofs.YtipcmpkihhfhcaaGreatDoor
open Go.Abs
set_option maxRecDepth 20000
set_option linter.unusedSimpArgs false
set_option linter.unusedVariables false
set_option maxHeartbeats 1000000
attribute [local irreducible] vc vcOps vcStep vcGuard prK hrK gK gsK brK callK ElemK SeqK BlockK ScopeK OpsK CallK LoopK LoopGo finPost ACall PCall PCallE BCall vqOps vqStep vqGuard qrK heK pcK gqK gqsK QOpsK qcallK DrawK
theorem flat_at {L : List DEnum} {i k : Nat} {e : DEnum} {c : ByteArray} (he : L[i]? = some e) (hc : e.Ctors[k]? = some c) : (L.flatMap DEnum.Ctors)[((L.take i).flatMap DEnum.Ctors).length + k]? = some c := by
  obtain ⟨hi, rfl⟩ := List.getElem?_eq_some_iff.1 he
  have h1 : L.flatMap DEnum.Ctors = (L.take i).flatMap DEnum.Ctors ++ (L[i].Ctors ++ (L.drop (i + 1)).flatMap DEnum.Ctors) := by
    have h2 : L = L.take i ++ L[i] :: L.drop (i + 1) := by rw [← List.drop_eq_getElem_cons hi, List.take_append_drop]
    conv => lhs; rw [h2]
    rw [List.flatMap_append, List.flatMap_cons]
  rw [h1, List.getElem?_append_right (by omega), Nat.add_sub_cancel_left, List.getElem?_append_left (List.getElem?_eq_some_iff.1 hc).1]
  exact hc
end Go.Proofs.YtipcmpkihhfhcaaGreatDoor

namespace Go.Proofs.YtipcmpkihhfhcaaGreatDoor
open Go.Abs
set_option maxRecDepth 20000
set_option linter.unusedSimpArgs false
set_option linter.unusedVariables false
set_option maxHeartbeats 1000000
attribute [local irreducible] vc vcOps vcStep vcGuard prK hrK gK gsK brK callK ElemK SeqK BlockK ScopeK OpsK CallK LoopK LoopGo finPost ACall PCall PCallE BCall vqOps vqStep vqGuard qrK heK pcK gqK gqsK QOpsK qcallK DrawK
end Go.Proofs.YtipcmpkihhfhcaaGreatDoor

namespace Go.Proofs.YtipcmpkihhfhcaaGreatDoor
open Go.Abs
set_option maxRecDepth 20000
set_option linter.unusedSimpArgs false
set_option linter.unusedVariables false
set_option maxHeartbeats 1000000
attribute [local irreducible] vc vcOps vcStep vcGuard prK hrK gK gsK brK callK ElemK SeqK BlockK ScopeK OpsK CallK LoopK LoopGo finPost ACall PCall PCallE BCall vqOps vqStep vqGuard qrK heK pcK gqK gqsK QOpsK qcallK DrawK
end Go.Proofs.YtipcmpkihhfhcaaGreatDoor

namespace Go.Proofs.YtipcmpkihhfhcaaGreatDoor
open Go.Abs
set_option maxRecDepth 20000
set_option linter.unusedSimpArgs false
set_option linter.unusedVariables false
set_option maxHeartbeats 1000000
attribute [local irreducible] vc vcOps vcStep vcGuard prK hrK gK gsK brK callK ElemK SeqK BlockK ScopeK OpsK CallK LoopK LoopGo finPost ACall PCall PCallE BCall vqOps vqStep vqGuard qrK heK pcK gqK gqsK QOpsK qcallK DrawK
theorem allVn {n : DNode} (h : okNode n) : (allV n).length ≤ 60 := by
  have h1 := h.1.1
  have h2 := h.2.1.1
  have h3 := h.2.2.1.1
  simp [allV]
  omega
theorem map_app (l m : List ByteArray) : l.map AV.s ++ m.map AV.s = (l ++ m).map AV.s := by simp
def okAB (i : Nat) (a b : List ByteArray) : Prop := a.length ≤ i ∧ b.length ≤ 12 * i ∧ ∀ s ∈ b, s.size ≤ 100
theorem okAB.zero : okAB 0 [] [] := ⟨by simp, by simp, by simp⟩
theorem okAB.next {l : List DEnum} {i : Nat} {a b : List ByteArray} {x : DEnum} (h : okAB i a b) (hl : okEnums l) (hx : l[((i : Nat) : Int).toNat]? = some x) : okAB (i + 1) (a ++ [x.Name]) (b ++ x.Ctors) := by
  have hm := hl.2 x (List.mem_of_getElem? hx)
  have h1 := hm.1
  refine ⟨by have := h.1; simp; omega, by have := h.2.1; simp; omega, fun s hs => ?_⟩
  rcases List.mem_append.1 hs with q | q
  · exact h.2.2 s q
  · exact hm.2.2 s q

theorem nm_next {l : List DDecl} {i : Nat} {a : List ByteArray} {x : DDecl} (h : a = (l.take i).map DDecl.Name ∧ a.length ≤ i) (hx : l[((i : Nat) : Int).toNat]? = some x) : a ++ [x.Name] = (l.take (i + 1)).map DDecl.Name ∧ (a ++ [x.Name]).length ≤ i + 1 :=
  ⟨by rw [take_mapS hx, h.1], by have := h.2; simp; omega⟩
theorem n46 : (Tryz.f46.name == "runtime.NumGoroutine") = false := by kernel_rfl
theorem names83 (l : List DDecl) (hl : l.length ≤ 100000) : PCall Tryz.prog 46 [.lst 6 (l.map DDecl.enc) none] (.lst 1 ((l.map DDecl.Name).map AV.s) none) := by
  refine pcall_of_vc tabOK Tryz.func46 n46 rfl (by repeat' first | exact pure_nil | refine pure_cons ?_ ?_ | exact .raw _ | exact pure_enc _ | exact pure_lst _ | exact pure_strs _ | exact pure_ints _ | exact DTy.pure _ | exact DTy.pures _ | exact DEnum.pure _ | exact DEnum.pures _ | exact DDecl.pure _ | exact DDecl.pures _ | exact DEq.pure _ | exact DEq.pures _ | exact DNode.pure _ | exact DNode.pures _ | exact DProg.pure _ | exact DProg.pures _ | exact DCond.pure _ | exact DCond.pures _ | exact DAtom.pure _ | exact DAtom.pures _ | exact DPlain.pure _ | exact DPlain.pures _ | exact DFault.pure _ | exact DFault.pures _ | exact pure_list (fun x => DDecl.pures x) _ | exact .fn _ _ _ pure_nil pure_nil | refine .agg _ ?_ | refine .tup _ ?_ | assumption) (by repeat' first | exact pure_nil | refine pure_cons ?_ ?_ | exact .raw _ | exact pure_enc _ | exact pure_lst _ | exact pure_strs _ | exact pure_ints _ | exact DTy.pure _ | exact DTy.pures _ | exact DEnum.pure _ | exact DEnum.pures _ | exact DDecl.pure _ | exact DDecl.pures _ | exact DEq.pure _ | exact DEq.pures _ | exact DNode.pure _ | exact DNode.pures _ | exact DProg.pure _ | exact DProg.pures _ | exact DCond.pure _ | exact DCond.pures _ | exact DAtom.pure _ | exact DAtom.pures _ | exact DPlain.pure _ | exact DPlain.pures _ | exact DFault.pure _ | exact DFault.pures _ | exact pure_list (fun x => DDecl.pures x) _ | exact .fn _ _ _ pure_nil pure_nil | refine .agg _ ?_ | refine .tup _ ?_ | assumption) (n := 21) rfl (rs := [.tmp 2]) rfl ?_
  repeat' first
    | exact finB rfl
    | exact finI rfl
    | exact finP rfl
    | exact absurd rfl (by assumption)
    | simp only [go_sem, Nat.reduceAdd, Nat.reduceSub, Nat.reduceMul, Nat.reduceLT, Nat.reduceLeDiff, Nat.reduceEqDiff, Nat.reduceBEq, Nat.reduceBNe, Nat.reducePow, Int.reduceEq, Int.reduceNe, Int.reduceLT, Int.reduceLE, Int.reduceGT, Int.reduceGE, Int.reduceAdd, Int.reduceSub, Int.reduceNeg, Int.reduceMul, not_true_eq_false, not_false_eq_true, true_and, and_true, Int.reduceToNat]
    | (intro _)
    | refine brK_dec (fun _ => ?_) (fun _ => ?_)
    | refine brK_any ?_ ?_
    | refine gK_dec (fun _ => ?_) (fun _ => ?_)
    | refine gK_any ?_ ?_
    | refine gqK_dec (fun _ => ?_) (fun _ => ?_)
    | refine ⟨by omega, ?_⟩
    | refine elemHave (by omega) (by assumption) ?_
    | refine elemMap (by omega) (by omega) (fun x hx => ?_)
    | refine drawK mo (by kernel_rfl) ?_
    | (simp only [map_snoc])
    | (refine ⟨by have := hpi.2; first | omega | (simp; omega), ?_⟩)
    | (rw [show l.map DDecl.Name = a by rw [hpi.1, List.take_of_length_le (by omega)]]; exact ⟨_, rfl, false, .tok _ _ _⟩)
    | exact loopFr _ (by omega) ⟨i + 1, a ++ [x.Name], _, by omega, rfl, nm_next hpi hx, rfl, (by first | rfl | (simp; done) | (simp; rfl))⟩ (.next rfl (by omega) (.cons (by first | rfl | (simp; done) | (simp; rfl)) .nil)) rfl
    | (refine loop_fr [3, 4, 6, 7, 8, 9, 10, 11, 12, 13, 14, 15, 16, 17, 18, 19] (fun mm_ CC_ hh_ => ∃ (i : Nat) (a : List ByteArray) (r_ : List Blk), i ≤ l.length ∧ mm_ = l.length - i ∧ ((a = (l.take i).map DDecl.Name ∧ a.length ≤ i)) ∧ CC_ = [(4, .raw (.int .i64 ((i : Nat) : Int))), (3, .lst 1 (a.map AV.s) (some 0))] ∧ hh_ = .tok 9 1 a.length :: r_) (l.length) _ ⟨0, [], _, by omega, by omega, ⟨by simp, by simp⟩, rfl, (by first | rfl | (simp; done) | (simp; rfl))⟩ (.cons (by first | rfl | (simp; done) | (simp; rfl)) (.cons (by first | rfl | (simp; done) | (simp; rfl)) .nil)) ?_; rintro mm_ CC_ ji hh_ ⟨i, a, ri, hi, rfl, hpi, rfl, rfl⟩)
abbrev progBc (p : DProg) : Blk := .cells 25 [.lst 2 (p.Enums.map DEnum.enc) none, .lst 5 (p.Nodes.map DNode.enc) none]
theorem n65 : (Tryz.f65.name == "runtime.NumGoroutine") = false := by kernel_rfl
theorem rightTyX (l : List DEnum) (t : DTy) : PCall Tryz.prog 65 [.lst 2 (l.map DEnum.enc) none, t.enc] (.b (rightTyF l.length t)) := by
  refine pcall_of_vc tabOK Tryz.func65 n65 rfl (by repeat' first | exact pure_nil | refine pure_cons ?_ ?_ | exact .raw _ | exact pure_enc _ | exact pure_lst _ | exact pure_strs _ | exact pure_ints _ | exact DTy.pure _ | exact DTy.pures _ | exact DEnum.pure _ | exact DEnum.pures _ | exact DDecl.pure _ | exact DDecl.pures _ | exact DEq.pure _ | exact DEq.pures _ | exact DNode.pure _ | exact DNode.pures _ | exact DProg.pure _ | exact DProg.pures _ | exact DCond.pure _ | exact DCond.pures _ | exact DAtom.pure _ | exact DAtom.pures _ | exact DPlain.pure _ | exact DPlain.pures _ | exact DFault.pure _ | exact DFault.pures _ | exact pure_list (fun x => DDecl.pures x) _ | exact .fn _ _ _ pure_nil pure_nil | refine .agg _ ?_ | refine .tup _ ?_ | assumption) (by repeat' first | exact pure_nil | refine pure_cons ?_ ?_ | exact .raw _ | exact pure_enc _ | exact pure_lst _ | exact pure_strs _ | exact pure_ints _ | exact DTy.pure _ | exact DTy.pures _ | exact DEnum.pure _ | exact DEnum.pures _ | exact DDecl.pure _ | exact DDecl.pures _ | exact DEq.pure _ | exact DEq.pures _ | exact DNode.pure _ | exact DNode.pures _ | exact DProg.pure _ | exact DProg.pures _ | exact DCond.pure _ | exact DCond.pures _ | exact DAtom.pure _ | exact DAtom.pures _ | exact DPlain.pure _ | exact DPlain.pures _ | exact DFault.pure _ | exact DFault.pures _ | exact pure_list (fun x => DDecl.pures x) _ | exact .fn _ _ _ pure_nil pure_nil | refine .agg _ ?_ | refine .tup _ ?_ | assumption) (n := 39) rfl (rs := [.tmp 4]) rfl ?_
  repeat' first
    | exact finB rfl
    | exact finI rfl
    | exact finP rfl
    | exact absurd rfl (by assumption)
    | simp only [go_sem, Nat.reduceAdd, Nat.reduceSub, Nat.reduceMul, Nat.reduceLT, Nat.reduceLeDiff, Nat.reduceEqDiff, Nat.reduceBEq, Nat.reduceBNe, Nat.reducePow, Int.reduceEq, Int.reduceNe, Int.reduceLT, Int.reduceLE, Int.reduceGT, Int.reduceGE, Int.reduceAdd, Int.reduceSub, Int.reduceNeg, Int.reduceMul, not_true_eq_false, not_false_eq_true, true_and, and_true, Int.reduceToNat]
    | (intro _)
    | refine brK_dec (fun _ => ?_) (fun _ => ?_)
    | refine brK_any ?_ ?_
    | refine gK_dec (fun _ => ?_) (fun _ => ?_)
    | refine gK_any ?_ ?_
    | refine gqK_dec (fun _ => ?_) (fun _ => ?_)
    | refine ⟨by omega, ?_⟩
    | refine elemHave (by omega) (by assumption) ?_
    | refine elemMap (by omega) (by omega) (fun x hx => ?_)
    | refine drawK mo (by kernel_rfl) ?_
    | (exfalso; omega)
    | (refine finBq rfl ?_; unfold rightTyF; exact (decide_eq_true (by omega)).symm)
    | (refine finBq rfl ?_; unfold rightTyF; exact (decide_eq_false (by omega)).symm)
    | (refine finBq rfl ?_; unfold rightTyF; exact decide_eq_decide.2 (by omega))
theorem n136 : (Tryz.f136.name == "runtime.NumGoroutine") = false := by kernel_rfl
theorem armX (s : ByteArray) : PCall Tryz.prog 136 [.s s] (.b (armE s)) := by
  refine pcall_of_vc tabOK Tryz.func136 n136 rfl (by repeat' first | exact pure_nil | refine pure_cons ?_ ?_ | exact .raw _ | exact pure_enc _ | exact pure_lst _ | exact pure_strs _ | exact pure_ints _ | exact DTy.pure _ | exact DTy.pures _ | exact DEnum.pure _ | exact DEnum.pures _ | exact DDecl.pure _ | exact DDecl.pures _ | exact DEq.pure _ | exact DEq.pures _ | exact DNode.pure _ | exact DNode.pures _ | exact DProg.pure _ | exact DProg.pures _ | exact DCond.pure _ | exact DCond.pures _ | exact DAtom.pure _ | exact DAtom.pures _ | exact DPlain.pure _ | exact DPlain.pures _ | exact DFault.pure _ | exact DFault.pures _ | exact pure_list (fun x => DDecl.pures x) _ | exact .fn _ _ _ pure_nil pure_nil | refine .agg _ ?_ | refine .tup _ ?_ | assumption) (by repeat' first | exact pure_nil | refine pure_cons ?_ ?_ | exact .raw _ | exact pure_enc _ | exact pure_lst _ | exact pure_strs _ | exact pure_ints _ | exact DTy.pure _ | exact DTy.pures _ | exact DEnum.pure _ | exact DEnum.pures _ | exact DDecl.pure _ | exact DDecl.pures _ | exact DEq.pure _ | exact DEq.pures _ | exact DNode.pure _ | exact DNode.pures _ | exact DProg.pure _ | exact DProg.pures _ | exact DCond.pure _ | exact DCond.pures _ | exact DAtom.pure _ | exact DAtom.pures _ | exact DPlain.pure _ | exact DPlain.pures _ | exact DFault.pure _ | exact DFault.pures _ | exact pure_list (fun x => DDecl.pures x) _ | exact .fn _ _ _ pure_nil pure_nil | refine .agg _ ?_ | refine .tup _ ?_ | assumption) (n := 13) rfl (rs := [.tmp 2]) rfl ?_
  unfold armE
  repeat' first
    | exact finB rfl
    | exact finI rfl
    | exact finP rfl
    | exact absurd rfl (by assumption)
    | simp only [go_sem, Nat.reduceAdd, Nat.reduceSub, Nat.reduceMul, Nat.reduceLT, Nat.reduceLeDiff, Nat.reduceEqDiff, Nat.reduceBEq, Nat.reduceBNe, Nat.reducePow, Int.reduceEq, Int.reduceNe, Int.reduceLT, Int.reduceLE, Int.reduceGT, Int.reduceGE, Int.reduceAdd, Int.reduceSub, Int.reduceNeg, Int.reduceMul, not_true_eq_false, not_false_eq_true, true_and, and_true, Int.reduceToNat]
    | (intro _)
    | refine brK_dec (fun _ => ?_) (fun _ => ?_)
    | refine brK_split (fun hb_ => ?_) (fun hb_ => ?_)
    | refine gK_dec (fun _ => ?_) (fun _ => ?_)
    | refine gK_split (fun hb_ => ?_) (fun hb_ => ?_)
    | refine gqK_dec (fun _ => ?_) (fun _ => ?_)
    | refine ⟨by omega, ?_⟩
    | refine elemHave (by omega) (by assumption) ?_
    | refine elemMap (by omega) (by omega) (fun x hx => ?_)
    | refine drawK mo (by kernel_rfl) ?_
    | (refine PCall.call (high_x s) ?_; generalize highF s = q; cases q)
    | (exact finBq rfl (by simp [*]))
theorem n84 : (Tryz.f84.name == "runtime.NumGoroutine") = false := by kernel_rfl
theorem declX (l : List DEnum) (d : DDecl) : PCall Tryz.prog 84 [.lst 2 (l.map DEnum.enc) none, d.enc] (.b (declaredF l.length d)) := by
  refine pcall_of_vc tabOK Tryz.func84 n84 rfl (by repeat' first | exact pure_nil | refine pure_cons ?_ ?_ | exact .raw _ | exact pure_enc _ | exact pure_lst _ | exact pure_strs _ | exact pure_ints _ | exact DTy.pure _ | exact DTy.pures _ | exact DEnum.pure _ | exact DEnum.pures _ | exact DDecl.pure _ | exact DDecl.pures _ | exact DEq.pure _ | exact DEq.pures _ | exact DNode.pure _ | exact DNode.pures _ | exact DProg.pure _ | exact DProg.pures _ | exact DCond.pure _ | exact DCond.pures _ | exact DAtom.pure _ | exact DAtom.pures _ | exact DPlain.pure _ | exact DPlain.pures _ | exact DFault.pure _ | exact DFault.pures _ | exact pure_list (fun x => DDecl.pures x) _ | exact .fn _ _ _ pure_nil pure_nil | refine .agg _ ?_ | refine .tup _ ?_ | assumption) (by repeat' first | exact pure_nil | refine pure_cons ?_ ?_ | exact .raw _ | exact pure_enc _ | exact pure_lst _ | exact pure_strs _ | exact pure_ints _ | exact DTy.pure _ | exact DTy.pures _ | exact DEnum.pure _ | exact DEnum.pures _ | exact DDecl.pure _ | exact DDecl.pures _ | exact DEq.pure _ | exact DEq.pures _ | exact DNode.pure _ | exact DNode.pures _ | exact DProg.pure _ | exact DProg.pures _ | exact DCond.pure _ | exact DCond.pures _ | exact DAtom.pure _ | exact DAtom.pures _ | exact DPlain.pure _ | exact DPlain.pures _ | exact DFault.pure _ | exact DFault.pures _ | exact pure_list (fun x => DDecl.pures x) _ | exact .fn _ _ _ pure_nil pure_nil | refine .agg _ ?_ | refine .tup _ ?_ | assumption) (n := 34) rfl (rs := [.tmp 4]) rfl ?_
  repeat' first
    | exact finB rfl
    | exact finI rfl
    | exact finP rfl
    | exact absurd rfl (by assumption)
    | simp only [go_sem, Nat.reduceAdd, Nat.reduceSub, Nat.reduceMul, Nat.reduceLT, Nat.reduceLeDiff, Nat.reduceEqDiff, Nat.reduceBEq, Nat.reduceBNe, Nat.reducePow, Int.reduceEq, Int.reduceNe, Int.reduceLT, Int.reduceLE, Int.reduceGT, Int.reduceGE, Int.reduceAdd, Int.reduceSub, Int.reduceNeg, Int.reduceMul, not_true_eq_false, not_false_eq_true, true_and, and_true, Int.reduceToNat]
    | (intro _)
    | refine brK_dec (fun _ => ?_) (fun _ => ?_)
    | refine brK_split (fun hb_ => ?_) (fun hb_ => ?_)
    | refine gK_dec (fun _ => ?_) (fun _ => ?_)
    | refine gK_split (fun hb_ => ?_) (fun hb_ => ?_)
    | refine gqK_dec (fun _ => ?_) (fun _ => ?_)
    | refine ⟨by omega, ?_⟩
    | refine elemHave (by omega) (by assumption) ?_
    | refine elemMap (by omega) (by omega) (fun x hx => ?_)
    | refine drawK mo (by kernel_rfl) ?_
    | (refine PCall.call (low_x d.Name) ?_; generalize h1 : lowF d.Name = q; cases q)
    | (refine PCall.call (low_x d.On) ?_; generalize h2 : lowF d.On = q; cases q)
    | (refine PCall.call (rightTyX l d.Ty) ?_; generalize h3 : rightTyF l.length d.Ty = q; cases q)
    | (refine PCall.call (armX d.Ctor) ?_; generalize h4 : armE d.Ctor = q; cases q)
    | (refine finBq rfl ?_; first | (simp only [declaredF, bareF, h1, h2, h3, h4]; simp [*]; done) | (simp only [declaredF, bareF, h1, h2, h3]; simp [*]; done) | (simp only [declaredF, bareF, h1, h3]; simp [*]; done) | (simp only [declaredF, bareF, h1]; simp [*]; done))
theorem n85 : (Tryz.f85.name == "runtime.NumGoroutine") = false := by kernel_rfl
theorem eqX (q : DEq) (hq : okEq q) : PCall Tryz.prog 85 [q.enc] (.b (eqF q)) := by
  refine pcall_of_vc tabOK Tryz.func85 n85 rfl (by repeat' first | exact pure_nil | refine pure_cons ?_ ?_ | exact .raw _ | exact pure_enc _ | exact pure_lst _ | exact pure_strs _ | exact pure_ints _ | exact DTy.pure _ | exact DTy.pures _ | exact DEnum.pure _ | exact DEnum.pures _ | exact DDecl.pure _ | exact DDecl.pures _ | exact DEq.pure _ | exact DEq.pures _ | exact DNode.pure _ | exact DNode.pures _ | exact DProg.pure _ | exact DProg.pures _ | exact DCond.pure _ | exact DCond.pures _ | exact DAtom.pure _ | exact DAtom.pures _ | exact DPlain.pure _ | exact DPlain.pures _ | exact DFault.pure _ | exact DFault.pures _ | exact pure_list (fun x => DDecl.pures x) _ | exact .fn _ _ _ pure_nil pure_nil | refine .agg _ ?_ | refine .tup _ ?_ | assumption) (by repeat' first | exact pure_nil | refine pure_cons ?_ ?_ | exact .raw _ | exact pure_enc _ | exact pure_lst _ | exact pure_strs _ | exact pure_ints _ | exact DTy.pure _ | exact DTy.pures _ | exact DEnum.pure _ | exact DEnum.pures _ | exact DDecl.pure _ | exact DDecl.pures _ | exact DEq.pure _ | exact DEq.pures _ | exact DNode.pure _ | exact DNode.pures _ | exact DProg.pure _ | exact DProg.pures _ | exact DCond.pure _ | exact DCond.pures _ | exact DAtom.pure _ | exact DAtom.pures _ | exact DPlain.pure _ | exact DPlain.pures _ | exact DFault.pure _ | exact DFault.pures _ | exact pure_list (fun x => DDecl.pures x) _ | exact .fn _ _ _ pure_nil pure_nil | refine .agg _ ?_ | refine .tup _ ?_ | assumption) (n := 39) rfl (rs := [.tmp 2]) rfl ?_
  repeat' first
    | exact finB rfl
    | exact finI rfl
    | exact finP rfl
    | exact absurd rfl (by assumption)
    | simp only [go_sem, Nat.reduceAdd, Nat.reduceSub, Nat.reduceMul, Nat.reduceLT, Nat.reduceLeDiff, Nat.reduceEqDiff, Nat.reduceBEq, Nat.reduceBNe, Nat.reducePow, Int.reduceEq, Int.reduceNe, Int.reduceLT, Int.reduceLE, Int.reduceGT, Int.reduceGE, Int.reduceAdd, Int.reduceSub, Int.reduceNeg, Int.reduceMul, not_true_eq_false, not_false_eq_true, true_and, and_true, Int.reduceToNat]
    | (intro _)
    | refine brK_dec (fun _ => ?_) (fun _ => ?_)
    | refine brK_split (fun hb_ => ?_) (fun hb_ => ?_)
    | refine gK_dec (fun _ => ?_) (fun _ => ?_)
    | refine gK_split (fun hb_ => ?_) (fun hb_ => ?_)
    | refine gqK_dec (fun _ => ?_) (fun _ => ?_)
    | refine ⟨by omega, ?_⟩
    | refine elemHave (by omega) (by assumption) ?_
    | refine elemMap (by omega) (by omega) (fun x hx => ?_)
    | refine drawK mo (by kernel_rfl) ?_
    | (refine PCall.call (low_x x) ?_; generalize hpx : lowF x = b; cases b)
    | (refine PCall.call (right17x _ hq.2.1) ?_; generalize hrx : rightE q.E = b; cases b)
    | (refine finBq rfl ?_; unfold eqF; rw [List.all_eq_false.2 ⟨x, List.mem_of_getElem? hx, by simp [hpx]⟩]; simp; done)
    | (have hall := List.all_eq_true.2 (take_full hpi (by omega)); refine finBq rfl ?_; unfold eqF; rw [hall]; (try rw [decide_eq_true (p := 0 < q.Names.length) (by omega)]); (try rw [decide_eq_false (p := 0 < q.Names.length) (by omega)]); (try rw [decide_eq_true (p := q.Names.length ≤ 1) (by omega)]); (try rw [decide_eq_false (p := q.Names.length ≤ 1) (by omega)]); simp [*]; done)
    | exact loopFrH _ (by omega) ⟨i + 1, by omega, rfl, take_all hpi (by simpa using hx) hpx, rfl⟩ (.next rfl (by omega) .nil) rfl
    | (refine loop_frH [2, 3, 4, 5, 6, 7, 8, 9, 10, 11, 12, 13, 14, 15, 16, 17] (fun mm_ CC_ => ∃ (i : Nat), i ≤ q.Names.length ∧ mm_ = q.Names.length - i ∧ (∀ s ∈ q.Names.take i, lowF s = true) ∧ CC_ = [(3, .raw (.int .i64 ((i : Nat) : Int)))]) (q.Names.length) _ ⟨0, by omega, by omega, by simp, rfl⟩ (.cons rfl .nil) ?_; rintro mm_ CC_ ji ⟨i, hi, rfl, hpi, rfl⟩)
theorem n44 : (Tryz.f44.name == "runtime.NumGoroutine") = false := by kernel_rfl
theorem nodeX (l : List DEnum) (n : DNode) (hn : okNode n) : PCall Tryz.prog 44 [.lst 2 (l.map DEnum.enc) none, n.enc] (.b (nodeF l.length n)) := by
  refine pcall_of_vc tabOK Tryz.func44 n44 rfl (by repeat' first | exact pure_nil | refine pure_cons ?_ ?_ | exact .raw _ | exact pure_enc _ | exact pure_lst _ | exact pure_strs _ | exact pure_ints _ | exact DTy.pure _ | exact DTy.pures _ | exact DEnum.pure _ | exact DEnum.pures _ | exact DDecl.pure _ | exact DDecl.pures _ | exact DEq.pure _ | exact DEq.pures _ | exact DNode.pure _ | exact DNode.pures _ | exact DProg.pure _ | exact DProg.pures _ | exact DCond.pure _ | exact DCond.pures _ | exact DAtom.pure _ | exact DAtom.pures _ | exact DPlain.pure _ | exact DPlain.pures _ | exact DFault.pure _ | exact DFault.pures _ | exact pure_list (fun x => DDecl.pures x) _ | exact .fn _ _ _ pure_nil pure_nil | refine .agg _ ?_ | refine .tup _ ?_ | assumption) (by repeat' first | exact pure_nil | refine pure_cons ?_ ?_ | exact .raw _ | exact pure_enc _ | exact pure_lst _ | exact pure_strs _ | exact pure_ints _ | exact DTy.pure _ | exact DTy.pures _ | exact DEnum.pure _ | exact DEnum.pures _ | exact DDecl.pure _ | exact DDecl.pures _ | exact DEq.pure _ | exact DEq.pures _ | exact DNode.pure _ | exact DNode.pures _ | exact DProg.pure _ | exact DProg.pures _ | exact DCond.pure _ | exact DCond.pures _ | exact DAtom.pure _ | exact DAtom.pures _ | exact DPlain.pure _ | exact DPlain.pures _ | exact DFault.pure _ | exact DFault.pures _ | exact pure_list (fun x => DDecl.pures x) _ | exact .fn _ _ _ pure_nil pure_nil | refine .agg _ ?_ | refine .tup _ ?_ | assumption) (n := 65) rfl (rs := [.tmp 4]) rfl ?_
  have hal := allVn hn
  have h1 := hn.1.1
  have h2 := hn.2.1.1
  have hw : IntKind.i64.wrap ((n.Ins.length : Int) + (n.Outs.length : Int)) = (n.Ins.length : Int) + (n.Outs.length : Int) := wrap_in _ (by omega) (by omega)
  repeat' first
    | exact finB rfl
    | exact finI rfl
    | exact finP rfl
    | exact absurd rfl (by assumption)
    | simp only [go_sem, Nat.reduceAdd, Nat.reduceSub, Nat.reduceMul, Nat.reduceLT, Nat.reduceLeDiff, Nat.reduceEqDiff, Nat.reduceBEq, Nat.reduceBNe, Nat.reducePow, Int.reduceEq, Int.reduceNe, Int.reduceLT, Int.reduceLE, Int.reduceGT, Int.reduceGE, Int.reduceAdd, Int.reduceSub, Int.reduceNeg, Int.reduceMul, not_true_eq_false, not_false_eq_true, true_and, and_true, Int.reduceToNat]
    | (intro _)
    | refine brK_dec (fun _ => ?_) (fun _ => ?_)
    | refine brK_split (fun hb_ => ?_) (fun hb_ => ?_)
    | refine gK_dec (fun _ => ?_) (fun _ => ?_)
    | refine gK_split (fun hb_ => ?_) (fun hb_ => ?_)
    | refine gqK_dec (fun _ => ?_) (fun _ => ?_)
    | refine ⟨by omega, ?_⟩
    | refine elemHave (by omega) (by assumption) ?_
    | refine elemMap (by omega) (by omega) (fun x hx => ?_)
    | refine drawK mo (by kernel_rfl) ?_
    | (refine PCall.call (all66 n (by omega)) ?_)
    | (refine PCall.call (declX l x) ?_; generalize hdx : declaredF l.length x = b; cases b)
    | (refine PCall.call (eqX x (hn.2.2.2.2.2 _ (List.mem_of_getElem? hx))) ?_; generalize hqx : eqF x = b; cases b)
    | (refine PCall.call (low_x n.Name) ?_; generalize hlx : lowF n.Name = b; cases b)
    | (refine finBq rfl ?_; rw [node_no hx hdx]; done)
    | (refine finBq rfl ?_; rw [node_no2 (bare_no hx (by omega) (by assumption))]; done)
    | (refine finBq rfl ?_; rw [node_no3 hx hqx]; done)
    | (refine finBq rfl ?_; rw [node_yes hpi.1 (by omega) (bare_yes hpi.2 (by omega)) hpj (by omega), hlx]; first | rfl | (simp; done) | (simp; omega))
    | exact loopFrH _ (by omega) ⟨i + 1, by omega, rfl, ⟨take_all hpi.1 (by simpa using hx) hdx, bare_next hpi.2 hx (fun hlt => by first | assumption | omega | exact Classical.not_not.1 (by assumption))⟩, rfl⟩ (.next rfl (by omega) .nil) rfl
    | (refine loop_frH [4, 6, 10, 11, 12, 13, 14, 15, 16, 17, 18, 19, 20, 21, 22, 23, 24, 25, 26, 27, 28, 29, 30, 31, 32, 33, 34, 35, 36, 37, 38, 39, 40, 41] (fun mm_ CC_ => ∃ (i : Nat), i ≤ (allV n).length ∧ mm_ = (allV n).length - i ∧ ((∀ d ∈ (allV n).take i, declaredF l.length d = true) ∧ (∀ d ∈ (n.Ins ++ n.Outs).take i, decide (d.On = ⟨#[]⟩) = true)) ∧ CC_ = [(6, .raw (.int .i64 ((i : Nat) : Int)))]) ((allV n).length) _ ⟨0, by omega, by omega, ⟨by simp, by simp⟩, rfl⟩ (.cons rfl .nil) ?_; rintro mm_ CC_ ji ⟨i, hi, rfl, hpi, rfl⟩)
    | exact loopFrH _ (by omega) ⟨j + 1, by omega, rfl, take_all hpj (by simpa using hx) hqx, rfl⟩ (.next rfl (by omega) .nil) rfl
    | (refine loop_frH [4, 7, 42, 43, 44, 45, 46, 47, 48, 49, 50, 51, 52, 53, 54, 55] (fun mm_ CC_ => ∃ (j : Nat), j ≤ n.Eqs.length ∧ mm_ = n.Eqs.length - j ∧ (∀ q ∈ n.Eqs.take j, eqF q = true) ∧ CC_ = [(7, .raw (.int .i64 ((j : Nat) : Int)))]) (n.Eqs.length) _ ⟨0, by omega, by omega, by simp, rfl⟩ (.cons rfl .nil) ?_; rintro mm_ CC_ jj ⟨j, hj, rfl, hpj, rfl⟩)
def okAX (l : List DEnum) (i : Nat) (a b : List ByteArray) : Prop := okAB i a b ∧ a = (l.take i).map DEnum.Name ∧ b = (l.take i).flatMap DEnum.Ctors ∧ ∀ e ∈ l.take i, e.Ctors.length ≤ 6
theorem okAX.zero {l : List DEnum} : okAX l 0 [] [] := ⟨.zero, by simp, by simp, by simp⟩
theorem okAX.next {l : List DEnum} {i : Nat} {a b : List ByteArray} {x : DEnum} (h : okAX l i a b) (hl : okEnums l) (hx : l[((i : Nat) : Int).toNat]? = some x) (h6 : x.Ctors.length ≤ 6) : okAX l (i + 1) (a ++ [x.Name]) (b ++ x.Ctors) :=
  ⟨h.1.next hl hx, by rw [take_mapS hx, h.2.1], by rw [flatMap_next _ (by simpa using hx), h.2.2.1], take_all h.2.2.2 (by simpa using hx) h6⟩
theorem en_ok {e : DEnum} (h : lowF e.Name = true) (h2 : 0 < e.Ctors.length) : (lowF e.Name && decide (0 < e.Ctors.length)) = true := by simp [h, h2]
theorem en_bad {e : DEnum} {b : Bool} (h : lowF e.Name = b) (h2 : ¬ 0 < e.Ctors.length) : (lowF e.Name && decide (0 < e.Ctors.length)) = false := by rw [decide_eq_false h2, Bool.and_false]
theorem en_bad0 {e : DEnum} (h : lowF e.Name = false) : (lowF e.Name && decide (0 < e.Ctors.length)) = false := by rw [h, Bool.false_and]
theorem n27 : (Tryz.f27.name == "runtime.NumGoroutine") = false := by kernel_rfl
theorem enumsX (l : List DEnum) (hl : okEnums l) : PCall Tryz.prog 27 [.lst 2 (l.map DEnum.enc) none] (.i (enumsF l)) := by
  refine pcall_of_vc tabOK Tryz.func27 n27 rfl (by repeat' first | exact pure_nil | refine pure_cons ?_ ?_ | exact .raw _ | exact pure_enc _ | exact pure_lst _ | exact pure_strs _ | exact pure_ints _ | exact DTy.pure _ | exact DTy.pures _ | exact DEnum.pure _ | exact DEnum.pures _ | exact DDecl.pure _ | exact DDecl.pures _ | exact DEq.pure _ | exact DEq.pures _ | exact DNode.pure _ | exact DNode.pures _ | exact DProg.pure _ | exact DProg.pures _ | exact DCond.pure _ | exact DCond.pures _ | exact DAtom.pure _ | exact DAtom.pures _ | exact DPlain.pure _ | exact DPlain.pures _ | exact DFault.pure _ | exact DFault.pures _ | exact pure_list (fun x => DDecl.pures x) _ | exact .fn _ _ _ pure_nil pure_nil | refine .agg _ ?_ | refine .tup _ ?_ | assumption) (by repeat' first | exact pure_nil | refine pure_cons ?_ ?_ | exact .raw _ | exact pure_enc _ | exact pure_lst _ | exact pure_strs _ | exact pure_ints _ | exact DTy.pure _ | exact DTy.pures _ | exact DEnum.pure _ | exact DEnum.pures _ | exact DDecl.pure _ | exact DDecl.pures _ | exact DEq.pure _ | exact DEq.pures _ | exact DNode.pure _ | exact DNode.pures _ | exact DProg.pure _ | exact DProg.pures _ | exact DCond.pure _ | exact DCond.pures _ | exact DAtom.pure _ | exact DAtom.pures _ | exact DPlain.pure _ | exact DPlain.pures _ | exact DFault.pure _ | exact DFault.pures _ | exact pure_list (fun x => DDecl.pures x) _ | exact .fn _ _ _ pure_nil pure_nil | refine .agg _ ?_ | refine .tup _ ?_ | assumption) (n := 83) rfl (rs := [.tmp 2]) rfl ?_
  have hl8 := hl.1
  repeat' first
    | exact finB rfl
    | exact finI rfl
    | exact finP rfl
    | exact absurd rfl (by assumption)
    | simp only [go_sem, Nat.reduceAdd, Nat.reduceSub, Nat.reduceMul, Nat.reduceLT, Nat.reduceLeDiff, Nat.reduceEqDiff, Nat.reduceBEq, Nat.reduceBNe, Nat.reducePow, Int.reduceEq, Int.reduceNe, Int.reduceLT, Int.reduceLE, Int.reduceGT, Int.reduceGE, Int.reduceAdd, Int.reduceSub, Int.reduceNeg, Int.reduceMul, not_true_eq_false, not_false_eq_true, true_and, and_true, Int.reduceToNat]
    | (intro _)
    | refine brK_dec (fun _ => ?_) (fun _ => ?_)
    | refine brK_split (fun hb_ => ?_) (fun hb_ => ?_)
    | refine gK_dec (fun _ => ?_) (fun _ => ?_)
    | refine gK_split (fun hb_ => ?_) (fun hb_ => ?_)
    | refine gqK_dec (fun _ => ?_) (fun _ => ?_)
    | refine ⟨by omega, ?_⟩
    | refine elemHave (by omega) (by assumption) ?_
    | refine elemMap (by omega) (by omega) (fun x hx => ?_)
    | refine drawK mo (by kernel_rfl) ?_
    | (simp only [map_snoc])
    | (simp only [map_app])
    | (refine ⟨by have h8 := hpi.1.1; have h9 := hpi.1.2.1; have h7 := (hl.2 _ (List.mem_of_getElem? hx)).1; first | omega | (simp; omega), ?_⟩)
    | ((fail_if_success (clear hax)); have hax : a = l.map DEnum.Name := (by rw [hpi.2.1, List.take_of_length_le (by omega)]; done); have hbx : b = l.flatMap DEnum.Ctors := (by rw [hpi.2.2.1, List.take_of_length_le (by omega)]; done); have hgx : greatE l = false := en_small (by omega) hpi.2.2.2 (by omega); subst hax hbx)
    | (refine PCall.call (low_x x.Name) ?_; generalize hlx : lowF x.Name = q; cases q)
    | (refine PCall.call (high_x x) ?_; generalize hhx : highF x = q; cases q)
    | (refine PCall.callW (once_x (l.map DEnum.Name)) ⟨.tok _ _ _, trivial⟩ ?_; generalize ho1 : onceB (l.map DEnum.Name) = q; cases q)
    | (refine PCall.callW (once_x (l.flatMap DEnum.Ctors)) ⟨.tok _ _ _, trivial⟩ ?_; generalize ho2 : onceB (l.flatMap DEnum.Ctors) = q; cases q)
    | (refine finIq rfl ?_; rw [en_many (en_great1 (by omega))]; done)
    | (refine finIq rfl ?_; rw [en_many (en_great2 hx (by omega))]; done)
    | (refine finIq rfl ?_; rw [en_arg1 hgx hx (en_bad0 hlx)]; done)
    | (refine finIq rfl ?_; rw [en_arg1 hgx hx (en_bad hlx (by omega))]; done)
    | (refine finIq rfl ?_; rw [en_arg2 hgx hx hhx]; done)
    | (refine finIq rfl ?_; rw [en_end hgx hpj (by omega) hpk (by omega)]; simp [*]; done)
    | exact loopFr _ (by omega) ⟨i + 1, a ++ [x.Name], b ++ x.Ctors, _, by omega, rfl, hpi.next hl hx (by omega), rfl, (by first | rfl | (simp; done) | (simp; rfl))⟩ (.next rfl (by omega) (.cons (by first | rfl | (simp; done) | (simp; rfl)) (.cons (by first | rfl | (simp; done) | (simp; rfl)) .nil))) rfl
    | (refine loop_fr [2, 3, 4, 5, 13, 14, 15, 16, 17, 18, 19, 20, 21, 22, 23, 24, 25, 26, 27, 28, 29, 30, 31, 32, 33, 34, 35, 36, 37, 38, 39, 40] (fun mm_ CC_ hh_ => ∃ (i : Nat) (a : List ByteArray) (b : List ByteArray) (r_ : List Blk), i ≤ l.length ∧ mm_ = l.length - i ∧ (okAX l i a b) ∧ CC_ = [(5, .raw (.int .i64 ((i : Nat) : Int))), (3, .lst 1 (a.map AV.s) (some 0)), (4, .lst 1 (b.map AV.s) (some 1))] ∧ hh_ = .tok 9 1 a.length :: .tok 9 1 b.length :: r_) (l.length) _ ⟨0, [], [], _, by omega, by omega, .zero, rfl, (by first | rfl | (simp; done) | (simp; rfl))⟩ (.cons (by first | rfl | (simp; done) | (simp; rfl)) (.cons (by first | rfl | (simp; done) | (simp; rfl)) (.cons (by first | rfl | (simp; done) | (simp; rfl)) .nil))) ?_; rintro mm_ CC_ ji hh_ ⟨i, a, b, ri, hi, rfl, hpi, rfl, rfl⟩)
    | exact loopFrH _ (by omega) ⟨j + 1, by omega, rfl, take_all hpj (by simpa using hx) (en_ok hlx (by omega)), rfl⟩ (.next rfl (by omega) .nil) rfl
    | (refine loop_frH [2, 6, 41, 42, 43, 44, 45, 46, 47, 48, 49, 50, 51, 52, 53, 54, 55, 56, 57, 58, 59, 60, 61, 62] (fun mm_ CC_ => ∃ (j : Nat), j ≤ l.length ∧ mm_ = l.length - j ∧ (∀ e ∈ l.take j, (lowF e.Name && decide (0 < e.Ctors.length)) = true) ∧ CC_ = [(6, .raw (.int .i64 ((j : Nat) : Int)))]) (l.length) _ ⟨0, by omega, by omega, by simp, rfl⟩ (.cons rfl .nil) ?_; rintro mm_ CC_ jj ⟨j, hj, rfl, hpj, rfl⟩)
    | exact loopFrH _ (by omega) ⟨k + 1, by omega, rfl, take_all hpk (by simpa using hx) hhx, rfl⟩ (.next rfl (by omega) .nil) rfl
    | (refine loop_frH [2, 7, 63, 64, 65, 66, 67, 68, 69, 70, 71, 72, 73, 74] (fun mm_ CC_ => ∃ (k : Nat), k ≤ (l.flatMap DEnum.Ctors).length ∧ mm_ = (l.flatMap DEnum.Ctors).length - k ∧ (∀ c ∈ (l.flatMap DEnum.Ctors).take k, highF c = true) ∧ CC_ = [(7, .raw (.int .i64 ((k : Nat) : Int)))]) ((l.flatMap DEnum.Ctors).length) _ ⟨0, by omega, by omega, by simp, rfl⟩ (.cons rfl .nil) ?_; rintro mm_ CC_ jk ⟨k, hk, rfl, hpk, rfl⟩)
end Go.Proofs.YtipcmpkihhfhcaaGreatDoor

namespace Go.Proofs.YtipcmpkihhfhcaaGreatDoor
open Go.Abs
set_option maxRecDepth 20000
set_option linter.unusedSimpArgs false
set_option linter.unusedVariables false
set_option maxHeartbeats 1000000
attribute [local irreducible] vc vcOps vcStep vcGuard prK hrK gK gsK brK callK ElemK SeqK BlockK ScopeK OpsK CallK LoopK LoopGo finPost ACall PCall PCallE BCall vqOps vqStep vqGuard qrK heK pcK gqK gqsK QOpsK qcallK DrawK
theorem okN_lenX {n : DNode} (h : okNode n) : (allV n).length ≤ 60 := by
  have h1 := h.1.1
  have h2 := h.2.1.1
  have h3 := h.2.2.1.1
  simp [allV]
  omega
def chkX (p : DProg) (i : Nat) (a : List ByteArray) (u v : Bool) : Prop := a = (p.Nodes.take i).map DNode.Name ∧ u = (p.Nodes.take i).all (nodeF p.Enums.length) ∧ v = (p.Nodes.take i).all onceN ∧ ∀ n ∈ p.Nodes.take i, greatF n = false
theorem chkX.zero {p : DProg} : chkX p 0 [] true true := ⟨by simp, by simp, by simp, by simp⟩
theorem chkX.next {p : DProg} {i : Nat} {a : List ByteArray} {u v u' v' : Bool} {n : DNode} (h : chkX p i a u v) (hx : p.Nodes[((i : Nat) : Int).toNat]? = some n) (hg : greatF n = false) (hu : u' = (u && nodeF p.Enums.length n)) (hv : v' = (v && onceN n)) : chkX p (i + 1) (a ++ [n.Name]) u' v' :=
  ⟨by rw [take_mapS hx, h.1], by rw [hu, all_nextZ _ hx, h.2.1], by rw [hv, all_nextZ _ hx, h.2.2.1], take_all h.2.2.2 (by simpa using hx) hg⟩
theorem chk_some {p : DProg} {i : Nat} {n : DNode} (hx : p.Nodes[((i : Nat) : Int).toNat]? = some n) (hg : greatF n = true) : p.Nodes.any greatF = true := List.any_eq_true.2 ⟨n, List.mem_of_getElem? hx, hg⟩
theorem chk_none {p : DProg} {i : Nat} {a : List ByteArray} {u v : Bool} (h : chkX p i a u v) (hi : p.Nodes.length ≤ i) : p.Nodes.any greatF = false ∧ p.Nodes.all (nodeF p.Enums.length) = u ∧ p.Nodes.all onceN = v ∧ p.Nodes.map DNode.Name = a := by
  obtain ⟨h1, h2, h3, h4⟩ := h
  have e : p.Nodes.take i = p.Nodes := List.take_of_length_le hi
  rw [e] at h1 h2 h3 h4
  refine ⟨?_, h2.symm, h3.symm, h1.symm⟩
  rw [List.any_eq_false]
  intro n hn
  rw [h4 n hn]; simp
theorem great_no {n : DNode} (h1 : ¬ ((n.Ins.length : Int) > 6)) (h2 : ¬ ((n.Outs.length : Int) > 6)) (h3 : ¬ ((n.Vars.length : Int) > 12)) (h4 : ¬ ((n.Eqs.length : Int) > 18)) : greatF n = false := by
  unfold greatF
  rw [decide_eq_false (by omega), decide_eq_false (by omega), decide_eq_false (by omega), decide_eq_false (by omega)]
  rfl
theorem great_yes {n : DNode} (h : (n.Ins.length : Int) > 6 ∨ (n.Outs.length : Int) > 6 ∨ (n.Vars.length : Int) > 12 ∨ (n.Eqs.length : Int) > 18) : greatF n = true := by
  unfold greatF
  simp only [Bool.or_eq_true, decide_eq_true_eq]
  omega
theorem onceX (x : DNode) : PCall Tryz.prog 45 [.lst 1 (((allV x).map DDecl.Name).map AV.s) none] (.b (onceN x)) := once_x _
noncomputable def checkG (p : DProg) (en : Int) : Int :=
  if ¬ en = 0 then en
  else if p.Nodes.length = 0 then 5
  else if (decide (p.Nodes.length > 6) || p.Nodes.any greatF) = true then 4
  else if p.Nodes.all (nodeF p.Enums.length) = true then (if (p.Nodes.all onceN && onceB (p.Nodes.map DNode.Name)) = true then 0 else 6) else 1
theorem checkG_eq (p : DProg) : checkF p = checkG p (enumsF p.Enums) := rfl
section
variable {p : DProg} {en : Int}
theorem cg_en (h : en ≠ 0) : checkG p en = en := by unfold checkG; rw [if_pos h]
theorem cg_none (h : ¬ en ≠ 0) (h1 : (p.Nodes.length : Int) = 0) : checkG p en = 5 := by unfold checkG; rw [if_neg h, if_pos (by omega)]
theorem cg_many1 (h : ¬ en ≠ 0) (h1 : ¬ (p.Nodes.length : Int) = 0) (h2 : (p.Nodes.length : Int) > 6) : checkG p en = 4 := by unfold checkG; rw [if_neg h, if_neg (by omega), decide_eq_true (by omega)]; simp
theorem cg_many2 (h : ¬ en ≠ 0) (h1 : ¬ (p.Nodes.length : Int) = 0) (h2 : p.Nodes.any greatF = true) : checkG p en = 4 := by unfold checkG; rw [if_neg h, if_neg (by omega), h2]; simp
theorem cg_arg (h : ¬ en ≠ 0) (h1 : ¬ (p.Nodes.length : Int) = 0) (h2 : ¬ (p.Nodes.length : Int) > 6) {u v : Bool} (f1 : p.Nodes.any greatF = false) (f2 : p.Nodes.all (nodeF p.Enums.length) = u) (f3 : p.Nodes.all onceN = v) (hu : (!u) = true) : checkG p en = 1 := by
  unfold checkG; rw [if_neg h, if_neg (by omega), decide_eq_false (by omega), f1, f2, f3]; simp at hu; simp [hu]
theorem cg_there1 (h : ¬ en ≠ 0) (h1 : ¬ (p.Nodes.length : Int) = 0) (h2 : ¬ (p.Nodes.length : Int) > 6) {u v : Bool} (f1 : p.Nodes.any greatF = false) (f2 : p.Nodes.all (nodeF p.Enums.length) = u) (f3 : p.Nodes.all onceN = v) (hu : ¬ (!u) = true) (hv : (!v) = true) : checkG p en = 6 := by
  unfold checkG; rw [if_neg h, if_neg (by omega), decide_eq_false (by omega), f1, f2, f3]; simp at hu hv; simp [hu, hv]
theorem cg_there2 (h : ¬ en ≠ 0) (h1 : ¬ (p.Nodes.length : Int) = 0) (h2 : ¬ (p.Nodes.length : Int) > 6) {u v : Bool} (f1 : p.Nodes.any greatF = false) (f2 : p.Nodes.all (nodeF p.Enums.length) = u) (f3 : p.Nodes.all onceN = v) (hu : ¬ (!u) = true) (hv : ¬ (!v) = true) (hw : onceB (p.Nodes.map DNode.Name) = false) : checkG p en = 6 := by
  unfold checkG; rw [if_neg h, if_neg (by omega), decide_eq_false (by omega), f1, f2, f3]; simp at hu hv; simp [hu, hv, hw]
theorem cg_ok (h : ¬ en ≠ 0) (h1 : ¬ (p.Nodes.length : Int) = 0) (h2 : ¬ (p.Nodes.length : Int) > 6) {u v : Bool} (f1 : p.Nodes.any greatF = false) (f2 : p.Nodes.all (nodeF p.Enums.length) = u) (f3 : p.Nodes.all onceN = v) (hu : ¬ (!u) = true) (hv : ¬ (!v) = true) (hw : onceB (p.Nodes.map DNode.Name) = true) : checkG p en = 0 := by
  unfold checkG; rw [if_neg h, if_neg (by omega), decide_eq_false (by omega), f1, f2, f3]; simp at hu hv; simp [hu, hv, hw]
end
theorem n13 : (Tryz.f13.name == "runtime.NumGoroutine") = false := by kernel_rfl
theorem checkX (p : DProg) (hp : okProg p) : PCall Tryz.prog 13 [p.enc] (.i (checkF p)) := by
  refine pcall_of_vc tabOK Tryz.func13 n13 rfl (by repeat' first | exact pure_nil | refine pure_cons ?_ ?_ | exact .raw _ | exact pure_enc _ | exact pure_lst _ | exact pure_strs _ | exact pure_ints _ | exact DTy.pure _ | exact DTy.pures _ | exact DEnum.pure _ | exact DEnum.pures _ | exact DDecl.pure _ | exact DDecl.pures _ | exact DEq.pure _ | exact DEq.pures _ | exact DNode.pure _ | exact DNode.pures _ | exact DProg.pure _ | exact DProg.pures _ | exact DCond.pure _ | exact DCond.pures _ | exact DAtom.pure _ | exact DAtom.pures _ | exact DPlain.pure _ | exact DPlain.pures _ | exact DFault.pure _ | exact DFault.pures _ | exact pure_list (fun x => DDecl.pures x) _ | exact .fn _ _ _ pure_nil pure_nil | refine .agg _ ?_ | refine .tup _ ?_ | assumption) (by repeat' first | exact pure_nil | refine pure_cons ?_ ?_ | exact .raw _ | exact pure_enc _ | exact pure_lst _ | exact pure_strs _ | exact pure_ints _ | exact DTy.pure _ | exact DTy.pures _ | exact DEnum.pure _ | exact DEnum.pures _ | exact DDecl.pure _ | exact DDecl.pures _ | exact DEq.pure _ | exact DEq.pures _ | exact DNode.pure _ | exact DNode.pures _ | exact DProg.pure _ | exact DProg.pures _ | exact DCond.pure _ | exact DCond.pures _ | exact DAtom.pure _ | exact DAtom.pures _ | exact DPlain.pure _ | exact DPlain.pures _ | exact DFault.pure _ | exact DFault.pures _ | exact pure_list (fun x => DDecl.pures x) _ | exact .fn _ _ _ pure_nil pure_nil | refine .agg _ ?_ | refine .tup _ ?_ | assumption) (n := 86) rfl (rs := [.tmp 2]) rfl ?_
  have hpn := hp.2.1
  rw [checkG_eq]
  repeat' first
    | exact finB rfl
    | exact finI rfl
    | exact finP rfl
    | exact absurd rfl (by assumption)
    | simp only [go_sem, Nat.reduceAdd, Nat.reduceSub, Nat.reduceMul, Nat.reduceLT, Nat.reduceLeDiff, Nat.reduceEqDiff, Nat.reduceBEq, Nat.reduceBNe, Nat.reducePow, Int.reduceEq, Int.reduceNe, Int.reduceLT, Int.reduceLE, Int.reduceGT, Int.reduceGE, Int.reduceAdd, Int.reduceSub, Int.reduceNeg, Int.reduceMul, not_true_eq_false, not_false_eq_true, true_and, and_true, Int.reduceToNat]
    | (intro _)
    | refine brK_dec (fun _ => ?_) (fun _ => ?_)
    | refine brK_split (fun hb_ => ?_) (fun hb_ => ?_)
    | refine gK_dec (fun _ => ?_) (fun _ => ?_)
    | refine gK_split (fun hb_ => ?_) (fun hb_ => ?_)
    | refine gqK_dec (fun _ => ?_) (fun _ => ?_)
    | refine ⟨by omega, ?_⟩
    | refine elemHave (by omega) (by assumption) ?_
    | refine elemMap (by omega) (by omega) (fun x hx => ?_)
    | refine drawK mo (by kernel_rfl) ?_
    | (refine PCall.call (enumsX _ hp.1) ?_; generalize enumsF p.Enums = en)
    | (simp only [map_snoc])
    | (refine PCall.call (all66 x (by have := okN_lenX (hp.2.2 _ (List.mem_of_getElem? hx)); omega)) ?_)
    | (refine PCall.call (names83 _ (by have := okN_lenX (hp.2.2 _ (List.mem_of_getElem? hx)); omega)) ?_)
    | (refine PCall.call (nodeX _ x (hp.2.2 _ (List.mem_of_getElem? hx))) ?_; generalize hnx : nodeF p.Enums.length x = b; cases b)
    | (refine PCall.call (onceX x) ?_; generalize hox : onceN x = b; cases b)
    | ((fail_if_success (clear hfin)); have hfin := chk_none hpi.2 (by omega); obtain ⟨f1, f2, f3, f4⟩ := hfin; have hfin := f1; subst f4)
    | (refine PCall.callW (once_x (p.Nodes.map DNode.Name)) ⟨.tok _ _ _, trivial⟩ ?_; generalize hwx : onceB (p.Nodes.map DNode.Name) = b; cases b)
    | (refine ⟨by first | omega | (simp; omega), ?_⟩)
    | (exact finIq rfl (cg_en (p := p) (en := en) (by assumption)).symm)
    | (exact finIq rfl (cg_none (p := p) (en := en) (by assumption) (by assumption)).symm)
    | (exact finIq rfl (cg_many1 (p := p) (en := en) (by assumption) (by assumption) (by assumption)).symm)
    | (have hgr := great_yes (n := x) (by omega); exact finIq rfl (cg_many2 (p := p) (en := en) (by assumption) (by assumption) (chk_some hx hgr)).symm)
    | (refine finIq rfl (cg_arg (p := p) (en := en) (by assumption) (by assumption) (by assumption) f1 f2 f3 ?_).symm; first | assumption | (simp [*]; done))
    | (refine finIq rfl (cg_there1 (p := p) (en := en) (by assumption) (by assumption) (by assumption) f1 f2 f3 ?_ ?_).symm <;> first | assumption | (simp [*]; done))
    | (refine finIq rfl (cg_there2 (p := p) (en := en) (by assumption) (by assumption) (by assumption) f1 f2 f3 ?_ ?_ hwx).symm <;> first | assumption | (simp [*]; done))
    | (refine finIq rfl (cg_ok (p := p) (en := en) (by assumption) (by assumption) (by assumption) f1 f2 f3 ?_ ?_ hwx).symm <;> first | assumption | (simp [*]; done))
    | exact loopFr _ (by omega) ⟨i + 1, a ++ [x.Name], (Bool.and u (nodeF p.Enums.length x)), (Bool.and v (onceN x)), _, by omega, rfl, ⟨by have := hpi.1 <;> simp <;> omega, hpi.2.next hx (great_no (by assumption) (by assumption) (by assumption) (by assumption)) rfl rfl⟩, rfl, (by first | rfl | (simp; done) | (simp; rfl) | (simp [*]))⟩ (.next rfl (by omega) (.cons (by first | rfl | (simp; done) | (simp; rfl) | (simp [*])) (.cons (by first | rfl | (simp; done) | (simp; rfl) | (simp [*])) (.cons (by first | rfl | (simp; done) | (simp; rfl) | (simp [*])) .nil)))) rfl
    | (refine loop_fr [2, 4, 5, 6, 7, 8, 24, 25, 26, 27, 28, 29, 30, 31, 32, 33, 34, 35, 36, 37, 38, 39, 40, 41, 42, 43, 44, 45, 46, 47, 48, 49, 50, 51, 52, 53, 54, 55, 56, 57, 58, 59, 60, 61, 62, 63, 64, 65, 66, 67, 68, 69, 70, 71, 72, 73, 74, 75, 76] (fun mm_ CC_ hh_ => ∃ (i : Nat) (a : List ByteArray) (u : Bool) (v : Bool) (r_ : List Blk), i ≤ p.Nodes.length ∧ mm_ = p.Nodes.length - i ∧ ((a.length ≤ i ∧ chkX p i a u v)) ∧ CC_ = [(7, .raw (.int .i64 ((i : Nat) : Int))), (4, .lst 1 (a.map AV.s) (some 1)), (5, .b u), (6, .b v)] ∧ hh_ = progBc p :: .tok 9 1 a.length :: r_) (p.Nodes.length) _ ⟨0, [], _, _, _, by omega, by omega, ⟨by simp, chkX.zero⟩, rfl, (by first | rfl | (simp; done) | (simp; rfl))⟩ (.cons (by first | rfl | (simp; done) | (simp; rfl)) (.cons (by first | rfl | (simp; done) | (simp; rfl)) (.cons (by first | rfl | (simp; done) | (simp; rfl)) (.cons (by first | rfl | (simp; done) | (simp; rfl)) .nil)))) ?_; rintro mm_ CC_ ji hh_ ⟨i, a, u, v, ri, hi, rfl, hpi, rfl, rfl⟩)
end Go.Proofs.YtipcmpkihhfhcaaGreatDoor

namespace Go.Proofs.YtipcmpkihhfhcaaGreatDoor
open Go.Abs
set_option maxRecDepth 20000
set_option linter.unusedSimpArgs false
set_option linter.unusedVariables false
set_option maxHeartbeats 1000000
attribute [local irreducible] vc vcOps vcStep vcGuard prK hrK gK gsK brK callK ElemK SeqK BlockK ScopeK OpsK CallK LoopK LoopGo finPost ACall PCall PCallE BCall vqOps vqStep vqGuard qrK heK pcK gqK gqsK QOpsK qcallK DrawK
theorem n90 : (Tryz.f90.name == "runtime.NumGoroutine") = false := by kernel_rfl
theorem is90 (n : DNode) (s : ByteArray) (hl : (allV n).length ≤ 60) : PCall Tryz.prog 90 [n.enc, .s s] (.b (isF n s)) := by
  refine pcall_of_vc tabOK Tryz.func90 n90 rfl (by repeat' first | exact pure_nil | refine pure_cons ?_ ?_ | exact .raw _ | exact pure_enc _ | exact pure_lst _ | exact pure_strs _ | exact pure_ints _ | exact DTy.pure _ | exact DTy.pures _ | exact DEnum.pure _ | exact DEnum.pures _ | exact DDecl.pure _ | exact DDecl.pures _ | exact DEq.pure _ | exact DEq.pures _ | exact DNode.pure _ | exact DNode.pures _ | exact DProg.pure _ | exact DProg.pures _ | exact DCond.pure _ | exact DCond.pures _ | exact DAtom.pure _ | exact DAtom.pures _ | exact DPlain.pure _ | exact DPlain.pures _ | exact DFault.pure _ | exact DFault.pures _ | exact pure_list (fun x => DDecl.pures x) _ | exact .fn _ _ _ pure_nil pure_nil | refine .agg _ ?_ | refine .tup _ ?_ | assumption) (by repeat' first | exact pure_nil | refine pure_cons ?_ ?_ | exact .raw _ | exact pure_enc _ | exact pure_lst _ | exact pure_strs _ | exact pure_ints _ | exact DTy.pure _ | exact DTy.pures _ | exact DEnum.pure _ | exact DEnum.pures _ | exact DDecl.pure _ | exact DDecl.pures _ | exact DEq.pure _ | exact DEq.pures _ | exact DNode.pure _ | exact DNode.pures _ | exact DProg.pure _ | exact DProg.pures _ | exact DCond.pure _ | exact DCond.pures _ | exact DAtom.pure _ | exact DAtom.pures _ | exact DPlain.pure _ | exact DPlain.pures _ | exact DFault.pure _ | exact DFault.pures _ | exact pure_list (fun x => DDecl.pures x) _ | exact .fn _ _ _ pure_nil pure_nil | refine .agg _ ?_ | refine .tup _ ?_ | assumption) (n := 14) rfl (rs := [.tmp 4]) rfl ?_
  repeat' first
    | exact finB rfl
    | exact finI rfl
    | exact finP rfl
    | exact absurd rfl (by assumption)
    | simp only [go_sem, Nat.reduceAdd, Nat.reduceSub, Nat.reduceMul, Nat.reduceLT, Nat.reduceLeDiff, Nat.reduceEqDiff, Nat.reduceBEq, Nat.reduceBNe, Nat.reducePow, Int.reduceEq, Int.reduceNe, Int.reduceLT, Int.reduceLE, Int.reduceGT, Int.reduceGE, Int.reduceAdd, Int.reduceSub, Int.reduceNeg, Int.reduceMul, not_true_eq_false, not_false_eq_true, true_and, and_true, Int.reduceToNat]
    | (intro _)
    | refine brK_dec (fun _ => ?_) (fun _ => ?_)
    | refine brK_any ?_ ?_
    | refine gK_dec (fun _ => ?_) (fun _ => ?_)
    | refine gK_any ?_ ?_
    | refine gqK_dec (fun _ => ?_) (fun _ => ?_)
    | refine ⟨by omega, ?_⟩
    | refine elemHave (by omega) (by assumption) ?_
    | refine elemMap (by omega) (by omega) (fun x hx => ?_)
    | refine drawK mo (by kernel_rfl) ?_
    | (refine PCall.call (decl26 n s (by omega)) ?_; unfold isF; generalize decl n s = d; obtain ⟨d, ok⟩ := d)
    | (exact finBq rfl rfl)
theorem n91 : (Tryz.f91.name == "runtime.NumGoroutine") = false := by kernel_rfl
theorem armX15 (p : DProg) (s : ByteArray) : PCall Tryz.prog 91 [p.enc, .s s] (.b (armOk p.Enums s)) := by
  refine pcall_of_vc tabOK Tryz.func91 n91 rfl (by repeat' first | exact pure_nil | refine pure_cons ?_ ?_ | exact .raw _ | exact pure_enc _ | exact pure_lst _ | exact pure_strs _ | exact pure_ints _ | exact DTy.pure _ | exact DTy.pures _ | exact DEnum.pure _ | exact DEnum.pures _ | exact DDecl.pure _ | exact DDecl.pures _ | exact DEq.pure _ | exact DEq.pures _ | exact DNode.pure _ | exact DNode.pures _ | exact DProg.pure _ | exact DProg.pures _ | exact DCond.pure _ | exact DCond.pures _ | exact DAtom.pure _ | exact DAtom.pures _ | exact DPlain.pure _ | exact DPlain.pures _ | exact DFault.pure _ | exact DFault.pures _ | exact pure_list (fun x => DDecl.pures x) _ | exact .fn _ _ _ pure_nil pure_nil | refine .agg _ ?_ | refine .tup _ ?_ | assumption) (by repeat' first | exact pure_nil | refine pure_cons ?_ ?_ | exact .raw _ | exact pure_enc _ | exact pure_lst _ | exact pure_strs _ | exact pure_ints _ | exact DTy.pure _ | exact DTy.pures _ | exact DEnum.pure _ | exact DEnum.pures _ | exact DDecl.pure _ | exact DDecl.pures _ | exact DEq.pure _ | exact DEq.pures _ | exact DNode.pure _ | exact DNode.pures _ | exact DProg.pure _ | exact DProg.pures _ | exact DCond.pure _ | exact DCond.pures _ | exact DAtom.pure _ | exact DAtom.pures _ | exact DPlain.pure _ | exact DPlain.pures _ | exact DFault.pure _ | exact DFault.pures _ | exact pure_list (fun x => DDecl.pures x) _ | exact .fn _ _ _ pure_nil pure_nil | refine .agg _ ?_ | refine .tup _ ?_ | assumption) (n := 17) rfl (rs := [.tmp 4]) rfl ?_
  repeat' first
    | exact finB rfl
    | exact finI rfl
    | exact finP rfl
    | exact absurd rfl (by assumption)
    | simp only [go_sem, Nat.reduceAdd, Nat.reduceSub, Nat.reduceMul, Nat.reduceLT, Nat.reduceLeDiff, Nat.reduceEqDiff, Nat.reduceBEq, Nat.reduceBNe, Nat.reducePow, Int.reduceEq, Int.reduceNe, Int.reduceLT, Int.reduceLE, Int.reduceGT, Int.reduceGE, Int.reduceAdd, Int.reduceSub, Int.reduceNeg, Int.reduceMul, not_true_eq_false, not_false_eq_true, true_and, and_true, Int.reduceToNat]
    | (intro _)
    | refine brK_dec (fun _ => ?_) (fun _ => ?_)
    | refine brK_any ?_ ?_
    | refine gK_dec (fun _ => ?_) (fun _ => ?_)
    | refine gK_any ?_ ?_
    | refine gqK_dec (fun _ => ?_) (fun _ => ?_)
    | refine ⟨by omega, ?_⟩
    | refine elemHave (by omega) (by assumption) ?_
    | refine elemMap (by omega) (by omega) (fun x hx => ?_)
    | refine drawK mo (by kernel_rfl) ?_
    | (refine PCall.call (arm91 p.Enums s) ?_; unfold armOk; generalize armF p.Enums s = d; obtain ⟨t, v, ok⟩ := d)
    | (exact finBq rfl rfl)
theorem n142 : (Tryz.f142.name == "runtime.NumGoroutine") = false := by kernel_rfl
theorem input142 (n : DNode) (s : ByteArray) : PCall Tryz.prog 142 [n.enc, .s s] (.b (inF n s)) := by
  refine pcall_of_vc tabOK Tryz.func142 n142 rfl (by repeat' first | exact pure_nil | refine pure_cons ?_ ?_ | exact .raw _ | exact pure_enc _ | exact pure_lst _ | exact pure_strs _ | exact pure_ints _ | exact DTy.pure _ | exact DTy.pures _ | exact DEnum.pure _ | exact DEnum.pures _ | exact DDecl.pure _ | exact DDecl.pures _ | exact DEq.pure _ | exact DEq.pures _ | exact DNode.pure _ | exact DNode.pures _ | exact DProg.pure _ | exact DProg.pures _ | exact DCond.pure _ | exact DCond.pures _ | exact DAtom.pure _ | exact DAtom.pures _ | exact DPlain.pure _ | exact DPlain.pures _ | exact DFault.pure _ | exact DFault.pures _ | exact pure_list (fun x => DDecl.pures x) _ | exact .fn _ _ _ pure_nil pure_nil | refine .agg _ ?_ | refine .tup _ ?_ | assumption) (by repeat' first | exact pure_nil | refine pure_cons ?_ ?_ | exact .raw _ | exact pure_enc _ | exact pure_lst _ | exact pure_strs _ | exact pure_ints _ | exact DTy.pure _ | exact DTy.pures _ | exact DEnum.pure _ | exact DEnum.pures _ | exact DDecl.pure _ | exact DDecl.pures _ | exact DEq.pure _ | exact DEq.pures _ | exact DNode.pure _ | exact DNode.pures _ | exact DProg.pure _ | exact DProg.pures _ | exact DCond.pure _ | exact DCond.pures _ | exact DAtom.pure _ | exact DAtom.pures _ | exact DPlain.pure _ | exact DPlain.pures _ | exact DFault.pure _ | exact DFault.pures _ | exact pure_list (fun x => DDecl.pures x) _ | exact .fn _ _ _ pure_nil pure_nil | refine .agg _ ?_ | refine .tup _ ?_ | assumption) (n := 21) rfl (rs := [.tmp 4]) rfl ?_
  repeat' first
    | exact finB rfl
    | exact finI rfl
    | exact finP rfl
    | exact absurd rfl (by assumption)
    | simp only [go_sem, Nat.reduceAdd, Nat.reduceSub, Nat.reduceMul, Nat.reduceLT, Nat.reduceLeDiff, Nat.reduceEqDiff, Nat.reduceBEq, Nat.reduceBNe, Nat.reducePow, Int.reduceEq, Int.reduceNe, Int.reduceLT, Int.reduceLE, Int.reduceGT, Int.reduceGE, Int.reduceAdd, Int.reduceSub, Int.reduceNeg, Int.reduceMul, not_true_eq_false, not_false_eq_true, true_and, and_true, Int.reduceToNat]
    | (intro _)
    | refine brK_dec (fun _ => ?_) (fun _ => ?_)
    | refine brK_any ?_ ?_
    | refine gK_dec (fun _ => ?_) (fun _ => ?_)
    | refine gK_any ?_ ?_
    | refine gqK_dec (fun _ => ?_) (fun _ => ?_)
    | refine ⟨by omega, ?_⟩
    | refine elemHave (by omega) (by assumption) ?_
    | refine elemMap (by omega) (by omega) (fun x hx => ?_)
    | refine drawK mo (by kernel_rfl) ?_
    | (refine finBq rfl ?_; unfold inF; rw [List.any_eq_true.2 ⟨x, List.mem_of_getElem? hx, by simpa using (by assumption)⟩]; done)
    | (refine finBq rfl ?_; unfold inF; rw [List.any_eq_false.2 (fun d hd => by rw [take_full hpi (by omega) d hd]; simp)]; done)
    | exact loopFrH _ (by omega) ⟨i + 1, by omega, rfl, take_all hpi (by simpa using hx) (decide_eq_false (by assumption)), rfl⟩ (.next rfl (by omega) .nil) rfl
    | (refine loop_frH [4, 5, 6, 7, 8, 9, 10, 11, 12, 13, 14, 15, 16, 17, 18, 19, 20] (fun mm_ CC_ => ∃ (i : Nat), i ≤ n.Ins.length ∧ mm_ = n.Ins.length - i ∧ (∀ d ∈ n.Ins.take i, decide (d.Name = s) = false) ∧ CC_ = [(5, .raw (.int .i64 ((i : Nat) : Int)))]) (n.Ins.length) _ ⟨0, by omega, by omega, by simp, rfl⟩ (.cons rfl .nil) ?_; rintro mm_ CC_ ji ⟨i, hi, rfl, hpi, rfl⟩)
theorem flatN_len {l : List DEq} (h : ∀ q ∈ l, okEq q) : (l.flatMap DEq.Names).length ≤ 20 * l.length := by
  induction l with
  | nil => simp
  | cons e L ih =>
    have h1 := (h e List.mem_cons_self).1
    have h2 := ih fun x hx => h x (List.mem_cons_of_mem _ hx)
    rw [List.flatMap_cons, List.length_append, List.length_cons]
    omega
theorem flatN_take {l : List DEq} (k : Nat) : ((l.take k).flatMap DEq.Names).length ≤ (l.flatMap DEq.Names).length := by
  have : l.flatMap DEq.Names = (l.take k).flatMap DEq.Names ++ (l.drop k).flatMap DEq.Names := by rw [← List.flatMap_append, List.take_append_drop]
  rw [this]; simp
theorem cntN_step {l : List DEq} {i : Nat} {q : DEq} (s : ByteArray) (hq : l[i]? = some q) : cntL s ((l.take (i + 1)).flatMap DEq.Names) = cntL s ((l.take i).flatMap DEq.Names) + cntL s q.Names := by
  rw [flatMap_next _ hq, cntL_append]
theorem n93 : (Tryz.f93.name == "runtime.NumGoroutine") = false := by kernel_rfl
theorem defined93 (n : DNode) (hn : okNode n) (s : ByteArray) (k : Nat) (hk : k ≤ n.Eqs.length) : PCall Tryz.prog 93 [n.enc, .s s, .i (k : Int)] (.i (cntL s ((n.Eqs.take k).flatMap DEq.Names) : Nat)) := by
  have hfl := flatN_len hn.2.2.2.2.2
  have h4 := hn.2.2.2.1
  refine pcall_of_vc tabOK Tryz.func93 n93 rfl (by repeat' first | exact pure_nil | refine pure_cons ?_ ?_ | exact .raw _ | exact pure_enc _ | exact pure_lst _ | exact pure_strs _ | exact pure_ints _ | exact DTy.pure _ | exact DTy.pures _ | exact DEnum.pure _ | exact DEnum.pures _ | exact DDecl.pure _ | exact DDecl.pures _ | exact DEq.pure _ | exact DEq.pures _ | exact DNode.pure _ | exact DNode.pures _ | exact DProg.pure _ | exact DProg.pures _ | exact DCond.pure _ | exact DCond.pures _ | exact DAtom.pure _ | exact DAtom.pures _ | exact DPlain.pure _ | exact DPlain.pures _ | exact DFault.pure _ | exact DFault.pures _ | exact pure_list (fun x => DDecl.pures x) _ | exact .fn _ _ _ pure_nil pure_nil | refine .agg _ ?_ | refine .tup _ ?_ | assumption) (by repeat' first | exact pure_nil | refine pure_cons ?_ ?_ | exact .raw _ | exact pure_enc _ | exact pure_lst _ | exact pure_strs _ | exact pure_ints _ | exact DTy.pure _ | exact DTy.pures _ | exact DEnum.pure _ | exact DEnum.pures _ | exact DDecl.pure _ | exact DDecl.pures _ | exact DEq.pure _ | exact DEq.pures _ | exact DNode.pure _ | exact DNode.pures _ | exact DProg.pure _ | exact DProg.pures _ | exact DCond.pure _ | exact DCond.pures _ | exact DAtom.pure _ | exact DAtom.pures _ | exact DPlain.pure _ | exact DPlain.pures _ | exact DFault.pure _ | exact DFault.pures _ | exact pure_list (fun x => DDecl.pures x) _ | exact .fn _ _ _ pure_nil pure_nil | refine .agg _ ?_ | refine .tup _ ?_ | assumption) (n := 40) rfl (rs := [.tmp 6]) rfl ?_
  simp only [go_sem, Nat.reduceAdd, Nat.reduceSub, Nat.reduceMul, Nat.reduceLT, Nat.reduceLeDiff, Nat.reduceEqDiff, Nat.reduceBEq, Nat.reduceBNe, Nat.reducePow, Int.reduceEq, Int.reduceNe, Int.reduceLT, Int.reduceLE, Int.reduceGT, Int.reduceGE, Int.reduceAdd, Int.reduceSub, Int.reduceNeg, Int.reduceMul, not_true_eq_false, not_false_eq_true, true_and, and_true, Int.reduceToNat]
  refine loop_frH [7, 8, 9, 10, 11, 12, 13, 14, 15, 16, 17, 18, 19, 20, 21, 22, 23, 24, 25, 26, 27, 28, 29, 30, 31, 32, 33, 34, 35, 36, 37, 38] (fun m C => ∃ i : Nat, i ≤ k ∧ m = k - i ∧ C = [(8, .raw (.int .i64 (i : Nat))), (7, .raw (.int .i64 ((cntL s ((n.Eqs.take i).flatMap DEq.Names) : Nat) : Int)))]) k _ ⟨0, by omega, by omega, rfl⟩ (.cons rfl (.cons rfl .nil)) ?_
  rintro m C ja ⟨i, hi, rfl, rfl⟩
  simp only [go_sem, Nat.reduceAdd, Nat.reduceSub, Nat.reduceMul, Nat.reduceLT, Nat.reduceLeDiff, Nat.reduceEqDiff, Nat.reduceBEq, Nat.reduceBNe, Nat.reducePow, Int.reduceEq, Int.reduceNe, Int.reduceLT, Int.reduceLE, Int.reduceGT, Int.reduceGE, Int.reduceAdd, Int.reduceSub, Int.reduceNeg, Int.reduceMul, not_true_eq_false, not_false_eq_true, true_and, and_true, Int.reduceToNat]
  refine brK_dec (fun hlt => ?_) (fun hge => ?_)
  · obtain ⟨q, hq⟩ : ∃ q, n.Eqs[i]? = some q := ⟨_, List.getElem?_eq_getElem (by omega)⟩
    have hst := cntN_step s hq
    have hb := cntL_le s ((n.Eqs.take (i + 1)).flatMap DEq.Names)
    have hb2 := flatN_take (l := n.Eqs) (i + 1)
    have hq20 := (hn.2.2.2.2.2 q (List.mem_of_getElem? hq)).1
    simp only [go_sem, Nat.reduceAdd, Nat.reduceSub, Nat.reduceMul, Nat.reduceLT, Nat.reduceLeDiff, Nat.reduceEqDiff, Nat.reduceBEq, Nat.reduceBNe, Nat.reducePow, Int.reduceEq, Int.reduceNe, Int.reduceLT, Int.reduceLE, Int.reduceGT, Int.reduceGE, Int.reduceAdd, Int.reduceSub, Int.reduceNeg, Int.reduceMul, not_true_eq_false, not_false_eq_true, true_and, and_true, Int.reduceToNat]
    refine loop_frH [7, 9, 15, 16, 17, 18, 19, 20, 21, 22, 23, 24, 25, 26, 27, 28, 29, 30, 31, 32, 33, 34, 35, 36, 37, 38] (fun m C => ∃ j : Nat, j ≤ q.Names.length ∧ m = q.Names.length - j ∧ C = [(9, .raw (.int .i64 (j : Nat))), (7, .raw (.int .i64 ((cntL s ((n.Eqs.take i).flatMap DEq.Names) + cntL s (q.Names.take j) : Nat) : Int)))]) q.Names.length _ ⟨0, by omega, by omega, rfl⟩ (.cons rfl (.cons rfl .nil)) ?_
    rintro m C jb ⟨j, hj, rfl, rfl⟩
    simp only [go_sem, Nat.reduceAdd, Nat.reduceSub, Nat.reduceMul, Nat.reduceLT, Nat.reduceLeDiff, Nat.reduceEqDiff, Nat.reduceBEq, Nat.reduceBNe, Nat.reducePow, Int.reduceEq, Int.reduceNe, Int.reduceLT, Int.reduceLE, Int.reduceGT, Int.reduceGE, Int.reduceAdd, Int.reduceSub, Int.reduceNeg, Int.reduceMul, not_true_eq_false, not_false_eq_true, true_and, and_true, Int.reduceToNat]
    refine elemHave (by omega) hq ?_
    simp only [go_sem, Nat.reduceAdd, Nat.reduceSub, Nat.reduceMul, Nat.reduceLT, Nat.reduceLeDiff, Nat.reduceEqDiff, Nat.reduceBEq, Nat.reduceBNe, Nat.reducePow, Int.reduceEq, Int.reduceNe, Int.reduceLT, Int.reduceLE, Int.reduceGT, Int.reduceGE, Int.reduceAdd, Int.reduceSub, Int.reduceNeg, Int.reduceMul, not_true_eq_false, not_false_eq_true, true_and, and_true, Int.reduceToNat]
    intro _
    refine brK_dec (fun hlt2 => ?_) (fun hge2 => ?_)
    · have hc := cntL_take (s := s) (l := q.Names) (k := j) (by omega)
      have hc2 := cntL_take_le s q.Names (j + 1)
      simp only [go_sem, Nat.reduceAdd, Nat.reduceSub, Nat.reduceMul, Nat.reduceLT, Nat.reduceLeDiff, Nat.reduceEqDiff, Nat.reduceBEq, Nat.reduceBNe, Nat.reducePow, Int.reduceEq, Int.reduceNe, Int.reduceLT, Int.reduceLE, Int.reduceGT, Int.reduceGE, Int.reduceAdd, Int.reduceSub, Int.reduceNeg, Int.reduceMul, not_true_eq_false, not_false_eq_true, true_and, and_true, Int.reduceToNat]
      refine elemHave (by omega) hq ?_
      simp only [go_sem, Nat.reduceAdd, Nat.reduceSub, Nat.reduceMul, Nat.reduceLT, Nat.reduceLeDiff, Nat.reduceEqDiff, Nat.reduceBEq, Nat.reduceBNe, Nat.reducePow, Int.reduceEq, Int.reduceNe, Int.reduceLT, Int.reduceLE, Int.reduceGT, Int.reduceGE, Int.reduceAdd, Int.reduceSub, Int.reduceNeg, Int.reduceMul, not_true_eq_false, not_false_eq_true, true_and, and_true, Int.reduceToNat]
      refine elemMap (by omega) (by omega) (fun x hx => ?_)
      have hxe : q.Names[j]'(by omega) = x := by
        have h := List.getElem?_eq_some_iff.1 hx
        obtain ⟨_, h⟩ := h
        simpa using h
      rw [hxe] at hc
      simp only [go_sem, Nat.reduceAdd, Nat.reduceSub, Nat.reduceMul, Nat.reduceLT, Nat.reduceLeDiff, Nat.reduceEqDiff, Nat.reduceBEq, Nat.reduceBNe, Nat.reducePow, Int.reduceEq, Int.reduceNe, Int.reduceLT, Int.reduceLE, Int.reduceGT, Int.reduceGE, Int.reduceAdd, Int.reduceSub, Int.reduceNeg, Int.reduceMul, not_true_eq_false, not_false_eq_true, true_and, and_true, Int.reduceToNat]
      refine brK_dec (fun he => ?_) (fun he => ?_)
      · rw [if_pos he] at hc
        simp only [go_sem, Nat.reduceAdd, Nat.reduceSub, Nat.reduceMul, Nat.reduceLT, Nat.reduceLeDiff, Nat.reduceEqDiff, Nat.reduceBEq, Nat.reduceBNe, Nat.reducePow, Int.reduceEq, Int.reduceNe, Int.reduceLT, Int.reduceLE, Int.reduceGT, Int.reduceGE, Int.reduceAdd, Int.reduceSub, Int.reduceNeg, Int.reduceMul, not_true_eq_false, not_false_eq_true, true_and, and_true, Int.reduceToNat]
        rw [wrap_in _ (by omega) (by omega)]
        exact loopFrH _ (by omega) ⟨j + 1, by omega, rfl, rfl⟩ (.next rfl (by omega) (.cons (by rw [hc]; simp; omega) .nil)) rfl
      · rw [if_neg he] at hc
        simp only [go_sem, Nat.reduceAdd, Nat.reduceSub, Nat.reduceMul, Nat.reduceLT, Nat.reduceLeDiff, Nat.reduceEqDiff, Nat.reduceBEq, Nat.reduceBNe, Nat.reducePow, Int.reduceEq, Int.reduceNe, Int.reduceLT, Int.reduceLE, Int.reduceGT, Int.reduceGE, Int.reduceAdd, Int.reduceSub, Int.reduceNeg, Int.reduceMul, not_true_eq_false, not_false_eq_true, true_and, and_true, Int.reduceToNat]
        exact loopFrH _ (by omega) ⟨j + 1, by omega, rfl, rfl⟩ (.next rfl (by omega) (.cons (by rw [hc]; rfl) .nil)) rfl
    · have hjl : j = q.Names.length := by omega
      subst hjl
      simp only [go_sem, Nat.reduceAdd, Nat.reduceSub, Nat.reduceMul, Nat.reduceLT, Nat.reduceLeDiff, Nat.reduceEqDiff, Nat.reduceBEq, Nat.reduceBNe, Nat.reducePow, Int.reduceEq, Int.reduceNe, Int.reduceLT, Int.reduceLE, Int.reduceGT, Int.reduceGE, Int.reduceAdd, Int.reduceSub, Int.reduceNeg, Int.reduceMul, not_true_eq_false, not_false_eq_true, true_and, and_true, Int.reduceToNat]
      exact loopFrH _ (by omega) ⟨i + 1, by omega, rfl, rfl⟩ (.next rfl (by omega) (.cons (by rw [hst, List.take_length]; rfl) .nil)) rfl
  · have hik : i = k := by omega
    subst hik
    simp only [go_sem, Nat.reduceAdd, Nat.reduceSub, Nat.reduceMul, Nat.reduceLT, Nat.reduceLeDiff, Nat.reduceEqDiff, Nat.reduceBEq, Nat.reduceBNe, Nat.reducePow, Int.reduceEq, Int.reduceNe, Int.reduceLT, Int.reduceLE, Int.reduceGT, Int.reduceGE, Int.reduceAdd, Int.reduceSub, Int.reduceNeg, Int.reduceMul, not_true_eq_false, not_false_eq_true, true_and, and_true, Int.reduceToNat]
    exact finIq rfl rfl
theorem n143 : (Tryz.f143.name == "runtime.NumGoroutine") = false := by kernel_rfl
theorem part143 (p : DProg) (j : Nat) (n : DNode) (hj : p.Nodes[j]? = some n) (hl : (allV n).length ≤ 60) (e : Ex) : PCall Tryz.prog 143 [p.enc, .i (j : Int), e.enc] (.b (leadsF p (j : Int) n e)) := by
  refine pcall_of_vc tabOK Tryz.func143 n143 rfl (by repeat' first | exact pure_nil | refine pure_cons ?_ ?_ | exact .raw _ | exact pure_enc _ | exact pure_lst _ | exact pure_strs _ | exact pure_ints _ | exact DTy.pure _ | exact DTy.pures _ | exact DEnum.pure _ | exact DEnum.pures _ | exact DDecl.pure _ | exact DDecl.pures _ | exact DEq.pure _ | exact DEq.pures _ | exact DNode.pure _ | exact DNode.pures _ | exact DProg.pure _ | exact DProg.pures _ | exact DCond.pure _ | exact DCond.pures _ | exact DAtom.pure _ | exact DAtom.pures _ | exact DPlain.pure _ | exact DPlain.pures _ | exact DFault.pure _ | exact DFault.pures _ | exact pure_list (fun x => DDecl.pures x) _ | exact .fn _ _ _ pure_nil pure_nil | refine .agg _ ?_ | refine .tup _ ?_ | assumption) (by repeat' first | exact pure_nil | refine pure_cons ?_ ?_ | exact .raw _ | exact pure_enc _ | exact pure_lst _ | exact pure_strs _ | exact pure_ints _ | exact DTy.pure _ | exact DTy.pures _ | exact DEnum.pure _ | exact DEnum.pures _ | exact DDecl.pure _ | exact DDecl.pures _ | exact DEq.pure _ | exact DEq.pures _ | exact DNode.pure _ | exact DNode.pures _ | exact DProg.pure _ | exact DProg.pures _ | exact DCond.pure _ | exact DCond.pures _ | exact DAtom.pure _ | exact DAtom.pures _ | exact DPlain.pure _ | exact DPlain.pures _ | exact DFault.pure _ | exact DFault.pures _ | exact pure_list (fun x => DDecl.pures x) _ | exact .fn _ _ _ pure_nil pure_nil | refine .agg _ ?_ | refine .tup _ ?_ | assumption) (n := 74) rfl (rs := [.tmp 6]) rfl ?_
  repeat' first
    | exact finB rfl
    | exact finI rfl
    | exact finP rfl
    | exact absurd rfl (by assumption)
    | simp only [go_sem, Nat.reduceAdd, Nat.reduceSub, Nat.reduceMul, Nat.reduceLT, Nat.reduceLeDiff, Nat.reduceEqDiff, Nat.reduceBEq, Nat.reduceBNe, Nat.reducePow, Int.reduceEq, Int.reduceNe, Int.reduceLT, Int.reduceLE, Int.reduceGT, Int.reduceGE, Int.reduceAdd, Int.reduceSub, Int.reduceNeg, Int.reduceMul, not_true_eq_false, not_false_eq_true, true_and, and_true, Int.reduceToNat]
    | (intro _)
    | refine brK_dec (fun _ => ?_) (fun _ => ?_)
    | refine brK_split (fun hb_ => ?_) (fun hb_ => ?_)
    | refine gK_dec (fun _ => ?_) (fun _ => ?_)
    | refine gK_split (fun hb_ => ?_) (fun hb_ => ?_)
    | refine gqK_dec (fun _ => ?_) (fun _ => ?_)
    | refine ⟨by omega, ?_⟩
    | refine elemHave (by omega) (by assumption) ?_
    | refine elemMap (by omega) (by omega) (fun x hx => ?_)
    | refine drawK mo (by kernel_rfl) ?_
    | (exfalso; omega)
    | (refine elemHave (by omega) hj ?_)
    | (refine PCall.call (is90 n e.name hl) ?_; generalize hix : isF n e.name = b; cases b)
    | (refine pcK_of (armX15 p x) ?_; generalize hax : armOk p.Enums x = b; cases b)
    | (refine PCall.call (armX15 p e.name) ?_)
    | (refine PCall.call (find24 p e.name) ?_)
    | (refine finBq rfl ?_; unfold leadsF; rw [List.all_eq_false.2 ⟨x, List.mem_of_getElem? hx, by simp [hax]⟩]; rfl)
    | (refine finBq rfl ?_; unfold leadsF; rw [if_pos (by omega), hix]; simp; done)
    | (have hall := List.all_eq_true.2 (take_full hpi (by omega)); refine finBq rfl ?_; unfold leadsF; rw [hall]; simp [*]; done)
    | (have hall := List.all_eq_true.2 (take_full hpi (by omega)); refine finBq rfl ?_; unfold leadsF; rw [hall]; simp [*]; omega)
    | exact loopFrH _ (by omega) ⟨i + 1, by omega, rfl, take_all hpi (by simpa using hx) hax, rfl⟩ (.next rfl (by omega) .nil) rfl
    | (refine loop_frH [6, 8, 35, 36, 37, 38, 39, 40, 41, 42, 43, 44, 45, 46, 47, 48, 49] (fun mm_ CC_ => ∃ (i : Nat), i ≤ e.arms.length ∧ mm_ = e.arms.length - i ∧ (∀ s ∈ e.arms.take i, armOk p.Enums s = true) ∧ CC_ = [(8, .raw (.int .i64 ((i : Nat) : Int)))]) (e.arms.length) _ ⟨0, by omega, by omega, by simp, rfl⟩ (.cons rfl .nil) ?_; rintro mm_ CC_ ji ⟨i, hi, rfl, hpi, rfl⟩)
end Go.Proofs.YtipcmpkihhfhcaaGreatDoor

namespace Go.Proofs.YtipcmpkihhfhcaaGreatDoor
open Go.Abs
set_option maxRecDepth 20000
set_option linter.unusedSimpArgs false
set_option linter.unusedVariables false
set_option maxHeartbeats 1000000
attribute [local irreducible] vc vcOps vcStep vcGuard prK hrK gK gsK brK callK ElemK SeqK BlockK ScopeK OpsK CallK LoopK LoopGo finPost ACall PCall PCallE BCall vqOps vqStep vqGuard qrK heK pcK gqK gqsK QOpsK qcallK DrawK
theorem eqErr_n {p : DProg} {a : Int} {n : DNode} {D : List ByteArray} {q : DEq} {E : Int} (h : namesErr n D q.Names = E) (hE : ¬ E = 0) : eqErr p a n D q = E := by
  subst h
  unfold eqErr
  rw [if_neg hE]
theorem eqErr_p {p : DProg} {a : Int} {n : DNode} {D : List ByteArray} {q : DEq} (h : namesErr n D q.Names = 0) {b : Bool} (hb : (parts q.E).all (leadsF p a n) = b) : eqErr p a n D q = if b = true then 0 else 5 := by
  unfold eqErr
  rw [if_pos h, hb]
theorem cnt_no {s : ByteArray} {l : List ByteArray} (h : ¬ ((cntL s l : Nat) : Int) > 0) : s ∉ l := fun hm => by have := cntL_mem hm; omega
theorem cnt_yes {s : ByteArray} {l : List ByteArray} (h : ((cntL s l : Nat) : Int) > 0) : s ∈ l := by
  by_cases q : s ∈ l
  · exact q
  · have := cntL_zero q; omega
theorem not_both {s : ByteArray} {D l : List ByteArray} {k jj : Nat} (h1 : ¬ ((cntL s D : Nat) : Int) > 0) (h2 : ∀ x, l[k]? = some x → x ∉ l.take jj) (hs : l[((k : Nat) : Int).toNat]? = some s) (hk : jj = k) : s ∉ D ++ l.take k := by
  rw [List.mem_append]
  rintro (h | h)
  · exact cnt_no h1 h
  · subst hk; exact h2 s (by simpa using hs) h
theorem n92 : (Tryz.f92.name == "runtime.NumGoroutine") = false := by kernel_rfl
theorem eq92 (p : DProg) (j : Nat) (n : DNode) (hj : p.Nodes[j]? = some n) (hn : okNode n) (i : Nat) (q : DEq) (hq : n.Eqs[i]? = some q) : PCall Tryz.prog 92 [p.enc, .i (j : Int), .i (i : Int)] (.i (eqErr p (j : Int) n ((n.Eqs.take i).flatMap DEq.Names) q)) := by
  have hl := okN_lenX hn
  have hqo := hn.2.2.2.2.2 q (List.mem_of_getElem? hq)
  have hpl := hqo.2.1.1
  have hil : i < n.Eqs.length := (List.getElem?_eq_some_iff.1 hq).1
  generalize hD : (n.Eqs.take i).flatMap DEq.Names = D
  refine pcall_of_vc tabOK Tryz.func92 n92 rfl (by repeat' first | exact pure_nil | refine pure_cons ?_ ?_ | exact .raw _ | exact pure_enc _ | exact pure_lst _ | exact pure_strs _ | exact pure_ints _ | exact DTy.pure _ | exact DTy.pures _ | exact DEnum.pure _ | exact DEnum.pures _ | exact DDecl.pure _ | exact DDecl.pures _ | exact DEq.pure _ | exact DEq.pures _ | exact DNode.pure _ | exact DNode.pures _ | exact DProg.pure _ | exact DProg.pures _ | exact DCond.pure _ | exact DCond.pures _ | exact DAtom.pure _ | exact DAtom.pures _ | exact DPlain.pure _ | exact DPlain.pures _ | exact DFault.pure _ | exact DFault.pures _ | exact pure_list (fun x => DDecl.pures x) _ | exact .fn _ _ _ pure_nil pure_nil | refine .agg _ ?_ | refine .tup _ ?_ | assumption) (by repeat' first | exact pure_nil | refine pure_cons ?_ ?_ | exact .raw _ | exact pure_enc _ | exact pure_lst _ | exact pure_strs _ | exact pure_ints _ | exact DTy.pure _ | exact DTy.pures _ | exact DEnum.pure _ | exact DEnum.pures _ | exact DDecl.pure _ | exact DDecl.pures _ | exact DEq.pure _ | exact DEq.pures _ | exact DNode.pure _ | exact DNode.pures _ | exact DProg.pure _ | exact DProg.pures _ | exact DCond.pure _ | exact DCond.pures _ | exact DAtom.pure _ | exact DAtom.pures _ | exact DPlain.pure _ | exact DPlain.pures _ | exact DFault.pure _ | exact DFault.pures _ | exact pure_list (fun x => DDecl.pures x) _ | exact .fn _ _ _ pure_nil pure_nil | refine .agg _ ?_ | refine .tup _ ?_ | assumption) (n := 89) rfl (rs := [.tmp 6]) rfl ?_
  repeat' first
    | exact finB rfl
    | exact finI rfl
    | exact finP rfl
    | exact absurd rfl (by assumption)
    | simp only [go_sem, Nat.reduceAdd, Nat.reduceSub, Nat.reduceMul, Nat.reduceLT, Nat.reduceLeDiff, Nat.reduceEqDiff, Nat.reduceBEq, Nat.reduceBNe, Nat.reducePow, Int.reduceEq, Int.reduceNe, Int.reduceLT, Int.reduceLE, Int.reduceGT, Int.reduceGE, Int.reduceAdd, Int.reduceSub, Int.reduceNeg, Int.reduceMul, not_true_eq_false, not_false_eq_true, true_and, and_true, Int.reduceToNat]
    | (intro _)
    | refine brK_dec (fun _ => ?_) (fun _ => ?_)
    | refine brK_split (fun hb_ => ?_) (fun hb_ => ?_)
    | refine gK_dec (fun _ => ?_) (fun _ => ?_)
    | refine gK_split (fun hb_ => ?_) (fun hb_ => ?_)
    | refine gqK_dec (fun _ => ?_) (fun _ => ?_)
    | refine ⟨by omega, ?_⟩
    | refine elemHave (by omega) (by assumption) ?_
    | ((fail_if_success (clear hy)); refine elemMap (by omega) (by omega) (fun y hy => ?_))
    | refine elemMap (by omega) (by omega) (fun x hx => ?_)
    | refine drawK mo (by kernel_rfl) ?_
    | (exfalso; omega)
    | (refine elemHave (by omega) hj ?_)
    | (refine elemHave (by omega) hq ?_)
    | (refine PCall.call (parts_spec q.E (by omega)) ?_)
    | (refine pcK_of (is90 n y hl) ?_; generalize hiy : isF n y = b; cases b)
    | (refine pcK_of (input142 n y) ?_; generalize hny : inF n y = b; cases b)
    | (refine pcK_of (defined93 n hn y i (by omega)) ?_; rw [hD])
    | (refine pcK_of (part143 p j n hj hl y) ?_; generalize hpy : leadsF p (j : Int) n y = b; cases b)
    | (have e5 := names_5 hpk hy hiy; exact finIq rfl ((eqErr_n rfl (by omega)).trans e5).symm)
    | (have e6 := names_6 hpk hy hiy (.inl hny); exact finIq rfl ((eqErr_n rfl (by omega)).trans e6).symm)
    | (have e6 := names_6 hpk hy hiy (.inr (List.mem_append_left _ (cnt_yes (by assumption)))); exact finIq rfl ((eqErr_n rfl (by omega)).trans e6).symm)
    | (have e6 := names_6 hpk hy hiy (.inr (List.mem_append_right _ (mem_take hx (by omega) (by assumption)))); exact finIq rfl ((eqErr_n rfl (by omega)).trans e6).symm)
    | (have e0 := names_0 hpk (by omega); exact finIq rfl (eqErr_p e0 (List.all_eq_false.2 ⟨y, List.mem_of_getElem? hy, by simp [hpy]⟩)).symm)
    | (have e0 := names_0 hpk (by omega); exact finIq rfl (eqErr_p e0 (List.all_eq_true.2 (take_full hpm (by omega)))).symm)
    | exact loopFrH _ (by omega) ⟨k + 1, by omega, rfl, names_next hpk hy hiy hny (not_both (by assumption) hpjj hy (by omega)), rfl⟩ (.next rfl (by omega) .nil) rfl
    | (refine loop_frH [6, 9, 10, 23, 24, 25, 26, 27, 28, 29, 30, 31, 32, 33, 34, 35, 36, 37, 38, 39, 40, 41, 42, 43, 44, 45, 46, 47, 48, 49, 50, 51, 52, 53, 54, 55, 56, 57, 58, 59, 60, 61, 62, 63, 64, 65, 66, 67, 68, 69, 70, 71] (fun mm_ CC_ => ∃ (k : Nat), k ≤ q.Names.length ∧ mm_ = q.Names.length - k ∧ (namesErr n (D ++ q.Names.take k) (q.Names.drop k) = namesErr n D q.Names) ∧ CC_ = [(9, .raw (.int .i64 ((k : Nat) : Int)))]) (q.Names.length) _ ⟨0, by omega, by omega, by simp, rfl⟩ (.cons rfl .nil) ?_; rintro mm_ CC_ jk ⟨k, hk, rfl, hpk, rfl⟩)
    | exact loopFrH _ (by omega) ⟨jj + 1, by omega, rfl, ostep hpjj hy hx (by assumption), rfl⟩ (.next rfl (by omega) .nil) rfl
    | (refine loop_frH [6, 10, 56, 57, 58, 59, 60, 61, 62, 63, 64, 65, 66, 67, 68, 69, 70, 71] (fun mm_ CC_ => ∃ (jj : Nat), jj ≤ k ∧ mm_ = k - jj ∧ (∀ x, q.Names[k]? = some x → x ∉ q.Names.take jj) ∧ CC_ = [(10, .raw (.int .i64 ((jj : Nat) : Int)))]) (k) _ ⟨0, by omega, by omega, by simp, rfl⟩ (.cons rfl .nil) ?_; rintro mm_ CC_ jjj ⟨jj, hjj, rfl, hpjj, rfl⟩)
    | exact loopFrH _ (by omega) ⟨m + 1, by omega, rfl, take_all hpm (by simpa using hy) hpy, rfl⟩ (.next rfl (by omega) .nil) rfl
    | (refine loop_frH [6, 12, 75, 76, 77, 78, 79, 80, 81, 82, 83, 84, 85, 86, 87, 88] (fun mm_ CC_ => ∃ (m : Nat), m ≤ (parts q.E).length ∧ mm_ = (parts q.E).length - m ∧ (∀ z ∈ (parts q.E).take m, leadsF p (j : Int) n z = true) ∧ CC_ = [(12, .raw (.int .i64 ((m : Nat) : Int)))]) ((parts q.E).length) _ ⟨0, by omega, by omega, by simp, rfl⟩ (.cons rfl .nil) ?_; rintro mm_ CC_ jm ⟨m, hm, rfl, hpm, rfl⟩)
end Go.Proofs.YtipcmpkihhfhcaaGreatDoor

namespace Go.Proofs.YtipcmpkihhfhcaaGreatDoor
open Go.Abs
set_option maxRecDepth 20000
set_option linter.unusedSimpArgs false
set_option linter.unusedVariables false
set_option maxHeartbeats 1000000
attribute [local irreducible] vc vcOps vcStep vcGuard prK hrK gK gsK brK callK ElemK SeqK BlockK ScopeK OpsK CallK LoopK LoopGo finPost ACall PCall PCallE BCall vqOps vqStep vqGuard qrK heK pcK gqK gqsK QOpsK qcallK DrawK
theorem n47 : (Tryz.f47.name == "runtime.NumGoroutine") = false := by kernel_rfl
theorem fault47 (a b c : Int) : PCall Tryz.prog 47 [.i a, .i b, .i c] (DFault.enc ⟨a, b, c⟩) := by
  refine pcall_of_vc tabOK Tryz.func47 n47 rfl (by repeat' first | exact pure_nil | refine pure_cons ?_ ?_ | exact .raw _ | exact pure_enc _ | exact pure_lst _ | exact pure_strs _ | exact pure_ints _ | exact DTy.pure _ | exact DTy.pures _ | exact DEnum.pure _ | exact DEnum.pures _ | exact DDecl.pure _ | exact DDecl.pures _ | exact DEq.pure _ | exact DEq.pures _ | exact DNode.pure _ | exact DNode.pures _ | exact DProg.pure _ | exact DProg.pures _ | exact DCond.pure _ | exact DCond.pures _ | exact DAtom.pure _ | exact DAtom.pures _ | exact DPlain.pure _ | exact DPlain.pures _ | exact DFault.pure _ | exact DFault.pures _ | exact pure_list (fun x => DDecl.pures x) _ | exact .fn _ _ _ pure_nil pure_nil | refine .agg _ ?_ | refine .tup _ ?_ | assumption) (by repeat' first | exact pure_nil | refine pure_cons ?_ ?_ | exact .raw _ | exact pure_enc _ | exact pure_lst _ | exact pure_strs _ | exact pure_ints _ | exact DTy.pure _ | exact DTy.pures _ | exact DEnum.pure _ | exact DEnum.pures _ | exact DDecl.pure _ | exact DDecl.pures _ | exact DEq.pure _ | exact DEq.pures _ | exact DNode.pure _ | exact DNode.pures _ | exact DProg.pure _ | exact DProg.pures _ | exact DCond.pure _ | exact DCond.pures _ | exact DAtom.pure _ | exact DAtom.pures _ | exact DPlain.pure _ | exact DPlain.pures _ | exact DFault.pure _ | exact DFault.pures _ | exact pure_list (fun x => DDecl.pures x) _ | exact .fn _ _ _ pure_nil pure_nil | refine .agg _ ?_ | refine .tup _ ?_ | assumption) (n := 11) rfl (rs := [.cell 6 33]) rfl ?_
  simp only [go_sem, Nat.reduceAdd, Nat.reduceSub, Nat.reduceMul, Nat.reduceLT, Nat.reduceLeDiff, Nat.reduceEqDiff, Nat.reduceBEq, Nat.reduceBNe, Nat.reducePow, Int.reduceEq, Int.reduceNe, Int.reduceLT, Int.reduceLE, Int.reduceGT, Int.reduceGE, Int.reduceAdd, Int.reduceSub, Int.reduceNeg, Int.reduceMul, not_true_eq_false, not_false_eq_true, true_and, and_true, Int.reduceToNat]
  rw [DFault.enc_eq]
  exact ⟨_, rfl, false, .refl _⟩
theorem faultX_err {p : DProg} {a : Int} {n : DNode} (h : (allV n).all (clockedF p.Enums n) = false) : nodeFault p a n = ⟨a, -1, 5⟩ := by unfold nodeFault; rw [if_neg (by rw [h]; simp)]
theorem faultX_eq {p : DProg} {a : Int} {n : DNode} {e : Int × Int} (h : (allV n).all (clockedF p.Enums n) = true) (he : eqsErr p a n 0 [] n.Eqs = e) (h2 : ¬ e.2 = 0) : nodeFault p a n = ⟨a, e.1, e.2⟩ := by unfold nodeFault; rw [if_pos h, he, if_neg h2]
theorem faultX_def {p : DProg} {a : Int} {n : DNode} {e : Int × Int} (h : (allV n).all (clockedF p.Enums n) = true) (he : eqsErr p a n 0 [] n.Eqs = e) (h2 : e.2 = 0) {b : Bool} (hb : allDef n = b) : nodeFault p a n = if b = true then ⟨0, 0, 0⟩ else ⟨a, -1, 5⟩ := by unfold nodeFault; rw [if_pos h, he, if_pos h2, hb]
theorem clk_no {L : List DEnum} {n : DNode} {d : DDecl} (h1 : ¬ d.On = ⟨#[]⟩) (h2 : isF n d.On = false ∨ armOk L d.Ctor = false) : clockedF L n d = false := by
  unfold clockedF
  rw [decide_eq_false h1]
  rcases h2 with h2 | h2 <;> simp [h2]
theorem clk_yes {L : List DEnum} {n : DNode} {d : DDecl} (h2 : d.On = ⟨#[]⟩ ∨ (isF n d.On = true ∧ armOk L d.Ctor = true)) : clockedF L n d = true := by
  unfold clockedF
  rcases h2 with h2 | h2
  · rw [decide_eq_true h2]; rfl
  · simp [h2.1, h2.2]
theorem rest_at {n : DNode} {i : Nat} {d : DDecl} (h : (allV n)[i]? = some d) (hi : n.Ins.length ≤ i) : (n.Outs ++ n.Vars)[i - n.Ins.length]? = some d := by
  have e : allV n = n.Ins ++ (n.Outs ++ n.Vars) := by simp [allV]
  rw [e, List.getElem?_append_right hi] at h
  exact h
theorem n50 : (Tryz.f50.name == "runtime.NumGoroutine") = false := by kernel_rfl
theorem node50 (p : DProg) (j : Nat) (n : DNode) (hj : p.Nodes[j]? = some n) (hn : okNode n) : PCall Tryz.prog 50 [p.enc, .i (j : Int)] (nodeFault p (j : Int) n).enc := by
  have hl := okN_lenX hn
  have h4 := hn.2.2.2.1
  have hlen : (allV n).length = n.Ins.length + (n.Outs ++ n.Vars).length := by simp [allV]
  refine pcall_of_vc tabOK Tryz.func50 n50 rfl (by repeat' first | exact pure_nil | refine pure_cons ?_ ?_ | exact .raw _ | exact pure_enc _ | exact pure_lst _ | exact pure_strs _ | exact pure_ints _ | exact DTy.pure _ | exact DTy.pures _ | exact DEnum.pure _ | exact DEnum.pures _ | exact DDecl.pure _ | exact DDecl.pures _ | exact DEq.pure _ | exact DEq.pures _ | exact DNode.pure _ | exact DNode.pures _ | exact DProg.pure _ | exact DProg.pures _ | exact DCond.pure _ | exact DCond.pures _ | exact DAtom.pure _ | exact DAtom.pures _ | exact DPlain.pure _ | exact DPlain.pures _ | exact DFault.pure _ | exact DFault.pures _ | exact pure_list (fun x => DDecl.pures x) _ | exact .fn _ _ _ pure_nil pure_nil | refine .agg _ ?_ | refine .tup _ ?_ | assumption) (by repeat' first | exact pure_nil | refine pure_cons ?_ ?_ | exact .raw _ | exact pure_enc _ | exact pure_lst _ | exact pure_strs _ | exact pure_ints _ | exact DTy.pure _ | exact DTy.pures _ | exact DEnum.pure _ | exact DEnum.pures _ | exact DDecl.pure _ | exact DDecl.pures _ | exact DEq.pure _ | exact DEq.pures _ | exact DNode.pure _ | exact DNode.pures _ | exact DProg.pure _ | exact DProg.pures _ | exact DCond.pure _ | exact DCond.pures _ | exact DAtom.pure _ | exact DAtom.pures _ | exact DPlain.pure _ | exact DPlain.pures _ | exact DFault.pure _ | exact DFault.pures _ | exact pure_list (fun x => DDecl.pures x) _ | exact .fn _ _ _ pure_nil pure_nil | refine .agg _ ?_ | refine .tup _ ?_ | assumption) (n := 92) rfl (rs := [.cell 4 33]) rfl ?_
  simp only [go_sem, Nat.reduceAdd, Nat.reduceSub, Nat.reduceMul, Nat.reduceLT, Nat.reduceLeDiff, Nat.reduceEqDiff, Nat.reduceBEq, Nat.reduceBNe, Nat.reducePow, Int.reduceEq, Int.reduceNe, Int.reduceLT, Int.reduceLE, Int.reduceGT, Int.reduceGE, Int.reduceAdd, Int.reduceSub, Int.reduceNeg, Int.reduceMul, not_true_eq_false, not_false_eq_true, true_and, and_true, Int.reduceToNat]
  refine elemHave (by omega) hj ?_
  simp only [go_sem, Nat.reduceAdd, Nat.reduceSub, Nat.reduceMul, Nat.reduceLT, Nat.reduceLeDiff, Nat.reduceEqDiff, Nat.reduceBEq, Nat.reduceBNe, Nat.reducePow, Int.reduceEq, Int.reduceNe, Int.reduceLT, Int.reduceLE, Int.reduceGT, Int.reduceGE, Int.reduceAdd, Int.reduceSub, Int.reduceNeg, Int.reduceMul, not_true_eq_false, not_false_eq_true, true_and, and_true, Int.reduceToNat]
  refine PCall.call (all66 n (by omega)) ?_
  simp only [go_sem, Nat.reduceAdd, Nat.reduceSub, Nat.reduceMul, Nat.reduceLT, Nat.reduceLeDiff, Nat.reduceEqDiff, Nat.reduceBEq, Nat.reduceBNe, Nat.reducePow, Int.reduceEq, Int.reduceNe, Int.reduceLT, Int.reduceLE, Int.reduceGT, Int.reduceGE, Int.reduceAdd, Int.reduceSub, Int.reduceNeg, Int.reduceMul, not_true_eq_false, not_false_eq_true, true_and, and_true, Int.reduceToNat]
  refine loop_frH [7, 18, 19, 20, 21, 22, 23, 24, 25, 26, 27, 28, 29, 30, 31, 32, 33, 34, 35, 36, 37, 38, 39, 40, 41, 42, 43, 44, 45, 46, 47, 48, 49, 50, 51] (fun m C => ∃ i : Nat, i ≤ (allV n).length ∧ m = (allV n).length - i ∧ (∀ d ∈ (allV n).take i, clockedF p.Enums n d = true) ∧ C = [(7, .raw (.int .i64 (i : Nat)))]) (allV n).length _ ⟨0, by omega, by omega, by simp, rfl⟩ (.cons rfl .nil) ?_
  rintro m C ja ⟨i, hi, rfl, hp, rfl⟩
  simp only [go_sem, Nat.reduceAdd, Nat.reduceSub, Nat.reduceMul, Nat.reduceLT, Nat.reduceLeDiff, Nat.reduceEqDiff, Nat.reduceBEq, Nat.reduceBNe, Nat.reducePow, Int.reduceEq, Int.reduceNe, Int.reduceLT, Int.reduceLE, Int.reduceGT, Int.reduceGE, Int.reduceAdd, Int.reduceSub, Int.reduceNeg, Int.reduceMul, not_true_eq_false, not_false_eq_true, true_and, and_true, Int.reduceToNat]
  intro _
  refine brK_dec (fun hlt => ?_) (fun hge => ?_)
  · obtain ⟨d, hd⟩ : ∃ d, (allV n)[i]? = some d := ⟨_, List.getElem?_eq_getElem (by omega)⟩
    repeat' first
      | (exfalso; omega)
      | simp only [go_sem, Nat.reduceAdd, Nat.reduceSub, Nat.reduceMul, Nat.reduceLT, Nat.reduceLeDiff, Nat.reduceEqDiff, Nat.reduceBEq, Nat.reduceBNe, Nat.reducePow, Int.reduceEq, Int.reduceNe, Int.reduceLT, Int.reduceLE, Int.reduceGT, Int.reduceGE, Int.reduceAdd, Int.reduceSub, Int.reduceNeg, Int.reduceMul, not_true_eq_false, not_false_eq_true, true_and, and_true, Int.reduceToNat]
      | (intro _)
      | refine brK_dec (fun _ => ?_) (fun _ => ?_)
      | refine gqK_dec (fun _ => ?_) (fun _ => ?_)
      | refine elemHave (by omega) hd ?_
      | refine drawK mo (by kernel_rfl) ?_
      | (refine pcK_of (is90 n d.On hl) ?_; generalize hix : isF n d.On = b; cases b)
      | (refine pcK_of (armX15 p d.Ctor) ?_; generalize hax : armOk p.Enums d.Ctor = b; cases b)
      | (refine PCall.call (fault47 _ _ _) ?_)
      | (have hz : ¬ d.On = ⟨#[]⟩ := (by assumption); have hc := clk_no (L := p.Enums) (n := n) (d := d) hz (.inl hix); rw [faultX_err (List.all_eq_false.2 ⟨d, List.mem_of_getElem? hd, by simp [hc]⟩)]; exact ⟨_, rfl, false, by rw [DFault.enc_eq]; exact .refl _⟩)
      | (have hz : ¬ d.On = ⟨#[]⟩ := (by assumption); have hc := clk_no (L := p.Enums) (n := n) (d := d) hz (.inr hax); rw [faultX_err (List.all_eq_false.2 ⟨d, List.mem_of_getElem? hd, by simp [hc]⟩)]; exact ⟨_, rfl, false, by rw [DFault.enc_eq]; exact .refl _⟩)
      | (have hc := clk_yes (L := p.Enums) (n := n) (d := d) (.inr ⟨hix, hax⟩); exact loopFrH _ (by omega) ⟨i + 1, by omega, rfl, take_all hp hd hc, rfl⟩ (.next rfl (by omega) .nil) rfl)
      | (have hz : d.On = ⟨#[]⟩ := (by first | assumption | exact Classical.not_not.1 (by assumption)); have hc := clk_yes (L := p.Enums) (n := n) (d := d) (.inl hz); exact loopFrH _ (by omega) ⟨i + 1, by omega, rfl, take_all hp hd hc, rfl⟩ (.next rfl (by omega) .nil) rfl)
  · have hcl : (allV n).all (clockedF p.Enums n) = true := List.all_eq_true.2 (take_full hp (by omega))
    generalize hE : eqsErr p (j : Int) n 0 [] n.Eqs = E
    simp only [go_sem, Nat.reduceAdd, Nat.reduceSub, Nat.reduceMul, Nat.reduceLT, Nat.reduceLeDiff, Nat.reduceEqDiff, Nat.reduceBEq, Nat.reduceBNe, Nat.reducePow, Int.reduceEq, Int.reduceNe, Int.reduceLT, Int.reduceLE, Int.reduceGT, Int.reduceGE, Int.reduceAdd, Int.reduceSub, Int.reduceNeg, Int.reduceMul, not_true_eq_false, not_false_eq_true, true_and, and_true, Int.reduceToNat]
    refine loop_frH [8, 9, 52, 53, 54, 55, 56, 57, 58, 59, 60, 61, 62, 63, 64, 65, 66, 67, 68] (fun m C => ∃ i : Nat, i ≤ n.Eqs.length ∧ m = n.Eqs.length - i ∧ eqsErr p (j : Int) n i ((n.Eqs.take i).flatMap DEq.Names) (n.Eqs.drop i) = E ∧ C = [(8, .raw (.int .i64 (i : Nat)))]) n.Eqs.length _ ⟨0, by omega, by omega, by simpa using hE, rfl⟩ (.cons rfl .nil) ?_
    rintro m C jb ⟨i2, hi2, rfl, hE', rfl⟩
    simp only [go_sem, Nat.reduceAdd, Nat.reduceSub, Nat.reduceMul, Nat.reduceLT, Nat.reduceLeDiff, Nat.reduceEqDiff, Nat.reduceBEq, Nat.reduceBNe, Nat.reducePow, Int.reduceEq, Int.reduceNe, Int.reduceLT, Int.reduceLE, Int.reduceGT, Int.reduceGE, Int.reduceAdd, Int.reduceSub, Int.reduceNeg, Int.reduceMul, not_true_eq_false, not_false_eq_true, true_and, and_true, Int.reduceToNat]
    intro _
    refine brK_dec (fun hlt => ?_) (fun hge2 => ?_)
    · obtain ⟨q, hq⟩ : ∃ q, n.Eqs[i2]? = some q := ⟨_, List.getElem?_eq_getElem (by omega)⟩
      simp only [go_sem, Nat.reduceAdd, Nat.reduceSub, Nat.reduceMul, Nat.reduceLT, Nat.reduceLeDiff, Nat.reduceEqDiff, Nat.reduceBEq, Nat.reduceBNe, Nat.reducePow, Int.reduceEq, Int.reduceNe, Int.reduceLT, Int.reduceLE, Int.reduceGT, Int.reduceGE, Int.reduceAdd, Int.reduceSub, Int.reduceNeg, Int.reduceMul, not_true_eq_false, not_false_eq_true, true_and, and_true, Int.reduceToNat]
      refine PCall.call (eq92 p j n hj hn i2 q hq) ?_
      by_cases he : eqErr p (j : Int) n ((n.Eqs.take i2).flatMap DEq.Names) q = 0
      · have hE1 := eqs_next hE' (by simpa using hq) he
        rw [he]
        simp only [go_sem, Nat.reduceAdd, Nat.reduceSub, Nat.reduceMul, Nat.reduceLT, Nat.reduceLeDiff, Nat.reduceEqDiff, Nat.reduceBEq, Nat.reduceBNe, Nat.reducePow, Int.reduceEq, Int.reduceNe, Int.reduceLT, Int.reduceLE, Int.reduceGT, Int.reduceGE, Int.reduceAdd, Int.reduceSub, Int.reduceNeg, Int.reduceMul, not_true_eq_false, not_false_eq_true, true_and, and_true, Int.reduceToNat]
        exact loopFrH _ (by omega) ⟨i2 + 1, by omega, rfl, hE1, rfl⟩ (.next rfl (by omega) .nil) rfl
      · have hE1 := eqs_at hE' (by simpa using hq) he
        rw [faultX_eq hcl hE (by rw [hE1]; exact he), hE1]
        generalize eqErr p (j : Int) n ((n.Eqs.take i2).flatMap DEq.Names) q = ee at he
        simp only [go_sem, Nat.reduceAdd, Nat.reduceSub, Nat.reduceMul, Nat.reduceLT, Nat.reduceLeDiff, Nat.reduceEqDiff, Nat.reduceBEq, Nat.reduceBNe, Nat.reducePow, Int.reduceEq, Int.reduceNe, Int.reduceLT, Int.reduceLE, Int.reduceGT, Int.reduceGE, Int.reduceAdd, Int.reduceSub, Int.reduceNeg, Int.reduceMul, not_true_eq_false, not_false_eq_true, true_and, and_true, Int.reduceToNat]
        refine brK_dec (fun _ => ?_) (fun hq => absurd he hq)
        simp only [go_sem, Nat.reduceAdd, Nat.reduceSub, Nat.reduceMul, Nat.reduceLT, Nat.reduceLeDiff, Nat.reduceEqDiff, Nat.reduceBEq, Nat.reduceBNe, Nat.reducePow, Int.reduceEq, Int.reduceNe, Int.reduceLT, Int.reduceLE, Int.reduceGT, Int.reduceGE, Int.reduceAdd, Int.reduceSub, Int.reduceNeg, Int.reduceMul, not_true_eq_false, not_false_eq_true, true_and, and_true, Int.reduceToNat]
        refine PCall.call (fault47 _ _ _) ?_
        simp only [go_sem, Nat.reduceAdd, Nat.reduceSub, Nat.reduceMul, Nat.reduceLT, Nat.reduceLeDiff, Nat.reduceEqDiff, Nat.reduceBEq, Nat.reduceBNe, Nat.reducePow, Int.reduceEq, Int.reduceNe, Int.reduceLT, Int.reduceLE, Int.reduceGT, Int.reduceGE, Int.reduceAdd, Int.reduceSub, Int.reduceNeg, Int.reduceMul, not_true_eq_false, not_false_eq_true, true_and, and_true, Int.reduceToNat]
        exact ⟨_, rfl, false, by rw [DFault.enc_eq]; exact .refl _⟩
    · have hE1 := eqs_0 hE' (by omega)
      generalize hb : allDef n = b
      rw [faultX_def hcl hE (by rw [hE1]) hb]
      simp only [go_sem, Nat.reduceAdd, Nat.reduceSub, Nat.reduceMul, Nat.reduceLT, Nat.reduceLeDiff, Nat.reduceEqDiff, Nat.reduceBEq, Nat.reduceBNe, Nat.reducePow, Int.reduceEq, Int.reduceNe, Int.reduceLT, Int.reduceLE, Int.reduceGT, Int.reduceGE, Int.reduceAdd, Int.reduceSub, Int.reduceNeg, Int.reduceMul, not_true_eq_false, not_false_eq_true, true_and, and_true, Int.reduceToNat]
      intro _
      refine loop_frH [10, 72, 73, 74, 75, 76, 77, 78, 79, 80, 81, 82, 83, 84, 85, 86, 87, 88, 89, 90] (fun m C => ∃ i : Nat, n.Ins.length ≤ i ∧ i ≤ (allV n).length ∧ m = (allV n).length - i ∧ (∀ d ∈ (n.Outs ++ n.Vars).take (i - n.Ins.length), memB d.Name (n.Eqs.flatMap DEq.Names) = true) ∧ C = [(10, .raw (.int .i64 (i : Nat)))]) ((allV n).length - n.Ins.length) _ ⟨n.Ins.length, by omega, by omega, rfl, by simp, rfl⟩ (.cons rfl .nil) ?_
      rintro m C jc ⟨i3, hi3, hi3', rfl, hp3, rfl⟩
      simp only [go_sem, Nat.reduceAdd, Nat.reduceSub, Nat.reduceMul, Nat.reduceLT, Nat.reduceLeDiff, Nat.reduceEqDiff, Nat.reduceBEq, Nat.reduceBNe, Nat.reducePow, Int.reduceEq, Int.reduceNe, Int.reduceLT, Int.reduceLE, Int.reduceGT, Int.reduceGE, Int.reduceAdd, Int.reduceSub, Int.reduceNeg, Int.reduceMul, not_true_eq_false, not_false_eq_true, true_and, and_true, Int.reduceToNat]
      intro _
      refine brK_dec (fun hlt => ?_) (fun hge3 => ?_)
      · obtain ⟨d, hd⟩ : ∃ d, (allV n)[i3]? = some d := ⟨_, List.getElem?_eq_getElem (by omega)⟩
        have hd2 := rest_at hd hi3
        simp only [go_sem, Nat.reduceAdd, Nat.reduceSub, Nat.reduceMul, Nat.reduceLT, Nat.reduceLeDiff, Nat.reduceEqDiff, Nat.reduceBEq, Nat.reduceBNe, Nat.reducePow, Int.reduceEq, Int.reduceNe, Int.reduceLT, Int.reduceLE, Int.reduceGT, Int.reduceGE, Int.reduceAdd, Int.reduceSub, Int.reduceNeg, Int.reduceMul, not_true_eq_false, not_false_eq_true, true_and, and_true, Int.reduceToNat]
        refine drawK mo (by kernel_rfl) ?_
        simp only [go_sem, Nat.reduceAdd, Nat.reduceSub, Nat.reduceMul, Nat.reduceLT, Nat.reduceLeDiff, Nat.reduceEqDiff, Nat.reduceBEq, Nat.reduceBNe, Nat.reducePow, Int.reduceEq, Int.reduceNe, Int.reduceLT, Int.reduceLE, Int.reduceGT, Int.reduceGE, Int.reduceAdd, Int.reduceSub, Int.reduceNeg, Int.reduceMul, not_true_eq_false, not_false_eq_true, true_and, and_true, Int.reduceToNat]
        refine elemHave (by omega) hd ?_
        simp only [go_sem, Nat.reduceAdd, Nat.reduceSub, Nat.reduceMul, Nat.reduceLT, Nat.reduceLeDiff, Nat.reduceEqDiff, Nat.reduceBEq, Nat.reduceBNe, Nat.reducePow, Int.reduceEq, Int.reduceNe, Int.reduceLT, Int.reduceLE, Int.reduceGT, Int.reduceGE, Int.reduceAdd, Int.reduceSub, Int.reduceNeg, Int.reduceMul, not_true_eq_false, not_false_eq_true, true_and, and_true, Int.reduceToNat]
        refine pcK_of (defined93 n hn d.Name n.Eqs.length (Nat.le_refl _)) ?_
        rw [List.take_length]
        simp only [go_sem, Nat.reduceAdd, Nat.reduceSub, Nat.reduceMul, Nat.reduceLT, Nat.reduceLeDiff, Nat.reduceEqDiff, Nat.reduceBEq, Nat.reduceBNe, Nat.reducePow, Int.reduceEq, Int.reduceNe, Int.reduceLT, Int.reduceLE, Int.reduceGT, Int.reduceGE, Int.reduceAdd, Int.reduceSub, Int.reduceNeg, Int.reduceMul, not_true_eq_false, not_false_eq_true, true_and, and_true, Int.reduceToNat]
        refine brK_dec (fun hz => ?_) (fun hz => ?_)
        · have hno : memB d.Name (n.Eqs.flatMap DEq.Names) = false := by
            cases hm : memB d.Name (n.Eqs.flatMap DEq.Names) with
            | false => rfl
            | true => have := cntL_mem (memB_iff.1 hm); exfalso; omega
          have hbf : b = false := by rw [← hb]; unfold allDef; exact List.all_eq_false.2 ⟨d, List.mem_of_getElem? hd2, by simp [hno]⟩
          rw [hbf, if_neg (by simp)]
          simp only [go_sem, Nat.reduceAdd, Nat.reduceSub, Nat.reduceMul, Nat.reduceLT, Nat.reduceLeDiff, Nat.reduceEqDiff, Nat.reduceBEq, Nat.reduceBNe, Nat.reducePow, Int.reduceEq, Int.reduceNe, Int.reduceLT, Int.reduceLE, Int.reduceGT, Int.reduceGE, Int.reduceAdd, Int.reduceSub, Int.reduceNeg, Int.reduceMul, not_true_eq_false, not_false_eq_true, true_and, and_true, Int.reduceToNat]
          refine PCall.call (fault47 _ _ _) ?_
          simp only [go_sem, Nat.reduceAdd, Nat.reduceSub, Nat.reduceMul, Nat.reduceLT, Nat.reduceLeDiff, Nat.reduceEqDiff, Nat.reduceBEq, Nat.reduceBNe, Nat.reducePow, Int.reduceEq, Int.reduceNe, Int.reduceLT, Int.reduceLE, Int.reduceGT, Int.reduceGE, Int.reduceAdd, Int.reduceSub, Int.reduceNeg, Int.reduceMul, not_true_eq_false, not_false_eq_true, true_and, and_true, Int.reduceToNat]
          exact ⟨_, rfl, false, by rw [DFault.enc_eq]; exact .refl _⟩
        · have hyes : memB d.Name (n.Eqs.flatMap DEq.Names) = true := by
            cases hm : memB d.Name (n.Eqs.flatMap DEq.Names) with
            | true => rfl
            | false =>
              have hnm : d.Name ∉ n.Eqs.flatMap DEq.Names := fun h => by rw [memB_iff.2 h] at hm; exact Bool.noConfusion hm
              exact absurd (by have := cntL_zero hnm; omega) hz
          simp only [go_sem, Nat.reduceAdd, Nat.reduceSub, Nat.reduceMul, Nat.reduceLT, Nat.reduceLeDiff, Nat.reduceEqDiff, Nat.reduceBEq, Nat.reduceBNe, Nat.reducePow, Int.reduceEq, Int.reduceNe, Int.reduceLT, Int.reduceLE, Int.reduceGT, Int.reduceGE, Int.reduceAdd, Int.reduceSub, Int.reduceNeg, Int.reduceMul, not_true_eq_false, not_false_eq_true, true_and, and_true, Int.reduceToNat]
          exact loopFrH _ (by omega) ⟨i3 + 1, by omega, by omega, rfl, by rw [show i3 + 1 - n.Ins.length = (i3 - n.Ins.length) + 1 by omega]; exact take_all hp3 hd2 hyes, rfl⟩ (.next rfl (by omega) .nil) rfl
      · have hbt : b = true := by rw [← hb]; unfold allDef; exact List.all_eq_true.2 (take_full hp3 (by omega))
        rw [hbt, if_pos rfl]
        simp only [go_sem, Nat.reduceAdd, Nat.reduceSub, Nat.reduceMul, Nat.reduceLT, Nat.reduceLeDiff, Nat.reduceEqDiff, Nat.reduceBEq, Nat.reduceBNe, Nat.reducePow, Int.reduceEq, Int.reduceNe, Int.reduceLT, Int.reduceLE, Int.reduceGT, Int.reduceGE, Int.reduceAdd, Int.reduceSub, Int.reduceNeg, Int.reduceMul, not_true_eq_false, not_false_eq_true, true_and, and_true, Int.reduceToNat]
        exact ⟨_, rfl, false, by rw [DFault.enc_eq]; exact .refl _⟩
theorem n16 : (Tryz.f16.name == "runtime.NumGoroutine") = false := by kernel_rfl
theorem scopeX (p : DProg) (hp : okProg p) : PCall Tryz.prog 16 [p.enc] (scopeF p).enc := by
  refine pcall_of_vc tabOK Tryz.func16 n16 rfl (by repeat' first | exact pure_nil | refine pure_cons ?_ ?_ | exact .raw _ | exact pure_enc _ | exact pure_lst _ | exact pure_strs _ | exact pure_ints _ | exact DTy.pure _ | exact DTy.pures _ | exact DEnum.pure _ | exact DEnum.pures _ | exact DDecl.pure _ | exact DDecl.pures _ | exact DEq.pure _ | exact DEq.pures _ | exact DNode.pure _ | exact DNode.pures _ | exact DProg.pure _ | exact DProg.pures _ | exact DCond.pure _ | exact DCond.pures _ | exact DAtom.pure _ | exact DAtom.pures _ | exact DPlain.pure _ | exact DPlain.pures _ | exact DFault.pure _ | exact DFault.pures _ | exact pure_list (fun x => DDecl.pures x) _ | exact .fn _ _ _ pure_nil pure_nil | refine .agg _ ?_ | refine .tup _ ?_ | assumption) (by repeat' first | exact pure_nil | refine pure_cons ?_ ?_ | exact .raw _ | exact pure_enc _ | exact pure_lst _ | exact pure_strs _ | exact pure_ints _ | exact DTy.pure _ | exact DTy.pures _ | exact DEnum.pure _ | exact DEnum.pures _ | exact DDecl.pure _ | exact DDecl.pures _ | exact DEq.pure _ | exact DEq.pures _ | exact DNode.pure _ | exact DNode.pures _ | exact DProg.pure _ | exact DProg.pures _ | exact DCond.pure _ | exact DCond.pures _ | exact DAtom.pure _ | exact DAtom.pures _ | exact DPlain.pure _ | exact DPlain.pures _ | exact DFault.pure _ | exact DFault.pures _ | exact pure_list (fun x => DDecl.pures x) _ | exact .fn _ _ _ pure_nil pure_nil | refine .agg _ ?_ | refine .tup _ ?_ | assumption) (n := 27) rfl (rs := [.cell 2 33]) rfl ?_
  have hp6 := hp.2.1
  unfold scopeF
  simp only [go_sem, Nat.reduceAdd, Nat.reduceSub, Nat.reduceMul, Nat.reduceLT, Nat.reduceLeDiff, Nat.reduceEqDiff, Nat.reduceBEq, Nat.reduceBNe, Nat.reducePow, Int.reduceEq, Int.reduceNe, Int.reduceLT, Int.reduceLE, Int.reduceGT, Int.reduceGE, Int.reduceAdd, Int.reduceSub, Int.reduceNeg, Int.reduceMul, not_true_eq_false, not_false_eq_true, true_and, and_true, Int.reduceToNat]
  refine PCall.call (checkX p hp) ?_
  generalize checkF p = e
  simp only [go_sem, Nat.reduceAdd, Nat.reduceSub, Nat.reduceMul, Nat.reduceLT, Nat.reduceLeDiff, Nat.reduceEqDiff, Nat.reduceBEq, Nat.reduceBNe, Nat.reducePow, Int.reduceEq, Int.reduceNe, Int.reduceLT, Int.reduceLE, Int.reduceGT, Int.reduceGE, Int.reduceAdd, Int.reduceSub, Int.reduceNeg, Int.reduceMul, not_true_eq_false, not_false_eq_true, true_and, and_true, Int.reduceToNat]
  refine brK_dec (fun h0 => ?_) (fun h0 => ?_)
  · rw [if_neg h0]
    simp only [go_sem, Nat.reduceAdd, Nat.reduceSub, Nat.reduceMul, Nat.reduceLT, Nat.reduceLeDiff, Nat.reduceEqDiff, Nat.reduceBEq, Nat.reduceBNe, Nat.reducePow, Int.reduceEq, Int.reduceNe, Int.reduceLT, Int.reduceLE, Int.reduceGT, Int.reduceGE, Int.reduceAdd, Int.reduceSub, Int.reduceNeg, Int.reduceMul, not_true_eq_false, not_false_eq_true, true_and, and_true, Int.reduceToNat]
    refine PCall.call (fault47 _ _ _) ?_
    simp only [go_sem, Nat.reduceAdd, Nat.reduceSub, Nat.reduceMul, Nat.reduceLT, Nat.reduceLeDiff, Nat.reduceEqDiff, Nat.reduceBEq, Nat.reduceBNe, Nat.reducePow, Int.reduceEq, Int.reduceNe, Int.reduceLT, Int.reduceLE, Int.reduceGT, Int.reduceGE, Int.reduceAdd, Int.reduceSub, Int.reduceNeg, Int.reduceMul, not_true_eq_false, not_false_eq_true, true_and, and_true, Int.reduceToNat]
    exact ⟨_, rfl, false, by rw [DFault.enc_eq]; exact .refl _⟩
  rw [if_pos (by simpa using h0)]
  generalize hE : nodesFault p 0 p.Nodes = E
  simp only [go_sem, Nat.reduceAdd, Nat.reduceSub, Nat.reduceMul, Nat.reduceLT, Nat.reduceLeDiff, Nat.reduceEqDiff, Nat.reduceBEq, Nat.reduceBNe, Nat.reducePow, Int.reduceEq, Int.reduceNe, Int.reduceLT, Int.reduceLE, Int.reduceGT, Int.reduceGE, Int.reduceAdd, Int.reduceSub, Int.reduceNeg, Int.reduceMul, not_true_eq_false, not_false_eq_true, true_and, and_true, Int.reduceToNat]
  refine loop_frX [4, 5, 12, 13, 14, 15, 16, 17, 18, 19, 20, 21, 22, 23, 24, 25] (fun m C => ∃ i : Nat, i ≤ p.Nodes.length ∧ m = p.Nodes.length - i ∧ nodesFault p i (p.Nodes.drop i) = E ∧ C = [(4, .raw (.int .i64 (i : Nat)))]) p.Nodes.length _ ⟨0, by omega, by omega, hE, rfl⟩ (.cons rfl .nil) ?_
  rintro m C ja r ⟨i, hi, rfl, hE', rfl⟩
  simp only [go_sem, Nat.reduceAdd, Nat.reduceSub, Nat.reduceMul, Nat.reduceLT, Nat.reduceLeDiff, Nat.reduceEqDiff, Nat.reduceBEq, Nat.reduceBNe, Nat.reducePow, Int.reduceEq, Int.reduceNe, Int.reduceLT, Int.reduceLE, Int.reduceGT, Int.reduceGE, Int.reduceAdd, Int.reduceSub, Int.reduceNeg, Int.reduceMul, not_true_eq_false, not_false_eq_true, true_and, and_true, Int.reduceToNat]
  intro _
  refine brK_dec (fun hlt => ?_) (fun hge => ?_)
  · obtain ⟨n, hj⟩ : ∃ n, p.Nodes[i]? = some n := ⟨_, List.getElem?_eq_getElem (by omega)⟩
    have hn := hp.2.2 n (List.mem_of_getElem? hj)
    simp only [go_sem, Nat.reduceAdd, Nat.reduceSub, Nat.reduceMul, Nat.reduceLT, Nat.reduceLeDiff, Nat.reduceEqDiff, Nat.reduceBEq, Nat.reduceBNe, Nat.reducePow, Int.reduceEq, Int.reduceNe, Int.reduceLT, Int.reduceLE, Int.reduceGT, Int.reduceGE, Int.reduceAdd, Int.reduceSub, Int.reduceNeg, Int.reduceMul, not_true_eq_false, not_false_eq_true, true_and, and_true, Int.reduceToNat]
    refine PCall.call (node50 p i n hj hn) ?_
    have hzz : (AV.agg [.raw (.int .i64 0), .raw (.int .i64 0), .raw (.int .i64 0)]) = (⟨0, 0, 0⟩ : DFault).enc := by rw [DFault.enc_eq]
    by_cases hF : (nodeFault p (i : Int) n).Err = 0
    · have hE1 := nodes_next hE' (by simpa using hj) hF
      have hz := nodeFault_zero hF
      rw [hz]
      simp only [go_sem, Nat.reduceAdd, Nat.reduceSub, Nat.reduceMul, Nat.reduceLT, Nat.reduceLeDiff, Nat.reduceEqDiff, Nat.reduceBEq, Nat.reduceBNe, Nat.reducePow, Int.reduceEq, Int.reduceNe, Int.reduceLT, Int.reduceLE, Int.reduceGT, Int.reduceGE, Int.reduceAdd, Int.reduceSub, Int.reduceNeg, Int.reduceMul, not_true_eq_false, not_false_eq_true, true_and, and_true, Int.reduceToNat]
      rw [hzz]
      simp only [go_sem, Nat.reduceAdd, Nat.reduceSub, Nat.reduceMul, Nat.reduceLT, Nat.reduceLeDiff, Nat.reduceEqDiff, Nat.reduceBEq, Nat.reduceBNe, Nat.reducePow, Int.reduceEq, Int.reduceNe, Int.reduceLT, Int.reduceLE, Int.reduceGT, Int.reduceGE, Int.reduceAdd, Int.reduceSub, Int.reduceNeg, Int.reduceMul, not_true_eq_false, not_false_eq_true, true_and, and_true, Int.reduceToNat]
      exact loopFrX _ (by omega) _ ⟨i + 1, by omega, rfl, hE1, rfl⟩ (.next rfl (by omega) .nil) rfl (by first | rfl | (simp only [List.append_assoc, List.cons_append, List.nil_append]; rfl))
    · have hE1 := nodes_at hE' (by simpa using hj) hF
      rw [hE1]
      generalize nodeFault p (i : Int) n = F at hF
      simp only [go_sem, Nat.reduceAdd, Nat.reduceSub, Nat.reduceMul, Nat.reduceLT, Nat.reduceLeDiff, Nat.reduceEqDiff, Nat.reduceBEq, Nat.reduceBNe, Nat.reducePow, Int.reduceEq, Int.reduceNe, Int.reduceLT, Int.reduceLE, Int.reduceGT, Int.reduceGE, Int.reduceAdd, Int.reduceSub, Int.reduceNeg, Int.reduceMul, not_true_eq_false, not_false_eq_true, true_and, and_true, Int.reduceToNat]
      rw [hzz]
      simp only [go_sem, Nat.reduceAdd, Nat.reduceSub, Nat.reduceMul, Nat.reduceLT, Nat.reduceLeDiff, Nat.reduceEqDiff, Nat.reduceBEq, Nat.reduceBNe, Nat.reducePow, Int.reduceEq, Int.reduceNe, Int.reduceLT, Int.reduceLE, Int.reduceGT, Int.reduceGE, Int.reduceAdd, Int.reduceSub, Int.reduceNeg, Int.reduceMul, not_true_eq_false, not_false_eq_true, true_and, and_true, Int.reduceToNat]
      refine brK_dec (fun _ => ?_) (fun hq => absurd (by intro h; rw [h] at hF; exact hF rfl) hq)
      simp only [go_sem, Nat.reduceAdd, Nat.reduceSub, Nat.reduceMul, Nat.reduceLT, Nat.reduceLeDiff, Nat.reduceEqDiff, Nat.reduceBEq, Nat.reduceBNe, Nat.reducePow, Int.reduceEq, Int.reduceNe, Int.reduceLT, Int.reduceLE, Int.reduceGT, Int.reduceGE, Int.reduceAdd, Int.reduceSub, Int.reduceNeg, Int.reduceMul, not_true_eq_false, not_false_eq_true, true_and, and_true, Int.reduceToNat]
      exact ⟨_, rfl, false, by rw [DFault.enc_eq]; exact .refl _⟩
  · have h0 := nodes_0 hE' (by omega)
    subst h0
    simp only [go_sem, Nat.reduceAdd, Nat.reduceSub, Nat.reduceMul, Nat.reduceLT, Nat.reduceLeDiff, Nat.reduceEqDiff, Nat.reduceBEq, Nat.reduceBNe, Nat.reducePow, Int.reduceEq, Int.reduceNe, Int.reduceLT, Int.reduceLE, Int.reduceGT, Int.reduceGE, Int.reduceAdd, Int.reduceSub, Int.reduceNeg, Int.reduceMul, not_true_eq_false, not_false_eq_true, true_and, and_true, Int.reduceToNat]
    exact ⟨_, rfl, false, by rw [DFault.enc_eq]; exact .refl _⟩
end Go.Proofs.YtipcmpkihhfhcaaGreatDoor

namespace Go.Proofs.YtipcmpkihhfhcaaGreatDoor
open Go.Abs
set_option maxRecDepth 20000
set_option linter.unusedSimpArgs false
set_option linter.unusedVariables false
set_option maxHeartbeats 1000000
attribute [local irreducible] vc vcOps vcStep vcGuard prK hrK gK gsK brK callK ElemK SeqK BlockK ScopeK OpsK CallK LoopK LoopGo finPost ACall PCall PCallE BCall vqOps vqStep vqGuard qrK heK pcK gqK gqsK QOpsK qcallK DrawK
abbrev sA : DDecl := ⟨⟨#[97]⟩, ⟨1, 0, 0⟩, ⟨#[]⟩, ⟨#[]⟩⟩
abbrev sB : DDecl := ⟨⟨#[98]⟩, ⟨1, 0, 0⟩, ⟨#[]⟩, ⟨#[]⟩⟩
theorem low97 : lowF ⟨#[97]⟩ = true := by decide +kernel
theorem weak_tkS {sz : Nat} {es ds : List AV} {k : Nat} (h : es = ds) : Weak (.lst sz es (some k)) (.lst sz ds none) := h ▸ .tok _ _ _
end Go.Proofs.YtipcmpkihhfhcaaGreatDoor

namespace Go.Proofs.YtipcmpkihhfhcaaGreatDoor
open Go.Abs
set_option maxRecDepth 20000
set_option linter.unusedSimpArgs false
set_option linter.unusedVariables false
set_option maxHeartbeats 1000000
attribute [local irreducible] vc vcOps vcStep vcGuard prK hrK gK gsK brK callK ElemK SeqK BlockK ScopeK OpsK CallK LoopK LoopGo finPost ACall PCall PCallE BCall vqOps vqStep vqGuard qrK heK pcK gqK gqsK QOpsK qcallK DrawK
abbrev l16N : DNode := ⟨⟨#[102]⟩, [sA], [sB], [], []⟩
abbrev l16P : DProg := ⟨[], [l16N]⟩
abbrev x3 : Ex := .mk 3 0 ⟨#[97]⟩ 0 [] []
abbrev x1 : Ex := .mk 1 1 ⟨#[]⟩ 0 [] []
abbrev eE (op : Int) : Ex := .mk 6 0 ⟨#[]⟩ op [] [x3, x1]
theorem eE_parts (op : Int) : parts (eE op) = [eE op, x3, x1] := by simp [parts, partsL]
theorem x1_parts : parts x1 = [x1] := by simp [parts, partsL]
theorem eE_ok (op : Int) : okE (eE op) := by
  constructor
  · rw [eE_parts]; simp
  · rw [eE_parts]; intro x hx
    simp only [List.mem_cons, List.not_mem_nil, or_false] at hx
    rcases hx with rfl | rfl | rfl <;> exact ⟨by first | decide | (show (⟨#[]⟩ : ByteArray).size ≤ 200; decide), fun a ha => by simp [Ex.arms] at ha⟩
theorem eE_part {op : Int} (h : 3 ≤ op ∧ op ≤ 16) : ∀ y ∈ parts (eE op), partE y = true := by
  rw [eE_parts]
  have h0 : onceB [] = true := once0 rfl
  intro x hx
  simp only [List.mem_cons, List.not_mem_nil, or_false] at hx
  rcases hx with rfl | rfl | rfl
  · simp [partE, numbersE, namedE, armsE, subsE, Ex.kind, Ex.op, Ex.n, Ex.name, Ex.arms, Ex.subs, h.1, h.2]
  · simp [partE, numbersE, namedE, armsE, subsE, Ex.kind, Ex.op, Ex.n, Ex.name, Ex.arms, Ex.subs, low97]
  · simp [partE, numbersE, namedE, armsE, subsE, Ex.kind, Ex.op, Ex.n, Ex.name, Ex.arms, Ex.subs]
theorem x1_right : rightE x1 = true := by
  unfold rightE
  rw [x1_parts]
  simp [partE, numbersE, namedE, armsE, subsE, Ex.kind, Ex.op, Ex.n, Ex.name, Ex.arms, Ex.subs, depthE, depthL]
theorem x1_const : constT [] x1 = ([1], tyI, true) := by
  have hc : constE x1 = true := by decide
  unfold constT
  rw [x1_right, hc]
  rw [if_pos (show (true && true) = true from rfl), if_neg (by decide), cells_one (v := 1) (t := tyI) (ok := true) rfl]
  rfl
theorem x3_of : ofT l16P l16N x3 = some tyI := by
  rw [ofT_eq]
  have h : headP l16P l16N x3 (ofL l16P l16N x3.subs) = (tyI, true) := by
    unfold headP
    have hd : decl l16N ⟨#[97]⟩ = (sA, true) := by decide +kernel
    rw [if_neg (by decide), if_pos (show x3.kind = 3 from rfl)]
    show ((decl l16N ⟨#[97]⟩).1.Ty, (decl l16N ⟨#[97]⟩).2) = _
    rw [hd]
  rw [h]; rfl
theorem x1_of : ofT l16P l16N x1 = some tyI := by
  rw [ofT_eq]
  have h : headP l16P l16N x1 (ofL l16P l16N x1.subs) = (tyI, true) := by
    unfold headP
    rw [if_pos (by decide), show l16P.Enums = [] from rfl, x1_const]
  rw [h]; rfl
theorem eE_of (op : Int) : ofT l16P l16N (eE op) = opt (binT op tyI tyI) := by
  rw [ofT_eq]
  have h : headP l16P l16N (eE op) (ofL l16P l16N (eE op).subs) = binT op tyI tyI := by
    unfold headP
    have hk : (eE op).kind = 6 := rfl
    rw [if_neg (by omega), if_neg (by omega), if_neg (by omega), if_neg (by omega), ofL_map, show (eE op).subs = [x3, x1] from rfl]
    simp only [List.map_cons, List.map_nil, x3_of, x1_of]
    rfl
  rw [h]
theorem of3 : ofN l16P 0 (eE 3) = (tyI, true) := by
  have h : ofN l16P 0 (eE 3) = normT (ofT l16P l16N (eE 3)) := rfl
  rw [h, eE_of, binT_1 (by decide)]
  rfl
theorem of8 : ofN l16P 0 (eE 8) = (ty0, false) := by
  have h : ofN l16P 0 (eE 8) = normT (ofT l16P l16N (eE 8)) := rfl
  rw [h, eE_of, binT_2 (by decide), if_neg (by rintro ⟨h, _⟩; cases h)]
  rfl
theorem l16_ok : ∀ n ∈ l16P.Nodes, tyOK l16P n := by
  intro n hn
  rw [List.mem_singleton.1 hn]
  refine ⟨by decide, fun nm hk => ?_⟩
  rcases declF_mem nm (allV l16N) with hm | hm
  · have hk' : (declF nm (allV l16N)).1.Ty.Kind = 3 := hk
    have : allV l16N = [sA, sB] := rfl
    rw [this] at hm hk'
    simp only [List.mem_cons, List.not_mem_nil, or_false] at hm
    rcases hm with hm | hm <;> (rw [hm] at hk'; cases hk')
  · have hk' : (declF nm (allV l16N)).1.Ty.Kind = 3 := hk
    rw [hm] at hk'
    cases hk'
theorem weak16 (a b c : Nat) : Weak (.agg [.raw (.slice none 0 0), .lst 5 [.agg [.s ⟨#[102]⟩, .lst 6 [.agg [.s ⟨#[97]⟩, .i 1, .i 0, .i 0, .s ⟨#[]⟩, .s ⟨#[]⟩]] (some a), .lst 6 [.agg [.s ⟨#[98]⟩, .i 1, .i 0, .i 0, .s ⟨#[]⟩, .s ⟨#[]⟩]] (some b), .raw (.slice none 0 0), .raw (.slice none 0 0)]] (some c)]) l16P.enc := by
  rw [DProg.enc_eq]
  refine Weak.aggs ⟨.nil _, ?_, trivial⟩
  refine Weak.lsts (by simp) (by intro e he; obtain ⟨x, _, rfl⟩ := List.mem_map.1 he; rw [DNode.enc_cells]; rfl) ?_
  show WeakL _ (flat [l16N.enc])
  rw [DNode.enc_eq]
  exact ⟨.refl _, weak_tkS (by simp [DDecl.enc_eq]), weak_tkS (by simp [DDecl.enc_eq]), .nil _, .nil _, trivial⟩
theorem weakE (op : Int) (t : Option Nat) : Weak (.agg [.i 6, .i 0, .s ⟨#[]⟩, .i op, .raw (.slice none 0 0), .lst 6 [.agg [.i 3, .i 0, .s ⟨#[97]⟩, .i 0, .raw (.slice none 0 0), .raw (.slice none 0 0)], .agg [.i 1, .i 1, .s ⟨#[]⟩, .i 0, .raw (.slice none 0 0), .raw (.slice none 0 0)]] t]) (eE op).enc := by
  repeat' first | exact trivial | exact .nil _ | exact .refl _ | exact .tok _ _ _ | refine ⟨?_, ?_⟩ | refine weak_ex ?_ ?_ | refine weak_subs rfl ?_ | simp only [flat_nil, flat_agg, flat_ex, flat_ex0, enc_cells, List.cons_append, List.nil_append, Ex.kind, Ex.n, Ex.name, Ex.op, Ex.arms, Ex.subs]
theorem n23 : (Tryz.f23.name == "runtime.NumGoroutine") = false := by kernel_rfl
theorem live23 : PCall Tryz.prog 23 [] (.b true) := by
  have h3 := OfPk l16P 0 (eE 3) l16_ok (eE_part (by decide)) (eE_ok 3)
  have h8 := OfPk l16P 0 (eE 8) l16_ok (eE_part (by decide)) (eE_ok 8)
  rw [of3] at h3
  rw [of8] at h8
  refine pcall_of_vc tabOK Tryz.func23 n23 rfl (by repeat' first | exact pure_nil | refine pure_cons ?_ ?_ | exact .raw _ | exact pure_enc _ | exact pure_lst _ | exact pure_strs _ | exact pure_ints _ | exact DTy.pure _ | exact DTy.pures _ | exact DEnum.pure _ | exact DEnum.pures _ | exact DDecl.pure _ | exact DDecl.pures _ | exact DEq.pure _ | exact DEq.pures _ | exact DNode.pure _ | exact DNode.pures _ | exact DProg.pure _ | exact DProg.pures _ | exact DCond.pure _ | exact DCond.pures _ | exact DAtom.pure _ | exact DAtom.pures _ | exact DPlain.pure _ | exact DPlain.pures _ | exact DFault.pure _ | exact DFault.pures _ | exact pure_list (fun x => DDecl.pures x) _ | exact .fn _ _ _ pure_nil pure_nil | refine .agg _ ?_ | refine .tup _ ?_ | assumption) (by repeat' first | exact pure_nil | refine pure_cons ?_ ?_ | exact .raw _ | exact pure_enc _ | exact pure_lst _ | exact pure_strs _ | exact pure_ints _ | exact DTy.pure _ | exact DTy.pures _ | exact DEnum.pure _ | exact DEnum.pures _ | exact DDecl.pure _ | exact DDecl.pures _ | exact DEq.pure _ | exact DEq.pures _ | exact DNode.pure _ | exact DNode.pures _ | exact DProg.pure _ | exact DProg.pures _ | exact DCond.pure _ | exact DCond.pures _ | exact DAtom.pure _ | exact DAtom.pures _ | exact DPlain.pure _ | exact DPlain.pures _ | exact DFault.pure _ | exact DFault.pures _ | exact pure_list (fun x => DDecl.pures x) _ | exact .fn _ _ _ pure_nil pure_nil | refine .agg _ ?_ | refine .tup _ ?_ | assumption) (n := 49) rfl (rs := [.tmp 0]) rfl ?_
  simp only [go_sem, Nat.reduceAdd, Nat.reduceSub, Nat.reduceMul, Nat.reduceLT, Nat.reduceLeDiff, Nat.reduceEqDiff, Nat.reduceBEq, Nat.reduceBNe, Nat.reducePow, Int.reduceEq, Int.reduceNe, Int.reduceLT, Int.reduceLE, Int.reduceGT, Int.reduceGE, Int.reduceAdd, Int.reduceSub, Int.reduceNeg, Int.reduceMul, not_true_eq_false, not_false_eq_true, true_and, and_true, Int.reduceToNat]
  refine PCall.callW h3 ⟨weak16 _ _ _, .refl _, weakE 3 _, trivial⟩ ?_
  simp only [go_sem, Nat.reduceAdd, Nat.reduceSub, Nat.reduceMul, Nat.reduceLT, Nat.reduceLeDiff, Nat.reduceEqDiff, Nat.reduceBEq, Nat.reduceBNe, Nat.reducePow, Int.reduceEq, Int.reduceNe, Int.reduceLT, Int.reduceLE, Int.reduceGT, Int.reduceGE, Int.reduceAdd, Int.reduceSub, Int.reduceNeg, Int.reduceMul, not_true_eq_false, not_false_eq_true, true_and, and_true, Int.reduceToNat]
  refine PCall.callW h8 ⟨weak16 _ _ _, .refl _, weakE 8 _, trivial⟩ ?_
  repeat' first
    | simp only [go_sem, Nat.reduceAdd, Nat.reduceSub, Nat.reduceMul, Nat.reduceLT, Nat.reduceLeDiff, Nat.reduceEqDiff, Nat.reduceBEq, Nat.reduceBNe, Nat.reducePow, Int.reduceEq, Int.reduceNe, Int.reduceLT, Int.reduceLE, Int.reduceGT, Int.reduceGE, Int.reduceAdd, Int.reduceSub, Int.reduceNeg, Int.reduceMul, not_true_eq_false, not_false_eq_true, true_and, and_true, Int.reduceToNat]
    | (simp only [ty000, ty100, ty200])
    | exact finBq rfl (by simp)
end Go.Proofs.YtipcmpkihhfhcaaGreatDoor
