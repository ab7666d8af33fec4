import Derived.Test.YtipcmpkihhfhcaaFits2
namespace Go.Proofs.Ytipcmpkihhfhcaa
open Go.Abs
set_option maxRecDepth 20000
set_option linter.unusedSimpArgs false
set_option linter.unusedVariables false
set_option maxHeartbeats 1000000
attribute [local irreducible] vc vcOps vcStep vcGuard prK hrK gK gsK brK callK ElemK SeqK BlockK ScopeK OpsK CallK LoopK LoopGo finPost ACall PCall PCallE BCall vqOps vqStep vqGuard qrK heK pcK gqK gqsK QOpsK qcallK DrawK
theorem n40 : (Try.f40.name == "runtime.NumGoroutine") = false := by kernel_rfl
theorem when130 (p : DProg) (k : Nat) (n : DNode) (hn : p.Nodes[k]? = some n) (hl : (allV n).length ≤ 4294967296) (e : Ex) (on : List DCond) (h11 : e.kind = 11)
    (ih : ∀ x ∈ e.subs, ∀ on' : List DCond, on'.length ≤ on.length + 14 → PCall Try.prog 28 [placeE p k, x.enc, .lst 2 (on'.map DCond.enc) none] (.b (fitsF (rowN p.Enums n) p.Enums x on'))) :
    PCall Try.prog 40 [placeE p k, e.enc, .lst 2 (on.map DCond.enc) none] (.b (fitsF (rowN p.Enums n) p.Enums e on)) := by
  refine pcall_of_vc tabOK Try.func40 n40 rfl (pure_cons (pure_place p k) (pure_cons (pure_enc e) (pure_cons (DCond.pures _) pure_nil))) (.raw _) (n := 67) rfl (rs := [.tmp 6]) rfl ?_
  have hB : fitsF (rowN p.Enums n) p.Enums e on = (decide (e.arms.length = 1) && decide (e.subs.length = 1) && (rowN p.Enums n e.name).2 && armOk p.Enums (e.arms.headD ⟨#[]⟩) && eqB on ((rowN p.Enums n e.name).1 ++ [condOf p.Enums e.name (e.arms.headD ⟨#[]⟩)]) && fitsL (rowN p.Enums n) p.Enums e.subs (rowN p.Enums n e.name).1) := by
    rw [fitsF_eq]; simp [h11]
  rw [hB]
  clear hB
  by_cases hst : ¬ (on.length = 0) ∧ e.arms.length = 1 ∧ e.subs.length = 1
  · obtain ⟨hon, ha1, hs1⟩ := hst
    obtain ⟨j, hj⟩ : ∃ j, on.length = j + 1 := ⟨on.length - 1, by omega⟩
    obtain ⟨c, hc⟩ : ∃ c, on[j]? = some c := ⟨_, List.getElem?_eq_getElem (by omega)⟩
    obtain ⟨a, ha⟩ : ∃ a, e.arms[0]? = some a := ⟨_, List.getElem?_eq_getElem (by omega)⟩
    obtain ⟨x, hx⟩ : ∃ x, e.subs[0]? = some x := ⟨_, List.getElem?_eq_getElem (by omega)⟩
    have hxm := List.mem_of_getElem? hx
    have hon' := on_split hj hc
    rw [eq_one ha1 ha]
    rw [show fitsL (rowN p.Enums n) p.Enums e.subs (rowN p.Enums n e.name).1 = fitsF (rowN p.Enums n) p.Enums x (rowN p.Enums n e.name).1 by rw [eq_one hs1 hx]; simp [fitsL]]
    simp only [hs1, List.headD_cons, List.length_singleton, decide_true, Bool.true_and]
    simp only [go_sem, Nat.reduceAdd, Nat.reduceSub, Nat.reduceMul, Nat.reduceLT, Nat.reduceLeDiff, Nat.reduceEqDiff, Nat.reduceBEq, Nat.reduceBNe, Nat.reducePow, Int.reduceEq, Int.reduceNe, Int.reduceLT, Int.reduceLE, Int.reduceGT, Int.reduceGE, Int.reduceAdd, Int.reduceSub, Int.reduceNeg, Int.reduceMul, not_true_eq_false, not_false_eq_true, true_and, and_true, Int.reduceToNat]
    intro hmax
    have hw : IntKind.i64.wrap ((on.length : Int) - 1) = (j : Int) := by rw [hj, wrap_in _ (by omega) (by omega)]; omega
    simp only [hw]
    repeat' first
      | (exfalso; omega)
      | simp only [go_sem, Nat.reduceAdd, Nat.reduceSub, Nat.reduceMul, Nat.reduceLT, Nat.reduceLeDiff, Nat.reduceEqDiff, Nat.reduceBEq, Nat.reduceBNe, Nat.reducePow, Int.reduceEq, Int.reduceNe, Int.reduceLT, Int.reduceLE, Int.reduceGT, Int.reduceGE, Int.reduceAdd, Int.reduceSub, Int.reduceNeg, Int.reduceMul, not_true_eq_false, not_false_eq_true, true_and, and_true, Int.reduceToNat]
      | refine brK_dec (fun _ => ?_) (fun _ => ?_)
      | refine gK_dec (fun _ => ?_) (fun _ => ?_)
      | refine gqK_dec (fun _ => ?_) (fun _ => ?_)
      | (intro _)
      | refine drawK mo (by kernel_rfl) ?_
      | refine elemHave (by omega) ha ?_
      | refine elemHave (by omega) hx ?_
      | refine elemHave (by omega) (by simpa using hc) ?_
      | (refine pcK_of (cond127 p k e.name a) ?_; generalize hok : armOk p.Enums a = ok; cases ok)
      | (refine pcK_of (on129 p k n hn hl e.name (on.take j)) ?_; rw [Int.toNat_natCast]; generalize hr : rowN p.Enums n e.name = r; obtain ⟨r, okr⟩ := r; cases okr <;> (try generalize hq : eqB r (on.take j) = q) <;> (try cases q) <;> (try (replace hq := eqB_t hq; subst hq)))
      | refine pcK_of (ih x hxm (on.take j) (by simp; omega)) ?_
      | refine ⟨by omega, ?_⟩
      | (refine finBq rfl ?_; first | (simp; done) | (rw [eqB_split hon']; clear hon'; simp [*]; done) | (rw [eqB_split hon', eqB_eq rfl]; clear hon'; simp [*]; done))
  · have hB : (decide (e.arms.length = 1) && decide (e.subs.length = 1) && (rowN p.Enums n e.name).2 && armOk p.Enums (e.arms.headD ⟨#[]⟩) && eqB on ((rowN p.Enums n e.name).1 ++ [condOf p.Enums e.name (e.arms.headD ⟨#[]⟩)]) && fitsL (rowN p.Enums n) p.Enums e.subs (rowN p.Enums n e.name).1) = false := by
      by_cases h0 : on.length = 0
      · have : eqB on ((rowN p.Enums n e.name).1 ++ [condOf p.Enums e.name (e.arms.headD ⟨#[]⟩)]) = false := eqB_ne (len_ne (by simp; omega))
        rw [this]; simp
      · have : ¬ (e.arms.length = 1) ∨ ¬ (e.subs.length = 1) := by
          rcases Classical.em (e.arms.length = 1) with q | q
          · exact .inr fun q' => hst ⟨h0, q, q'⟩
          · exact .inl q
        rcases this with q | q <;> simp [q]
    rw [hB]
    simp only [go_sem, Nat.reduceAdd, Nat.reduceSub, Nat.reduceMul, Nat.reduceLT, Nat.reduceLeDiff, Nat.reduceEqDiff, Nat.reduceBEq, Nat.reduceBNe, Nat.reducePow, Int.reduceEq, Int.reduceNe, Int.reduceLT, Int.reduceLE, Int.reduceGT, Int.reduceGE, Int.reduceAdd, Int.reduceSub, Int.reduceNeg, Int.reduceMul, not_true_eq_false, not_false_eq_true, true_and, and_true, Int.reduceToNat]
    intro hmax
    have hw : IntKind.i64.wrap ((on.length : Int) - 1) = (on.length : Int) - 1 := wrap_in _ (by omega) (by omega)
    simp only [hw]
    repeat' first
      | (exfalso; omega)
      | exact finP rfl
      | simp only [go_sem, Nat.reduceAdd, Nat.reduceSub, Nat.reduceMul, Nat.reduceLT, Nat.reduceLeDiff, Nat.reduceEqDiff, Nat.reduceBEq, Nat.reduceBNe, Nat.reducePow, Int.reduceEq, Int.reduceNe, Int.reduceLT, Int.reduceLE, Int.reduceGT, Int.reduceGE, Int.reduceAdd, Int.reduceSub, Int.reduceNeg, Int.reduceMul, not_true_eq_false, not_false_eq_true, true_and, and_true, Int.reduceToNat]
      | refine brK_dec (fun _ => ?_) (fun _ => ?_)
      | refine gK_dec (fun _ => ?_) (fun _ => ?_)
      | refine gqK_dec (fun _ => ?_) (fun _ => ?_)
      | (intro _)
      | refine drawK mo (by kernel_rfl) ?_
end Go.Proofs.Ytipcmpkihhfhcaa
