import Derived.Test.YtipcmpkihhfhcaaFits2
namespace Go.Proofs.Ytipcmpkihhfhcaa
open Go.Abs
set_option maxRecDepth 20000
set_option linter.unusedSimpArgs false
set_option linter.unusedVariables false
set_option maxHeartbeats 1000000
attribute [local irreducible] vc vcOps vcStep vcGuard prK hrK gK gsK brK callK ElemK SeqK BlockK ScopeK OpsK CallK LoopK LoopGo finPost ACall PCall PCallE BCall vqOps vqStep vqGuard qrK heK pcK gqK gqsK QOpsK qcallK DrawK
theorem weak_tk {sz : Nat} {es ds : List AV} {k : Nat} (h : es = ds) : Weak (.lst sz es (some k)) (.lst sz ds none) := h ▸ .tok _ _ _
theorem n41 : (Try.f41.name == "runtime.NumGoroutine") = false := by kernel_rfl
theorem merge131 (p : DProg) (k : Nat) (n : DNode) (hn : p.Nodes[k]? = some n) (hl : (allV n).length ≤ 4294967296) (e : Ex) (on : List DCond) (h12 : e.kind = 12) (hlen : on.length ≤ 1000000)
    (ih : ∀ x ∈ e.subs, ∀ on' : List DCond, on'.length ≤ on.length + 14 → PCall Try.prog 28 [placeE p k, x.enc, .lst 2 (on'.map DCond.enc) none] (.b (fitsF (rowN p.Enums n) p.Enums x on'))) :
    PCall Try.prog 41 [placeE p k, e.enc, .lst 2 (on.map DCond.enc) none] (.b (fitsF (rowN p.Enums n) p.Enums e on)) := by
  refine pcall_of_vc tabOK Try.func41 n41 rfl (pure_cons (pure_place p k) (pure_cons (pure_enc e) (pure_cons (DCond.pures _) pure_nil))) (.raw _) (n := 66) rfl (rs := [.tmp 6]) rfl ?_
  have hB : fitsF (rowN p.Enums n) p.Enums e on = ((rowN p.Enums n e.name).2 && eqB (rowN p.Enums n e.name).1 on && decide (e.arms.length = e.subs.length) && fitsM (rowN p.Enums n) p.Enums e.name e.arms e.subs on) := by
    rw [fitsF_eq]; simp [h12]
  rw [hB]
  clear hB
  have hon := on129 p k n hn hl e.name on
  simp only [go_sem, Nat.reduceAdd, Nat.reduceSub, Nat.reduceMul, Nat.reduceLT, Nat.reduceLeDiff, Nat.reduceEqDiff, Nat.reduceBEq, Nat.reduceBNe, Nat.reducePow, Int.reduceEq, Int.reduceNe, Int.reduceLT, Int.reduceLE, Int.reduceGT, Int.reduceGE, Int.reduceAdd, Int.reduceSub, Int.reduceNeg, Int.reduceMul, not_true_eq_false, not_false_eq_true, true_and, and_true, Int.reduceToNat]
  refine PCall.call hon ?_
  generalize ((rowN p.Enums n e.name).2 && eqB (rowN p.Enums n e.name).1 on) = b0
  cases b0 with
  | false =>
    rw [Bool.false_and, Bool.false_and]
    simp only [go_sem, Nat.reduceAdd, Nat.reduceSub, Nat.reduceMul, Nat.reduceLT, Nat.reduceLeDiff, Nat.reduceEqDiff, Nat.reduceBEq, Nat.reduceBNe, Nat.reducePow, Int.reduceEq, Int.reduceNe, Int.reduceLT, Int.reduceLE, Int.reduceGT, Int.reduceGE, Int.reduceAdd, Int.reduceSub, Int.reduceNeg, Int.reduceMul, not_true_eq_false, not_false_eq_true, true_and, and_true, Int.reduceToNat]
    exact finP rfl
  | true =>
    rw [Bool.true_and]
    simp only [go_sem, Nat.reduceAdd, Nat.reduceSub, Nat.reduceMul, Nat.reduceLT, Nat.reduceLeDiff, Nat.reduceEqDiff, Nat.reduceBEq, Nat.reduceBNe, Nat.reducePow, Int.reduceEq, Int.reduceNe, Int.reduceLT, Int.reduceLE, Int.reduceGT, Int.reduceGE, Int.reduceAdd, Int.reduceSub, Int.reduceNeg, Int.reduceMul, not_true_eq_false, not_false_eq_true, true_and, and_true, Int.reduceToNat]
    intro _ _
    refine brK_dec (fun hne => ?_) (fun heq => ?_)
    · simp only [go_sem, Nat.reduceAdd, Nat.reduceSub, Nat.reduceMul, Nat.reduceLT, Nat.reduceLeDiff, Nat.reduceEqDiff, Nat.reduceBEq, Nat.reduceBNe, Nat.reducePow, Int.reduceEq, Int.reduceNe, Int.reduceLT, Int.reduceLE, Int.reduceGT, Int.reduceGE, Int.reduceAdd, Int.reduceSub, Int.reduceNeg, Int.reduceMul, not_true_eq_false, not_false_eq_true, true_and, and_true, Int.reduceToNat]
      exact finBq rfl (by have : ¬ (e.arms.length = e.subs.length) := by omega
                          simp [this])
    · have heq' : e.arms.length = e.subs.length := by omega
      rw [decide_eq_true heq', Bool.true_and]
      simp only [go_sem, Nat.reduceAdd, Nat.reduceSub, Nat.reduceMul, Nat.reduceLT, Nat.reduceLeDiff, Nat.reduceEqDiff, Nat.reduceBEq, Nat.reduceBNe, Nat.reducePow, Int.reduceEq, Int.reduceNe, Int.reduceLT, Int.reduceLE, Int.reduceGT, Int.reduceGE, Int.reduceAdd, Int.reduceSub, Int.reduceNeg, Int.reduceMul, not_true_eq_false, not_false_eq_true, true_and, and_true, Int.reduceToNat, List.take_length]
      intro _ _
      refine ⟨by omega, ?_⟩
      intro _
      refine loop_frX [6, 8, 9, 10, 11, 36, 37, 38, 39, 40, 41, 42, 43, 44, 45, 46, 47, 48, 49, 50, 51, 52, 53, 54, 55, 56, 57, 58, 59, 60, 61, 62, 63, 64, 65] (fun m C => ∃ i : Nat, i ≤ e.arms.length ∧ m = e.arms.length - i ∧ (∀ (j : Nat) c x, j < i → e.arms[j]? = some c → e.subs[j]? = some x → armOk p.Enums c = true ∧ fitsF (rowN p.Enums n) p.Enums x (on ++ [condOf p.Enums e.name c]) = true) ∧ C = [(36, .raw (.int .i64 (i : Nat)))]) e.arms.length _ ⟨0, by omega, by omega, fun j c x hj => by omega, rfl⟩ (.cons rfl .nil) ?_
      rintro m C jj r ⟨i, hi, rfl, hp, rfl⟩
      simp only [go_sem, Nat.reduceAdd, Nat.reduceSub, Nat.reduceMul, Nat.reduceLT, Nat.reduceLeDiff, Nat.reduceEqDiff, Nat.reduceBEq, Nat.reduceBNe, Nat.reducePow, Int.reduceEq, Int.reduceNe, Int.reduceLT, Int.reduceLE, Int.reduceGT, Int.reduceGE, Int.reduceAdd, Int.reduceSub, Int.reduceNeg, Int.reduceMul, not_true_eq_false, not_false_eq_true, true_and, and_true, Int.reduceToNat]
      refine brK_dec (fun hlt => ?_) (fun hge => ?_)
      · have hlt' : i < e.arms.length := by omega
        obtain ⟨c, hc⟩ : ∃ c, e.arms[i]? = some c := ⟨_, List.getElem?_eq_getElem hlt'⟩
        obtain ⟨x, hx⟩ : ∃ x, e.subs[i]? = some x := ⟨_, List.getElem?_eq_getElem (by omega)⟩
        simp only [go_sem, Nat.reduceAdd, Nat.reduceSub, Nat.reduceMul, Nat.reduceLT, Nat.reduceLeDiff, Nat.reduceEqDiff, Nat.reduceBEq, Nat.reduceBNe, Nat.reducePow, Int.reduceEq, Int.reduceNe, Int.reduceLT, Int.reduceLE, Int.reduceGT, Int.reduceGE, Int.reduceAdd, Int.reduceSub, Int.reduceNeg, Int.reduceMul, not_true_eq_false, not_false_eq_true, true_and, and_true, Int.reduceToNat]
        refine elemHave (by omega) (by simpa using hc) ?_
        simp only [go_sem, Nat.reduceAdd, Nat.reduceSub, Nat.reduceMul, Nat.reduceLT, Nat.reduceLeDiff, Nat.reduceEqDiff, Nat.reduceBEq, Nat.reduceBNe, Nat.reducePow, Int.reduceEq, Int.reduceNe, Int.reduceLT, Int.reduceLE, Int.reduceGT, Int.reduceGE, Int.reduceAdd, Int.reduceSub, Int.reduceNeg, Int.reduceMul, not_true_eq_false, not_false_eq_true, true_and, and_true, Int.reduceToNat]
        refine PCall.call (cond127 p k e.name c) ?_
        generalize hok : armOk p.Enums c = ok
        cases ok with
        | false =>
          simp only [go_sem, Nat.reduceAdd, Nat.reduceSub, Nat.reduceMul, Nat.reduceLT, Nat.reduceLeDiff, Nat.reduceEqDiff, Nat.reduceBEq, Nat.reduceBNe, Nat.reducePow, Int.reduceEq, Int.reduceNe, Int.reduceLT, Int.reduceLE, Int.reduceGT, Int.reduceGE, Int.reduceAdd, Int.reduceSub, Int.reduceNeg, Int.reduceMul, not_true_eq_false, not_false_eq_true, true_and, and_true, Int.reduceToNat]
          refine drawK mo (by kernel_rfl) ?_
          simp only [go_sem, Nat.reduceAdd, Nat.reduceSub, Nat.reduceMul, Nat.reduceLT, Nat.reduceLeDiff, Nat.reduceEqDiff, Nat.reduceBEq, Nat.reduceBNe, Nat.reducePow, Int.reduceEq, Int.reduceNe, Int.reduceLT, Int.reduceLE, Int.reduceGT, Int.reduceGE, Int.reduceAdd, Int.reduceSub, Int.reduceNeg, Int.reduceMul, not_true_eq_false, not_false_eq_true, true_and, and_true, Int.reduceToNat, monoApp, monoApp2]
          exact finBq rfl (fitsM_no hc hx (.inl hok)).symm
        | true =>
          simp only [go_sem, Nat.reduceAdd, Nat.reduceSub, Nat.reduceMul, Nat.reduceLT, Nat.reduceLeDiff, Nat.reduceEqDiff, Nat.reduceBEq, Nat.reduceBNe, Nat.reducePow, Int.reduceEq, Int.reduceNe, Int.reduceLT, Int.reduceLE, Int.reduceGT, Int.reduceGE, Int.reduceAdd, Int.reduceSub, Int.reduceNeg, Int.reduceMul, not_true_eq_false, not_false_eq_true, true_and, and_true, Int.reduceToNat]
          refine drawK mo (by kernel_rfl) ?_
          simp only [go_sem, Nat.reduceAdd, Nat.reduceSub, Nat.reduceMul, Nat.reduceLT, Nat.reduceLeDiff, Nat.reduceEqDiff, Nat.reduceBEq, Nat.reduceBNe, Nat.reducePow, Int.reduceEq, Int.reduceNe, Int.reduceLT, Int.reduceLE, Int.reduceGT, Int.reduceGE, Int.reduceAdd, Int.reduceSub, Int.reduceNeg, Int.reduceMul, not_true_eq_false, not_false_eq_true, true_and, and_true, Int.reduceToNat, monoApp, monoApp2]
          refine elemHave (by omega) (by simpa using hx) ?_
          simp only [go_sem, Nat.reduceAdd, Nat.reduceSub, Nat.reduceMul, Nat.reduceLT, Nat.reduceLeDiff, Nat.reduceEqDiff, Nat.reduceBEq, Nat.reduceBNe, Nat.reducePow, Int.reduceEq, Int.reduceNe, Int.reduceLT, Int.reduceLE, Int.reduceGT, Int.reduceGE, Int.reduceAdd, Int.reduceSub, Int.reduceNeg, Int.reduceMul, not_true_eq_false, not_false_eq_true, true_and, and_true, Int.reduceToNat, monoApp, monoApp2]
          simp only [Int.toNat_natCast, List.take_length]
          refine ⟨⟨by first | rfl | trivial | omega, by omega⟩, ?_⟩
          refine pcK_ofW (ih x (List.mem_of_getElem? hx) (on ++ [condOf p.Enums e.name c]) (by simp)) ⟨.refl _, .refl _, weak_tk (by simp), trivial⟩ ?_
          generalize hf : fitsF (rowN p.Enums n) p.Enums x (on ++ [condOf p.Enums e.name c]) = f
          cases f with
          | false =>
            simp only [go_sem, Nat.reduceAdd, Nat.reduceSub, Nat.reduceMul, Nat.reduceLT, Nat.reduceLeDiff, Nat.reduceEqDiff, Nat.reduceBEq, Nat.reduceBNe, Nat.reducePow, Int.reduceEq, Int.reduceNe, Int.reduceLT, Int.reduceLE, Int.reduceGT, Int.reduceGE, Int.reduceAdd, Int.reduceSub, Int.reduceNeg, Int.reduceMul, not_true_eq_false, not_false_eq_true, true_and, and_true, Int.reduceToNat]
            exact finBq rfl (fitsM_no hc hx (.inr hf)).symm
          | true =>
            simp only [go_sem, Nat.reduceAdd, Nat.reduceSub, Nat.reduceMul, Nat.reduceLT, Nat.reduceLeDiff, Nat.reduceEqDiff, Nat.reduceBEq, Nat.reduceBNe, Nat.reducePow, Int.reduceEq, Int.reduceNe, Int.reduceLT, Int.reduceLE, Int.reduceGT, Int.reduceGE, Int.reduceAdd, Int.reduceSub, Int.reduceNeg, Int.reduceMul, not_true_eq_false, not_false_eq_true, true_and, and_true, Int.reduceToNat]
            exact loopFrX _ (by omega) _ ⟨i + 1, by omega, rfl, fun j c' x' hj hc' hx' => by
              rcases Nat.lt_or_ge j i with h | h
              · exact hp j c' x' h hc' hx'
              · have : j = i := by omega
                subst this
                rw [hc] at hc'; rw [hx] at hx'
                cases hc'; cases hx'
                exact ⟨hok, hf⟩, rfl⟩ (.next rfl (by omega) .nil) rfl (by first | rfl | (simp only [List.append_assoc, List.cons_append, List.nil_append]; rfl))
      · have : i = e.arms.length := by omega
        subst this
        simp only [go_sem, Nat.reduceAdd, Nat.reduceSub, Nat.reduceMul, Nat.reduceLT, Nat.reduceLeDiff, Nat.reduceEqDiff, Nat.reduceBEq, Nat.reduceBNe, Nat.reducePow, Int.reduceEq, Int.reduceNe, Int.reduceLT, Int.reduceLE, Int.reduceGT, Int.reduceGE, Int.reduceAdd, Int.reduceSub, Int.reduceNeg, Int.reduceMul, not_true_eq_false, not_false_eq_true, true_and, and_true, Int.reduceToNat]
        refine finBq rfl (fitsM_yes fun j c x hc hx => hp j c x (List.getElem?_eq_some_iff.1 hc).1 hc hx).symm
end Go.Proofs.Ytipcmpkihhfhcaa
