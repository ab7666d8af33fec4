import Derived.Test.YtipcmpkihhfhcaaDoorSmall
namespace Go.Proofs.YtipcmpkihhfhcaaDoor
open Go.Abs
set_option maxRecDepth 20000
set_option linter.unusedSimpArgs false
set_option linter.unusedVariables false
set_option maxHeartbeats 1000000
attribute [local irreducible] vc vcOps vcStep vcGuard prK hrK gK gsK brK callK ElemK SeqK BlockK ScopeK OpsK CallK LoopK LoopGo finPost ACall PCall PCallE BCall vqOps vqStep vqGuard qrK heK pcK gqK gqsK QOpsK qcallK DrawK
mutual
theorem count_size : ∀ (e : Ex) (l : Int), 0 < countF e l → countF e l = l - (parts e).length
  | .mk _ _ _ _ _ s, l => by
    rw [countF, parts]
    split
    · intro h; omega
    · intro h
      have := countL_size s (l - 1) h
      simp only [List.length_cons]
      omega
theorem countL_size : ∀ (es : List Ex) (l : Int), 0 < countL es l → countL es l = l - (partsL es).length
  | [], l => by rw [countL, partsL]; simp
  | x :: xs, l => by
    rw [countL, partsL]
    split
    · intro h
      have h1 := countL_size xs (countF x l) h
      have h3 : 0 < countF x l := by
        have := countL_le xs (countF x l)
        omega
      have h2 := count_size x l h3
      simp only [List.length_append]
      omega
    · intro h; omega
end

abbrev okE (e : Ex) : Prop := (parts e).length ≤ 200 ∧ ∀ x ∈ parts e, x.name.size ≤ 200 ∧ ∀ a ∈ x.arms, a.size ≤ 100

theorem n5 : (Tryd.f5.name == "runtime.NumGoroutine") = false := by kernel_rfl
theorem small_e (e : Ex) : PCallE Tryd.prog 5 [e.enc] (fun r => ∃ b : Bool, r = .b b ∧ (b = true → okE e)) := by
  refine pcallE_of_vc tabOK Tryd.func5 n5 rfl (pure_cons (pure_enc e) pure_nil) (n := 10) rfl (rs := [.tmp 2]) rfl ?_
  have hc := count_size e 200
  repeat' first
    | exact finB rfl
    | exact finI rfl
    | exact finP rfl
    | exact absurd rfl (by assumption)
    | simp only [go_sem, Nat.reduceAdd, Nat.reduceSub, Nat.reduceMul, Nat.reduceLT, Nat.reduceLeDiff, Nat.reduceEqDiff, Nat.reduceBEq, Nat.reduceBNe, Nat.reducePow, Int.reduceEq, Int.reduceNe, Int.reduceLT, Int.reduceLE, Int.reduceGT, Int.reduceGE, Int.reduceAdd, Int.reduceSub, Int.reduceNeg, Int.reduceMul, not_true_eq_false, not_false_eq_true, true_and, and_true, Int.reduceToNat]
    | (intro _)
    | refine brK_dec (fun _ => ?_) (fun _ => ?_)
    | refine brK_any ?_ ?_
    | refine gK_dec (fun _ => ?_) (fun _ => ?_)
    | refine gK_any ?_ ?_
    | refine gqK_dec (fun _ => ?_) (fun _ => ?_)
    | refine ⟨by omega, ?_⟩
    | refine elemHave (by omega) (by assumption) ?_
    | refine elemMap (by omega) (by omega) (fun x hx => ?_)
    | refine drawK mo (by kernel_rfl) ?_
    | (exact finBk (K := fun b => b = true → okE e) rfl (fun hb => ⟨by omega, hr hb⟩))
    | (exact finBk (K := fun b => b = true → okE e) rfl (by intro h; cases h))
    | (refine PCall.call (count_spec e 200 (by omega)) ?_)
    | (refine PCallE.call (few_e e (by omega)) (fun r hr => ?_); obtain ⟨b, rfl, hr⟩ := hr)

end Go.Proofs.YtipcmpkihhfhcaaDoor
