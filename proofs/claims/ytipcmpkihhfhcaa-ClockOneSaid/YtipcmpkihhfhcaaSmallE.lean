import Derived.Test.YtipcmpkihhfhcaaSmall
namespace Go.Proofs.Ytipcmpkihhfhcaa
open Go.Abs
set_option maxRecDepth 20000
set_option linter.unusedSimpArgs false
set_option linter.unusedVariables false
set_option maxHeartbeats 1000000
attribute [local irreducible] vc vcOps vcStep vcGuard prK hrK gK gsK brK callK ElemK SeqK BlockK ScopeK OpsK CallK LoopK LoopGo finPost ACall PCall PCallE BCall vqOps vqStep vqGuard qrK heK pcK gqK gqsK QOpsK qcallK DrawK
mutual
theorem count_size : ∀ (e : Ex) (l : Int), 0 < countF e l → countF e l = l - (parts e).length
  | .mk _ _ _ _ _ s, l => by
    rw [countF, parts]
    split
    · intro h; omega
    · intro h
      have := countL_size s (l - 1) h
      simp only [List.length_cons]
      omega
theorem countL_size : ∀ (es : List Ex) (l : Int), 0 < countL es l → countL es l = l - (partsL es).length
  | [], l => by rw [countL, partsL]; simp
  | x :: xs, l => by
    rw [countL, partsL]
    split
    · intro h
      have h1 := countL_size xs (countF x l) h
      have h3 : 0 < countF x l := by
        have := countL_le xs (countF x l)
        omega
      have h2 := count_size x l h3
      simp only [List.length_append]
      omega
    · intro h; omega
end

abbrev okE (e : Ex) : Prop := (parts e).length ≤ 200 ∧ ∀ x ∈ parts e, x.name.size ≤ 200 ∧ ∀ a ∈ x.arms, a.size ≤ 100

theorem n5 : (Try.f5.name == "runtime.NumGoroutine") = false := by kernel_rfl
theorem small_e (e : Ex) : PCallE Try.prog 5 [e.enc] (fun r => ∃ b : Bool, r = .b b ∧ (b = true → okE e)) := by
  refine pcallE_of_vc tabOK Try.func5 n5 rfl (pure_cons (pure_enc e) pure_nil) (n := 10) rfl (rs := [.tmp 2]) rfl ?_
  have hc := count_size e 200
  repeat' first
    | exact finB rfl
    | exact finI rfl
    | exact finP rfl
    | exact absurd rfl (by assumption)
    | simp only [go_sem, Nat.reduceAdd, Nat.reduceSub, Nat.reduceMul, Nat.reduceLT, Nat.reduceLeDiff, Nat.reduceEqDiff, Nat.reduceBEq, Nat.reduceBNe, Nat.reducePow, Int.reduceEq, Int.reduceNe, Int.reduceLT, Int.reduceLE, Int.reduceGT, Int.reduceGE, Int.reduceAdd, Int.reduceSub, Int.reduceNeg, Int.reduceMul, not_true_eq_false, not_false_eq_true, true_and, and_true, Int.reduceToNat]
    | (intro _)
    | refine brK_dec (fun _ => ?_) (fun _ => ?_)
    | refine brK_any ?_ ?_
    | refine gK_dec (fun _ => ?_) (fun _ => ?_)
    | refine gK_any ?_ ?_
    | refine gqK_dec (fun _ => ?_) (fun _ => ?_)
    | refine ⟨by omega, ?_⟩
    | refine elemHave (by omega) (by assumption) ?_
    | refine elemMap (by omega) (by omega) (fun x hx => ?_)
    | refine drawK mo (by kernel_rfl) ?_
    | (exact finBk (K := fun b => b = true → okE e) rfl (fun hb => ⟨by omega, hr hb⟩))
    | (exact finBk (K := fun b => b = true → okE e) rfl (by intro h; cases h))
    | (refine PCall.call (count_spec e 200 (by omega)) ?_)
    | (refine PCallE.call (few_e e (by omega)) (fun r hr => ?_); obtain ⟨b, rfl, hr⟩ := hr)

theorem n8 : (Try.f8.name == "runtime.NumGoroutine") = false := by kernel_rfl
theorem right_b (e : Ex) (ho : okE e) : BCall Try.prog 8 [e.enc] := by
  refine bcall_of_vc tabOK Try.func8 n8 rfl (by repeat' first | exact pure_nil | refine pure_cons ?_ ?_ | exact .raw _ | exact pure_enc _ | exact pure_lst _ | exact pure_strs _ | exact pure_ints _ | exact DTy.pure _ | exact DTy.pures _ | exact DEnum.pure _ | exact DEnum.pures _ | exact DDecl.pure _ | exact DDecl.pures _ | exact DEq.pure _ | exact DEq.pures _ | exact DNode.pure _ | exact DNode.pures _ | exact DProg.pure _ | exact DProg.pures _ | exact DCond.pure _ | exact DCond.pures _ | exact DAtom.pure _ | exact DAtom.pures _ | exact DPlain.pure _ | exact DPlain.pures _ | exact DVar.pure _ | exact DVar.pures _ | exact DFlow.pure _ | exact DFlow.pures _ | exact DFlows.pure _ | exact DFlows.pures _ | exact DAsked.pure _ | exact DAsked.pures _ | exact DFault.pure _ | exact DFault.pures _ | exact DCell.pure _ | exact DCell.pures _ | exact DReply.pure _ | exact DReply.pures _ | exact DAsk.pure _ | exact DAsk.pures _ | exact DOp.pure _ | exact DOp.pures _ | exact pure_list (fun x => DDecl.pures x) _ | exact .fn _ _ _ pure_nil pure_nil | refine .agg _ ?_ | refine .tup _ ?_ | assumption) (n := 27) rfl (rs := [.tmp 2]) rfl ?_
  repeat' first
    | exact finB rfl
    | exact finI rfl
    | exact finP rfl
    | exact absurd rfl (by assumption)
    | simp only [go_sem, Nat.reduceAdd, Nat.reduceSub, Nat.reduceMul, Nat.reduceLT, Nat.reduceLeDiff, Nat.reduceEqDiff, Nat.reduceBEq, Nat.reduceBNe, Nat.reducePow, Int.reduceEq, Int.reduceNe, Int.reduceLT, Int.reduceLE, Int.reduceGT, Int.reduceGE, Int.reduceAdd, Int.reduceSub, Int.reduceNeg, Int.reduceMul, not_true_eq_false, not_false_eq_true, true_and, and_true, Int.reduceToNat]
    | (intro _)
    | refine brK_dec (fun _ => ?_) (fun _ => ?_)
    | refine brK_any ?_ ?_
    | refine gK_dec (fun _ => ?_) (fun _ => ?_)
    | refine gK_any ?_ ?_
    | refine gqK_dec (fun _ => ?_) (fun _ => ?_)
    | refine ⟨by omega, ?_⟩
    | refine elemHave (by omega) (by assumption) ?_
    | refine elemMap (by omega) (by omega) (fun x hx => ?_)
    | refine drawK mo (by kernel_rfl) ?_
    | (refine PCallE.call (size_i _) (fun r hr => ?_); obtain ⟨n, rfl⟩ := hr)
    | (refine PCallE.call (depth_i _) (fun r hr => ?_); obtain ⟨d, rfl⟩ := hr)
    | (refine PCall.call (parts_spec e (by have := ho.1; omega)) ?_)
    | (have hx' := ho.2 _ (List.mem_of_getElem? hx); refine BCall.call (part_b _ (by omega) (fun a ha => by have := hx'.2 a ha; omega)) (fun _ => ?_))
    | exact loopGo _ (by omega) ⟨i + 1, by omega, rfl, (.next rfl (by omega) (.cons rfl (.nil rfl))), rfl⟩
    | (refine loop_rule (fun n s h => ∃ (i : Nat), i ≤ (parts e).length ∧ n = (parts e).length - i ∧ Vis 27 [(4, .i i), (3, .lst 6 ((parts e).map Ex.enc) none)] s ∧ h = eH e) ((parts e).length) ⟨0, by omega, by omega, (.cons rfl (.cons rfl (.nil rfl))), rfl⟩ ?_; rintro n s h ⟨i, hi, rfl, hvi, rfl⟩; obtain ⟨ji, rfl⟩ := hvi.out)
end Go.Proofs.Ytipcmpkihhfhcaa
