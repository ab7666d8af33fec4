import Derived.Test.YtfjjckaiopbbkaaSmall
namespace Go.Proofs.Ytfjjckaiopbbkaa
open Go.Abs
set_option maxRecDepth 20000
set_option linter.unusedSimpArgs false
set_option linter.unusedVariables false
set_option maxHeartbeats 4000000
attribute [local irreducible] vc vcOps vcStep vcGuard prK hrK gK gsK brK callK ElemK SeqK BlockK ScopeK OpsK CallK LoopK LoopGo finPost ACall PCall PCallE BCall vqOps vqStep vqGuard qrK heK pcK gqK gqsK QOpsK qcallK DrawK

def ltK (k : Int) (l s f : Bool) : Bool × Bool :=
  if k = 8 ∨ k = 13 then (false, s && !l) else if k = 10 then (s && !l, s && !l) else if k = 9 then (false, s && !f) else (s && l, s)
mutual
def lt : Ex → Bool × Bool
  | .mk k _ _ _ _ s => ltK k (ltL s).1 (ltL s).2 (ltH s)
def ltL : List Ex → Bool × Bool
  | [] => (false, true)
  | x :: xs => ((lt x).1 || (ltL xs).1, (lt x).2 && (ltL xs).2)
def ltH : List Ex → Bool
  | [] => false
  | x :: _ => (lt x).1
end
theorem lt_eq (e : Ex) : lt e = ltK e.kind (ltL e.subs).1 (ltL e.subs).2 (ltH e.subs) := by cases e; simp [lt, Ex.kind, Ex.subs]
theorem ltL_append (l m : List Ex) : ltL (l ++ m) = ((ltL l).1 || (ltL m).1, (ltL l).2 && (ltL m).2) := by
  induction l with
  | nil => simp [ltL]
  | cons x l ih => simp [ltL, ih, Bool.or_assoc, Bool.and_assoc]
theorem ltL_take {l : List Ex} {k : Nat} {x : Ex} (h : l[k]? = some x) : ltL (l.take (k + 1)) = ((ltL (l.take k)).1 || (lt x).1, (ltL (l.take k)).2 && (lt x).2) := by
  rw [List.take_add_one, h, ltL_append]
  simp [ltL]

theorem pure_bb (a b : Bool) : Go.Abs.Pure (.tup [.b a, .b b]) := .tup _ (pure_cons (.raw _) (pure_cons (.raw _) pure_nil))
theorem pure_gb (a b : Bool) : Go.Abs.Pure (.agg [.b a, .b b]) := .agg _ (pure_cons (.raw _) (pure_cons (.raw _) pure_nil))

theorem n57 : (Try.f57.name == "runtime.NumGoroutine") = false := by kernel_rfl
theorem late57 (l : List Ex) (ih : ∀ x ∈ l, PCall Try.prog 17 [x.enc] (bbA (lt x))) : PCall Try.prog 57 [.lst 6 (l.map Ex.enc) none] (bbA (ltL l)) := by
  refine pcall_of_vc tabOK Try.func57 n57 rfl (pure_cons (pure_lst l) pure_nil) (pure_bb _ _) (n := 33) rfl (rs := [.tmp 2, .tmp 3]) rfl ?_
  simp only [go_sem, Nat.reduceAdd, Nat.reduceSub, Nat.reduceMul, Nat.reduceLT, Nat.reduceLeDiff, Nat.reduceEqDiff, Nat.reduceBEq, Nat.reduceBNe, Nat.reducePow, Int.reduceEq, Int.reduceNe, Int.reduceLT, Int.reduceLE, Int.reduceGT, Int.reduceGE, Int.reduceAdd, Int.reduceSub, Int.reduceNeg, Int.reduceMul, not_true_eq_false, not_false_eq_true, true_and, and_true, Int.reduceToNat]
  refine loop_rule (fun n s h => ∃ (i : Nat) (a b : Bool), i ≤ l.length ∧ n = l.length - i ∧ ltL (l.take i) = (a, b) ∧ Vis 33 [(6, .i i), (0, .lst 6 (l.map Ex.enc) none), (4, .b a), (5, .b b)] s ∧ h = []) l.length
    ⟨0, _, _, by omega, by omega, rfl, .cons rfl (.cons rfl (.cons rfl (.cons rfl (.nil rfl)))), rfl⟩ ?_
  rintro n s h ⟨i, a, b, hi, rfl, hp, hv, rfl⟩
  obtain ⟨j, rfl⟩ := hv.out
  simp only [go_sem, Nat.reduceAdd, Nat.reduceSub, Nat.reduceMul, Nat.reduceLT, Nat.reduceLeDiff, Nat.reduceEqDiff, Nat.reduceBEq, Nat.reduceBNe, Nat.reducePow, Int.reduceEq, Int.reduceNe, Int.reduceLT, Int.reduceLE, Int.reduceGT, Int.reduceGE, Int.reduceAdd, Int.reduceSub, Int.reduceNeg, Int.reduceMul, not_true_eq_false, not_false_eq_true, true_and, and_true, Int.reduceToNat]
  intro hm
  refine brK_dec (fun hlt => ?_) (fun hge => ?_)
  · simp only [go_sem, Nat.reduceAdd, Nat.reduceSub, Nat.reduceMul, Nat.reduceLT, Nat.reduceLeDiff, Nat.reduceEqDiff, Nat.reduceBEq, Nat.reduceBNe, Nat.reducePow, Int.reduceEq, Int.reduceNe, Int.reduceLT, Int.reduceLE, Int.reduceGT, Int.reduceGE, Int.reduceAdd, Int.reduceSub, Int.reduceNeg, Int.reduceMul, not_true_eq_false, not_false_eq_true, true_and, and_true, Int.reduceToNat]
    refine elemMap (by omega) (by omega) (fun x hx => ?_)
    simp only [go_sem, Nat.reduceAdd, Nat.reduceSub, Nat.reduceMul, Nat.reduceLT, Nat.reduceLeDiff, Nat.reduceEqDiff, Nat.reduceBEq, Nat.reduceBNe, Nat.reducePow, Int.reduceEq, Int.reduceNe, Int.reduceLT, Int.reduceLE, Int.reduceGT, Int.reduceGE, Int.reduceAdd, Int.reduceSub, Int.reduceNeg, Int.reduceMul, not_true_eq_false, not_false_eq_true, true_and, and_true, Int.reduceToNat]
    refine PCall.call (ih x (List.mem_of_getElem? hx)) ?_
    have ht := ltL_take hx
    rw [Int.toNat_natCast, hp] at ht
    generalize lt x = p at ht ⊢
    obtain ⟨c, d⟩ := p
    cases a <;> cases b <;> cases c <;> cases d <;> simp only [go_sem, Nat.reduceAdd, Nat.reduceSub, Nat.reduceMul, Nat.reduceLT, Nat.reduceLeDiff, Nat.reduceEqDiff, Nat.reduceBEq, Nat.reduceBNe, Nat.reducePow, Int.reduceEq, Int.reduceNe, Int.reduceLT, Int.reduceLE, Int.reduceGT, Int.reduceGE, Int.reduceAdd, Int.reduceSub, Int.reduceNeg, Int.reduceMul, not_true_eq_false, not_false_eq_true, true_and, and_true, Int.reduceToNat] <;> exact loopGo _ (by omega) ⟨i + 1, _, _, by omega, rfl, ht, .next rfl (by omega) (.cons rfl (.cons rfl (.cons rfl (.nil rfl)))), rfl⟩
  · rw [List.take_of_length_le (by omega)] at hp
    rw [hp]
    simp only [go_sem, Nat.reduceAdd, Nat.reduceSub, Nat.reduceMul, Nat.reduceLT, Nat.reduceLeDiff, Nat.reduceEqDiff, Nat.reduceBEq, Nat.reduceBNe, Nat.reducePow, Int.reduceEq, Int.reduceNe, Int.reduceLT, Int.reduceLE, Int.reduceGT, Int.reduceGE, Int.reduceAdd, Int.reduceSub, Int.reduceNeg, Int.reduceMul, not_true_eq_false, not_false_eq_true, true_and, and_true, Int.reduceToNat]
    exact finT rfl

theorem n17 : (Try.f17.name == "runtime.NumGoroutine") = false := by kernel_rfl
theorem late17 (e : Ex) : PCall Try.prog 17 [e.enc] (bbA (lt e)) := by
  induction e using Ex.ind with
  | _ e ih =>
  refine pcall_of_vc tabOK Try.func17 n17 rfl (pure_cons (pure_enc e) pure_nil) (pure_bb _ _) (n := 58) rfl (rs := [.tmp 2, .tmp 3]) rfl ?_
  have h57 := late57 e.subs ih
  rw [lt_eq]
  simp only [go_sem, Nat.reduceAdd, Nat.reduceSub, Nat.reduceMul, Nat.reduceLT, Nat.reduceLeDiff, Nat.reduceEqDiff, Nat.reduceBEq, Nat.reduceBNe, Nat.reducePow, Int.reduceEq, Int.reduceNe, Int.reduceLT, Int.reduceLE, Int.reduceGT, Int.reduceGE, Int.reduceAdd, Int.reduceSub, Int.reduceNeg, Int.reduceMul, not_true_eq_false, not_false_eq_true, true_and, and_true, Int.reduceToNat]
  refine PCall.call h57 ?_
  have hH : ∀ x, e.subs[0]? = some x → ltH e.subs = (lt x).1 := by
    intro x hx
    cases hs : e.subs with
    | nil => rw [hs] at hx; simp at hx
    | cons y l => rw [hs] at hx; simp at hx; subst hx; simp [ltH]
  have hE : ¬ ((e.subs.length : Int) > 0) → ltH e.subs = (ltL e.subs).1 := by
    intro hx
    cases hs : e.subs with
    | nil => simp [ltH, ltL]
    | cons y l => rw [hs] at hx; simp at hx
  generalize ltL e.subs = p at *
  generalize ltH e.subs = f at *
  obtain ⟨a, b⟩ := p
  cases a <;> cases b
  all_goals repeat' first
    | exact finB rfl
    | exact finI rfl
    | exact finP rfl
    | exact absurd rfl (by assumption)
    | simp only [go_sem, Nat.reduceAdd, Nat.reduceSub, Nat.reduceMul, Nat.reduceLT, Nat.reduceLeDiff, Nat.reduceEqDiff, Nat.reduceBEq, Nat.reduceBNe, Nat.reducePow, Int.reduceEq, Int.reduceNe, Int.reduceLT, Int.reduceLE, Int.reduceGT, Int.reduceGE, Int.reduceAdd, Int.reduceSub, Int.reduceNeg, Int.reduceMul, not_true_eq_false, not_false_eq_true, true_and, and_true, Int.reduceToNat]
    | (intro _)
    | refine brK_dec (fun _ => ?_) (fun _ => ?_)
    | refine brK_any ?_ ?_
    | refine gK_dec (fun _ => ?_) (fun _ => ?_)
    | refine gK_any ?_ ?_
    | refine gqK_dec (fun _ => ?_) (fun _ => ?_)
    | refine ⟨by omega, ?_⟩
    | refine elemHave (by omega) (by assumption) ?_
    | refine elemMap (by omega) (by omega) (fun x hx => ?_)
    | refine drawK mo (by kernel_rfl) ?_
    | (refine finBBk rfl rfl ?_; first | (simp [ltK, *]; done) | (rw [hE (by assumption)]; simp [ltK, *]; done))
    | (refine PCall.call (ih _ (List.mem_of_getElem? hx)) ?_; rw [hH x hx]; generalize lt x = q; obtain ⟨c, d⟩ := q; cases c)

abbrev keptF (l s w : Bool) : Bool × Bool := if !s || l then (false, false) else (w, true)

theorem n103 : (Try.f103.name == "runtime.NumGoroutine") = false := by kernel_rfl
theorem kept103 (l s w : Bool) : PCall Try.prog 103 [.agg [.b l, .b s], .b w] (gbA (keptF l s w)) := by
  refine pcall_of_vc tabOK Try.func103 n103 rfl (pure_cons (pure_gb _ _) (pure_cons (.raw _) pure_nil)) (pure_gb _ _) (n := 15) rfl (rs := [.cell 4 81]) rfl ?_
  cases l <;> cases s
  all_goals repeat' first
    | exact finB rfl
    | exact finI rfl
    | exact finP rfl
    | exact absurd rfl (by assumption)
    | simp only [go_sem, Nat.reduceAdd, Nat.reduceSub, Nat.reduceMul, Nat.reduceLT, Nat.reduceLeDiff, Nat.reduceEqDiff, Nat.reduceBEq, Nat.reduceBNe, Nat.reducePow, Int.reduceEq, Int.reduceNe, Int.reduceLT, Int.reduceLE, Int.reduceGT, Int.reduceGE, Int.reduceAdd, Int.reduceSub, Int.reduceNeg, Int.reduceMul, not_true_eq_false, not_false_eq_true, true_and, and_true, Int.reduceToNat]
    | (intro _)
    | refine brK_dec (fun _ => ?_) (fun _ => ?_)
    | refine brK_any ?_ ?_
    | refine gK_dec (fun _ => ?_) (fun _ => ?_)
    | refine gK_any ?_ ?_
    | refine gqK_dec (fun _ => ?_) (fun _ => ?_)
    | refine ⟨by omega, ?_⟩
    | refine elemHave (by omega) (by assumption) ?_
    | refine elemMap (by omega) (by omega) (fun x hx => ?_)
    | refine drawK mo (by kernel_rfl) ?_

theorem n102 : (Try.f102.name == "runtime.NumGoroutine") = false := by kernel_rfl
theorem both102 (a b : Bool) (x : Ex) (h : PCall Try.prog 56 [x.enc] (gbA (lt x))) : PCall Try.prog 102 [.agg [.b a, .b b], x.enc] (gbA (a || (lt x).1, b && (lt x).2)) := by
  refine pcall_of_vc tabOK Try.func102 n102 rfl (pure_cons (pure_gb _ _) (pure_cons (pure_enc x) pure_nil)) (pure_gb _ _) (n := 21) rfl (rs := [.cell 4 81]) rfl ?_
  generalize lt x = p at *
  obtain ⟨c, d⟩ := p
  cases a <;> cases b
  all_goals repeat' first
    | exact finB rfl
    | exact finI rfl
    | exact finP rfl
    | exact absurd rfl (by assumption)
    | simp only [go_sem, Nat.reduceAdd, Nat.reduceSub, Nat.reduceMul, Nat.reduceLT, Nat.reduceLeDiff, Nat.reduceEqDiff, Nat.reduceBEq, Nat.reduceBNe, Nat.reducePow, Int.reduceEq, Int.reduceNe, Int.reduceLT, Int.reduceLE, Int.reduceGT, Int.reduceGE, Int.reduceAdd, Int.reduceSub, Int.reduceNeg, Int.reduceMul, not_true_eq_false, not_false_eq_true, true_and, and_true, Int.reduceToNat]
    | (intro _)
    | refine brK_dec (fun _ => ?_) (fun _ => ?_)
    | refine brK_any ?_ ?_
    | refine gK_dec (fun _ => ?_) (fun _ => ?_)
    | refine gK_any ?_ ?_
    | refine gqK_dec (fun _ => ?_) (fun _ => ?_)
    | refine ⟨by omega, ?_⟩
    | refine elemHave (by omega) (by assumption) ?_
    | refine elemMap (by omega) (by omega) (fun x hx => ?_)
    | refine drawK mo (by kernel_rfl) ?_
    | (refine PCall.call h ?_; cases c <;> cases d)

theorem n101 : (Try.f101.name == "runtime.NumGoroutine") = false := by kernel_rfl
theorem fold101 (l : List Ex) (a b : Bool) (ih : ∀ x ∈ l, PCall Try.prog 56 [x.enc] (gbA (lt x))) : PCall Try.prog 101 [.lst 6 (l.map Ex.enc) none, .agg [.b a, .b b], .fn (.func 102) [] []] (gbA (a || (ltL l).1, b && (ltL l).2)) := by
  refine pcall_of_vc tabOK Try.func101 n101 rfl (pure_cons (pure_lst l) (pure_cons (pure_gb _ _) (pure_cons (.fn _ _ _ pure_nil pure_nil) pure_nil))) (pure_gb _ _) (n := 21) rfl (rs := [.cell 6 81]) rfl ?_
  simp only [go_sem, Nat.reduceAdd, Nat.reduceSub, Nat.reduceMul, Nat.reduceLT, Nat.reduceLeDiff, Nat.reduceEqDiff, Nat.reduceBEq, Nat.reduceBNe, Nat.reducePow, Int.reduceEq, Int.reduceNe, Int.reduceLT, Int.reduceLE, Int.reduceGT, Int.reduceGE, Int.reduceAdd, Int.reduceSub, Int.reduceNeg, Int.reduceMul, not_true_eq_false, not_false_eq_true, true_and, and_true, Int.reduceToNat]
  intro hm
  refine loop_rule (fun n s h => ∃ (i : Nat) (c d : Bool) (rest : List Blk), i ≤ l.length ∧ n = l.length - i ∧ (c = (a || (ltL (l.take i)).1) ∧ d = (b && (ltL (l.take i)).2)) ∧
    Vis 21 [(11, .i i), (4, .ptr 0 0), (6, .ptr 1 0), (2, .fn (.func 102) [] []), (9, .lst 6 (l.map Ex.enc) none), (10, .i l.length)] s ∧ h = .cells 81 [.b c, .b d] :: .cells 81 [.b false, .b false] :: rest) l.length
    ⟨0, a, b, [], by omega, by omega, by simp [ltL], .cons rfl (.cons rfl (.cons rfl (.cons rfl (.cons rfl (.cons rfl (.nil rfl)))))), rfl⟩ ?_
  rintro n s h ⟨i, c, d, rest, hi, rfl, hp, hv, rfl⟩
  obtain ⟨j, rfl⟩ := hv.out
  simp only [go_sem, Nat.reduceAdd, Nat.reduceSub, Nat.reduceMul, Nat.reduceLT, Nat.reduceLeDiff, Nat.reduceEqDiff, Nat.reduceBEq, Nat.reduceBNe, Nat.reducePow, Int.reduceEq, Int.reduceNe, Int.reduceLT, Int.reduceLE, Int.reduceGT, Int.reduceGE, Int.reduceAdd, Int.reduceSub, Int.reduceNeg, Int.reduceMul, not_true_eq_false, not_false_eq_true, true_and, and_true, Int.reduceToNat]
  refine brK_dec (fun hlt => ?_) (fun hge => ?_)
  · simp only [go_sem, Nat.reduceAdd, Nat.reduceSub, Nat.reduceMul, Nat.reduceLT, Nat.reduceLeDiff, Nat.reduceEqDiff, Nat.reduceBEq, Nat.reduceBNe, Nat.reducePow, Int.reduceEq, Int.reduceNe, Int.reduceLT, Int.reduceLE, Int.reduceGT, Int.reduceGE, Int.reduceAdd, Int.reduceSub, Int.reduceNeg, Int.reduceMul, not_true_eq_false, not_false_eq_true, true_and, and_true, Int.reduceToNat]
    refine elemMap (by omega) (by omega) (fun x hx => ?_)
    simp only [go_sem, Nat.reduceAdd, Nat.reduceSub, Nat.reduceMul, Nat.reduceLT, Nat.reduceLeDiff, Nat.reduceEqDiff, Nat.reduceBEq, Nat.reduceBNe, Nat.reducePow, Int.reduceEq, Int.reduceNe, Int.reduceLT, Int.reduceLE, Int.reduceGT, Int.reduceGE, Int.reduceAdd, Int.reduceSub, Int.reduceNeg, Int.reduceMul, not_true_eq_false, not_false_eq_true, true_and, and_true, Int.reduceToNat]
    refine PCall.call (both102 c d x (ih x (List.mem_of_getElem? hx))) ?_
    simp only [go_sem, Nat.reduceAdd, Nat.reduceSub, Nat.reduceMul, Nat.reduceLT, Nat.reduceLeDiff, Nat.reduceEqDiff, Nat.reduceBEq, Nat.reduceBNe, Nat.reducePow, Int.reduceEq, Int.reduceNe, Int.reduceLT, Int.reduceLE, Int.reduceGT, Int.reduceGE, Int.reduceAdd, Int.reduceSub, Int.reduceNeg, Int.reduceMul, not_true_eq_false, not_false_eq_true, true_and, and_true, Int.reduceToNat]
    have ht := ltL_take hx
    rw [Int.toNat_natCast] at ht
    refine loopGo _ (by omega) ⟨i + 1, _, _, _, by omega, rfl, ?_, .next rfl (by omega) (.cons rfl (.cons rfl (.cons rfl (.cons rfl (.cons rfl (.nil rfl)))))), rfl⟩
    rw [ht, hp.1, hp.2]
    simp [Bool.or_assoc, Bool.and_assoc]
  · simp only [go_sem, Nat.reduceAdd, Nat.reduceSub, Nat.reduceMul, Nat.reduceLT, Nat.reduceLeDiff, Nat.reduceEqDiff, Nat.reduceBEq, Nat.reduceBNe, Nat.reducePow, Int.reduceEq, Int.reduceNe, Int.reduceLT, Int.reduceLE, Int.reduceGT, Int.reduceGE, Int.reduceAdd, Int.reduceSub, Int.reduceNeg, Int.reduceMul, not_true_eq_false, not_false_eq_true, true_and, and_true, Int.reduceToNat]
    rw [List.take_of_length_le (by omega)] at hp
    rw [← hp.1, ← hp.2]
    exact finP rfl
end Go.Proofs.Ytfjjckaiopbbkaa
