import Derived.Test.YtfjjckaiopbbkaaReads2
import Derived.Test.YtfjjckaiopbbkaaAbsW
namespace Go.Proofs.Ytfjjckaiopbbkaa
open Go.Abs
set_option maxRecDepth 20000
set_option linter.unusedSimpArgs false
set_option linter.unusedVariables false
set_option maxHeartbeats 1000000
attribute [local irreducible] vc vcOps vcStep vcGuard prK hrK gK gsK brK callK ElemK SeqK BlockK ScopeK OpsK CallK LoopK LoopGo finPost ACall PCall PCallE BCall vqOps vqStep vqGuard qrK heK pcK gqK gqsK QOpsK qcallK DrawK
theorem pure_flat_strs (l : List ByteArray) : ∀ c ∈ flat (l.map AV.s), Go.Abs.Pure c := by
  have := pure_strs l
  cases this with
  | lst _ _ h => exact h

theorem reads43T (e : Ex) (hl : (readsF e).length ≤ 100000) {h : List Blk} {K : AV → List Blk → Prop} (hK : K (.lst 1 ((readsF e).map AV.s) (some h.length)) (h ++ [.tok 9 1 (readsF e).length])) : ACall Try.prog 43 [e.enc] h K := by
  refine tcall (e := 9) (sz := 1) (l := (readsF e).map AV.s) (fun KK hk0 => acallT_of_vc tabOK Try.func43 n43 rfl (n := 52) rfl (rs := [.tmp 2]) rfl (e := 9) (sz := 1) (l := (readsF e).map AV.s) ?_) (pure_cons (pure_enc e) pure_nil) (pure_flat_strs _) (by simpa using hK)
  have hpl := pure_flat_strs (readsF e)
  clear hK
  rw [readsF_eq] at hl hpl hk0 ⊢
  repeat' first | simp only [go_sem, Nat.reduceAdd, Nat.reduceSub, Nat.reduceMul, Nat.reduceLT, Nat.reduceLeDiff, Nat.reduceEqDiff, Nat.reduceBEq, Nat.reduceBNe, Nat.reducePow, Int.reduceEq, Int.reduceNe, Int.reduceLT, Int.reduceLE, Int.reduceGT, Int.reduceGE, Int.reduceAdd, Int.reduceSub, Int.reduceNeg, Int.reduceMul, not_true_eq_false, not_false_eq_true, true_and, and_true, Int.reduceToNat] | refine ⟨by omega, ?_⟩ | refine brK_dec (fun _ => ?_) (fun _ => ?_) | refine gqK_dec (fun _ => ?_) (fun _ => ?_) | refine gK_dec (fun _ => ?_) (fun _ => ?_)
  all_goals
    refine loop_fr [3, 4, 24, 25, 26, 27, 28, 29, 30, 31, 32, 33, 34, 35, 36, 37, 38, 39, 40, 41, 42, 43, 44, 45, 46, 47, 48, 49, 50] (fun m C h => ∃ (i : Nat) (r : List Blk), i ≤ e.subs.length ∧ m = e.subs.length - i ∧
      C = [(4, .raw (.int .i64 (i : Nat))), (3, .lst 1 ((mineK e.kind e.name ++ readsL ((keepK e.kind e.subs).take i)).map AV.s) (some 1))] ∧
      h = .cells 25 [.i e.kind, .i e.n, .s e.name, .i e.op, .lst 1 (e.arms.map AV.s) none, .lst 6 (e.subs.map Ex.enc) none] :: .tok 9 1 (mineK e.kind e.name ++ readsL ((keepK e.kind e.subs).take i)).length :: r)
      (e.subs.length) _ ⟨0, _, by omega, rfl, rfl, by simp [mineK, readsL, *]; rfl⟩ (.cons rfl (.cons (by simp [mineK, readsL, *]) .nil)) ?_
    rintro m C j h ⟨i, r, hi, rfl, rfl, rfl⟩
    simp only [go_sem, Nat.reduceAdd, Nat.reduceSub, Nat.reduceMul, Nat.reduceLT, Nat.reduceLeDiff, Nat.reduceEqDiff, Nat.reduceBEq, Nat.reduceBNe, Nat.reducePow, Int.reduceEq, Int.reduceNe, Int.reduceLT, Int.reduceLE, Int.reduceGT, Int.reduceGE, Int.reduceAdd, Int.reduceSub, Int.reduceNeg, Int.reduceMul, not_true_eq_false, not_false_eq_true, true_and, and_true, Int.reduceToNat]
    have hkl := keep_le e.kind e.subs
    repeat' first | simp only [go_sem, Nat.reduceAdd, Nat.reduceSub, Nat.reduceMul, Nat.reduceLT, Nat.reduceLeDiff, Nat.reduceEqDiff, Nat.reduceBEq, Nat.reduceBNe, Nat.reducePow, Int.reduceEq, Int.reduceNe, Int.reduceLT, Int.reduceLE, Int.reduceGT, Int.reduceGE, Int.reduceAdd, Int.reduceSub, Int.reduceNeg, Int.reduceMul, not_true_eq_false, not_false_eq_true, true_and, and_true, Int.reduceToNat] | (intro _) | refine ⟨by omega, ?_⟩ | refine brK_dec (fun _ => ?_) (fun _ => ?_) | refine gqK_dec (fun _ => ?_) (fun _ => ?_) | refine gK_dec (fun _ => ?_) (fun _ => ?_)
    all_goals first
      | (rw [List.take_of_length_le (keep_end (by omega))]; exact finTk (k := 1) hk0 rfl rfl rfl (by simp) hpl)
      | (have hend : (keepK e.kind e.subs).length ≤ i := keep_end (by omega)
         exact loopFr (e.subs.length - (i + 1)) (by omega) ⟨i + 1, r, by omega, rfl, rfl, by rw [List.take_of_length_le hend, List.take_of_length_le (by omega)]⟩ (.next rfl (by omega) (.cons (by rw [List.take_of_length_le hend, List.take_of_length_le (by omega)]; rfl) .nil)) rfl)
      | (have hlt : i < (keepK e.kind e.subs).length := keep_go (by assumption) (by first | exact Or.inl (by assumption) | exact Or.inr (by assumption)) (by assumption)
         have hlt' : i < e.subs.length := by omega
         have h1 := reads_le hlt
         have h2 := readsL_le (l := keepK e.kind e.subs) (k := i + 1)
         have h3 := readsL_take hlt
         rw [keep_at hlt] at h1 h3
         have hl' := hl
         rw [h3] at h2
         simp only [List.length_append] at hl' h1 h2
         refine elemK (e.subs[i]).enc (by omega) (map_at _ (List.getElem?_eq_getElem hlt')) ?_
         simp only [go_sem, Nat.reduceAdd, Nat.reduceSub, Nat.reduceMul, Nat.reduceLT, Nat.reduceLeDiff, Nat.reduceEqDiff, Nat.reduceBEq, Nat.reduceBNe, Nat.reducePow, Int.reduceEq, Int.reduceNe, Int.reduceLT, Int.reduceLE, Int.reduceGT, Int.reduceGE, Int.reduceAdd, Int.reduceSub, Int.reduceNeg, Int.reduceMul, not_true_eq_false, not_false_eq_true, true_and, and_true, Int.reduceToNat]
         refine PCall.call (reads43 e.subs[i] (by omega)) ?_
         simp only [go_sem, Nat.reduceAdd, Nat.reduceSub, Nat.reduceMul, Nat.reduceLT, Nat.reduceLeDiff, Nat.reduceEqDiff, Nat.reduceBEq, Nat.reduceBNe, Nat.reducePow, Int.reduceEq, Int.reduceNe, Int.reduceLT, Int.reduceLE, Int.reduceGT, Int.reduceGE, Int.reduceAdd, Int.reduceSub, Int.reduceNeg, Int.reduceMul, not_true_eq_false, not_false_eq_true, true_and, and_true, Int.reduceToNat]
         refine ⟨by omega, ?_⟩
         refine loopFr (e.subs.length - (i + 1)) (by omega) ⟨i + 1, r, by omega, rfl, rfl, ?_⟩ (.next rfl (by omega) (.cons ?_ .nil)) rfl
         · rw [h3]; simp [slot]; try omega
         · rw [h3]; simp [slot])

theorem reads42T (e : Ex) (hl : (readsF e).length ≤ 100000) {h : List Blk} {K : AV → List Blk → Prop} (hK : K (.lst 1 ((readsF e).map AV.s) (some h.length)) (h ++ [.tok 9 1 (readsF e).length])) : ACall Try.prog 42 [e.enc] h K := by
  refine tcall (e := 9) (sz := 1) (l := (readsF e).map AV.s) (fun KK hk0 => acallT_of_vc tabOK Try.func42 n42 rfl (n := 41) rfl (rs := [.tmp 2]) rfl (e := 9) (sz := 1) (l := (readsF e).map AV.s) ?_) (pure_cons (pure_enc e) pure_nil) (pure_flat_strs _) (by simpa using hK)
  have hpl := pure_flat_strs (readsF e)
  clear hK
  rw [readsF_eq] at hl hpl hk0 ⊢
  repeat' first | simp only [go_sem, Nat.reduceAdd, Nat.reduceSub, Nat.reduceMul, Nat.reduceLT, Nat.reduceLeDiff, Nat.reduceEqDiff, Nat.reduceBEq, Nat.reduceBNe, Nat.reducePow, Int.reduceEq, Int.reduceNe, Int.reduceLT, Int.reduceLE, Int.reduceGT, Int.reduceGE, Int.reduceAdd, Int.reduceSub, Int.reduceNeg, Int.reduceMul, not_true_eq_false, not_false_eq_true, true_and, and_true, Int.reduceToNat] | (intro _) | refine ⟨by omega, ?_⟩ | refine brK_dec (fun _ => ?_) (fun _ => ?_) | refine gqK_dec (fun _ => ?_) (fun _ => ?_) | refine gK_dec (fun _ => ?_) (fun _ => ?_)
  iterate 3
    · have hk : keepK e.kind e.subs = e.subs := by simp [keepK, *]
      have hm : mineK e.kind e.name = [e.name] := by simp [mineK, *]
      rw [hk, hm] at hl hpl hk0 ⊢
      refine loop_fr [3, 6, 31, 32, 33, 34, 35, 36, 37, 38, 39] (fun m C h => ∃ (i : Nat) (b : Blk) (r : List Blk), i ≤ e.subs.length ∧ m = e.subs.length - i ∧
        C = [(31, .raw (.int .i64 (i : Nat))), (3, .lst 1 (([e.name] ++ readsL (e.subs.take i)).map AV.s) (some 2))] ∧
        h = exB e :: b :: .tok 9 1 ([e.name] ++ readsL (e.subs.take i)).length :: r)
        (e.subs.length) _ ⟨0, _, _, by omega, rfl, rfl, by simp [readsL]; exact ⟨rfl, rfl⟩⟩ (.cons rfl (.cons (by simp [readsL]) .nil)) ?_
      rintro m C j h ⟨i, b, r, hi, rfl, rfl, rfl⟩
      simp only [go_sem, Nat.reduceAdd, Nat.reduceSub, Nat.reduceMul, Nat.reduceLT, Nat.reduceLeDiff, Nat.reduceEqDiff, Nat.reduceBEq, Nat.reduceBNe, Nat.reducePow, Int.reduceEq, Int.reduceNe, Int.reduceLT, Int.reduceLE, Int.reduceGT, Int.reduceGE, Int.reduceAdd, Int.reduceSub, Int.reduceNeg, Int.reduceMul, not_true_eq_false, not_false_eq_true, true_and, and_true, Int.reduceToNat]
      refine brK_dec (fun hlt => ?_) (fun hge => ?_)
      · have hlt' : i < e.subs.length := by omega
        have h1 := reads_le hlt'
        have h2 := readsL_le (l := e.subs) (k := i + 1)
        have h3 := readsL_take hlt'
        have hl' := hl
        rw [h3] at h2
        simp only [List.length_append, List.length_cons, List.length_nil] at hl' h1 h2
        simp only [go_sem, Nat.reduceAdd, Nat.reduceSub, Nat.reduceMul, Nat.reduceLT, Nat.reduceLeDiff, Nat.reduceEqDiff, Nat.reduceBEq, Nat.reduceBNe, Nat.reducePow, Int.reduceEq, Int.reduceNe, Int.reduceLT, Int.reduceLE, Int.reduceGT, Int.reduceGE, Int.reduceAdd, Int.reduceSub, Int.reduceNeg, Int.reduceMul, not_true_eq_false, not_false_eq_true, true_and, and_true, Int.reduceToNat]
        refine elemK (e.subs[i]).enc (by omega) (map_at _ (List.getElem?_eq_getElem hlt')) ?_
        simp only [go_sem, Nat.reduceAdd, Nat.reduceSub, Nat.reduceMul, Nat.reduceLT, Nat.reduceLeDiff, Nat.reduceEqDiff, Nat.reduceBEq, Nat.reduceBNe, Nat.reducePow, Int.reduceEq, Int.reduceNe, Int.reduceLT, Int.reduceLE, Int.reduceGT, Int.reduceGE, Int.reduceAdd, Int.reduceSub, Int.reduceNeg, Int.reduceMul, not_true_eq_false, not_false_eq_true, true_and, and_true, Int.reduceToNat]
        refine PCall.call (reads42 e.subs[i] (by omega)) ?_
        simp only [go_sem, Nat.reduceAdd, Nat.reduceSub, Nat.reduceMul, Nat.reduceLT, Nat.reduceLeDiff, Nat.reduceEqDiff, Nat.reduceBEq, Nat.reduceBNe, Nat.reducePow, Int.reduceEq, Int.reduceNe, Int.reduceLT, Int.reduceLE, Int.reduceGT, Int.reduceGE, Int.reduceAdd, Int.reduceSub, Int.reduceNeg, Int.reduceMul, not_true_eq_false, not_false_eq_true, true_and, and_true, Int.reduceToNat]
        refine ⟨by omega, ?_⟩
        refine loopFr (e.subs.length - (i + 1)) (by omega) ⟨i + 1, b, r ++ [exB e.subs[i]], by omega, rfl, rfl, ?_⟩ (.next rfl (by omega) (.cons ?_ .nil)) rfl
        · rw [h3]; simp [slot]; try rfl
        · rw [h3]; simp [slot]
      · rw [List.take_of_length_le (by omega)]
        simp only [go_sem, Nat.reduceAdd, Nat.reduceSub, Nat.reduceMul, Nat.reduceLT, Nat.reduceLeDiff, Nat.reduceEqDiff, Nat.reduceBEq, Nat.reduceBNe, Nat.reducePow, Int.reduceEq, Int.reduceNe, Int.reduceLT, Int.reduceLE, Int.reduceGT, Int.reduceGE, Int.reduceAdd, Int.reduceSub, Int.reduceNeg, Int.reduceMul, not_true_eq_false, not_false_eq_true, true_and, and_true, Int.reduceToNat]
        exact finTk (k := 2) hk0 rfl rfl rfl (by simp) hpl
  · have hk : keepK e.kind e.subs = [] := by simp [keepK, *]
    have hm : mineK e.kind e.name = [] := by simp [mineK, *]
    rw [hk, hm, readsL] at hl hpl hk0 ⊢
    refine loop_ghost (ghost_tok 3 9 1 rfl) ?_
    simp only [go_sem, Nat.reduceAdd, Nat.reduceSub, Nat.reduceMul, Nat.reduceLT, Nat.reduceLeDiff, Nat.reduceEqDiff, Nat.reduceBEq, Nat.reduceBNe, Nat.reducePow, Int.reduceEq, Int.reduceNe, Int.reduceLT, Int.reduceLE, Int.reduceGT, Int.reduceGE, Int.reduceAdd, Int.reduceSub, Int.reduceNeg, Int.reduceMul, not_true_eq_false, not_false_eq_true, true_and, and_true, Int.reduceToNat]
    refine loop_frH [3, 6, 31, 32, 33, 34, 35, 36, 37, 38, 39] (fun m C => C = [(31, .raw (.int .i64 0)), (3, .lst 1 [] (some 1))]) 0 _ rfl (.cons rfl (.cons rfl .nil)) ?_
    rintro m C j rfl
    simp only [go_sem, Nat.reduceAdd, Nat.reduceSub, Nat.reduceMul, Nat.reduceLT, Nat.reduceLeDiff, Nat.reduceEqDiff, Nat.reduceBEq, Nat.reduceBNe, Nat.reducePow, Int.reduceEq, Int.reduceNe, Int.reduceLT, Int.reduceLE, Int.reduceGT, Int.reduceGE, Int.reduceAdd, Int.reduceSub, Int.reduceNeg, Int.reduceMul, not_true_eq_false, not_false_eq_true, true_and, and_true, Int.reduceToNat]
    exact finTk (k := 1) hk0 rfl rfl rfl (by simp) hpl
  · have hk : keepK e.kind e.subs = List.take (if (e.subs.length : Int) < 1 then (e.subs.length : Int) else 1).toNat e.subs := by
      by_cases h : (e.subs.length : Int) < 1
      · have : e.subs = [] := List.length_eq_zero_iff.1 (by omega)
        simp [keepK, *]
      · simp [keepK, h, *]
    generalize List.take (if (e.subs.length : Int) < 1 then (e.subs.length : Int) else 1).toNat e.subs = S at *
    have hm : mineK e.kind e.name = [] := by simp [mineK, *]
    rw [hk, hm, List.nil_append] at hl hpl hk0 ⊢
    refine loop_ghost (ghost_tok 3 9 1 rfl) ?_
    simp only [go_sem, Nat.reduceAdd, Nat.reduceSub, Nat.reduceMul, Nat.reduceLT, Nat.reduceLeDiff, Nat.reduceEqDiff, Nat.reduceBEq, Nat.reduceBNe, Nat.reducePow, Int.reduceEq, Int.reduceNe, Int.reduceLT, Int.reduceLE, Int.reduceGT, Int.reduceGE, Int.reduceAdd, Int.reduceSub, Int.reduceNeg, Int.reduceMul, not_true_eq_false, not_false_eq_true, true_and, and_true, Int.reduceToNat]
    refine loop_fr [3, 6, 31, 32, 33, 34, 35, 36, 37, 38, 39] (fun m C h => ∃ (i : Nat) (r : List Blk), i ≤ S.length ∧ m = S.length - i ∧
      C = [(31, .raw (.int .i64 (i : Nat))), (3, .lst 1 ((readsL (S.take i)).map AV.s) (some 1))] ∧ h = exB e :: .tok 9 1 (readsL (S.take i)).length :: r)
      S.length _ ⟨0, [], by omega, rfl, rfl, rfl⟩ (.cons rfl (.cons rfl .nil)) ?_
    rintro m C j h ⟨i, r, hi, rfl, rfl, rfl⟩
    simp only [go_sem, Nat.reduceAdd, Nat.reduceSub, Nat.reduceMul, Nat.reduceLT, Nat.reduceLeDiff, Nat.reduceEqDiff, Nat.reduceBEq, Nat.reduceBNe, Nat.reducePow, Int.reduceEq, Int.reduceNe, Int.reduceLT, Int.reduceLE, Int.reduceGT, Int.reduceGE, Int.reduceAdd, Int.reduceSub, Int.reduceNeg, Int.reduceMul, not_true_eq_false, not_false_eq_true, true_and, and_true, Int.reduceToNat]
    refine brK_dec (fun hlt => ?_) (fun hge => ?_)
    · have hlt' : i < S.length := by omega
      have h1 := reads_le hlt'
      have h2 := readsL_le (l := S) (k := i + 1)
      have h3 := readsL_take hlt'
      rw [h3] at h2
      simp only [List.length_append] at h1 h2
      simp only [go_sem, Nat.reduceAdd, Nat.reduceSub, Nat.reduceMul, Nat.reduceLT, Nat.reduceLeDiff, Nat.reduceEqDiff, Nat.reduceBEq, Nat.reduceBNe, Nat.reducePow, Int.reduceEq, Int.reduceNe, Int.reduceLT, Int.reduceLE, Int.reduceGT, Int.reduceGE, Int.reduceAdd, Int.reduceSub, Int.reduceNeg, Int.reduceMul, not_true_eq_false, not_false_eq_true, true_and, and_true, Int.reduceToNat]
      refine elemK (S[i]).enc (by omega) (map_at _ (List.getElem?_eq_getElem hlt')) ?_
      simp only [go_sem, Nat.reduceAdd, Nat.reduceSub, Nat.reduceMul, Nat.reduceLT, Nat.reduceLeDiff, Nat.reduceEqDiff, Nat.reduceBEq, Nat.reduceBNe, Nat.reducePow, Int.reduceEq, Int.reduceNe, Int.reduceLT, Int.reduceLE, Int.reduceGT, Int.reduceGE, Int.reduceAdd, Int.reduceSub, Int.reduceNeg, Int.reduceMul, not_true_eq_false, not_false_eq_true, true_and, and_true, Int.reduceToNat]
      refine PCall.call (reads42 S[i] (by omega)) ?_
      simp only [go_sem, Nat.reduceAdd, Nat.reduceSub, Nat.reduceMul, Nat.reduceLT, Nat.reduceLeDiff, Nat.reduceEqDiff, Nat.reduceBEq, Nat.reduceBNe, Nat.reducePow, Int.reduceEq, Int.reduceNe, Int.reduceLT, Int.reduceLE, Int.reduceGT, Int.reduceGE, Int.reduceAdd, Int.reduceSub, Int.reduceNeg, Int.reduceMul, not_true_eq_false, not_false_eq_true, true_and, and_true, Int.reduceToNat]
      refine ⟨by first | omega | (simp; omega), ?_⟩
      refine loopFr (S.length - (i + 1)) (by omega) ⟨i + 1, r ++ [exB S[i]], by omega, rfl, rfl, ?_⟩ (.next rfl (by omega) (.cons ?_ .nil)) rfl
      · rw [h3]; simp; try rfl
      · rw [h3]; simp [slot]; try omega
    · rw [List.take_of_length_le (by omega)]
      simp only [go_sem, Nat.reduceAdd, Nat.reduceSub, Nat.reduceMul, Nat.reduceLT, Nat.reduceLeDiff, Nat.reduceEqDiff, Nat.reduceBEq, Nat.reduceBNe, Nat.reducePow, Int.reduceEq, Int.reduceNe, Int.reduceLT, Int.reduceLE, Int.reduceGT, Int.reduceGE, Int.reduceAdd, Int.reduceSub, Int.reduceNeg, Int.reduceMul, not_true_eq_false, not_false_eq_true, true_and, and_true, Int.reduceToNat]
      exact finTk (k := 1) hk0 rfl rfl rfl (by simp) hpl
  · have hk : keepK e.kind e.subs = e.subs := by simp [keepK, *]
    have hm : mineK e.kind e.name = [] := by simp [mineK, *]
    rw [hk, hm, List.nil_append] at hl hpl hk0 ⊢
    refine loop_ghost (ghost_tok 3 9 1 rfl) ?_
    simp only [go_sem, Nat.reduceAdd, Nat.reduceSub, Nat.reduceMul, Nat.reduceLT, Nat.reduceLeDiff, Nat.reduceEqDiff, Nat.reduceBEq, Nat.reduceBNe, Nat.reducePow, Int.reduceEq, Int.reduceNe, Int.reduceLT, Int.reduceLE, Int.reduceGT, Int.reduceGE, Int.reduceAdd, Int.reduceSub, Int.reduceNeg, Int.reduceMul, not_true_eq_false, not_false_eq_true, true_and, and_true, Int.reduceToNat]
    refine loop_fr [3, 6, 31, 32, 33, 34, 35, 36, 37, 38, 39] (fun m C h => ∃ (i : Nat) (r : List Blk), i ≤ e.subs.length ∧ m = e.subs.length - i ∧
      C = [(31, .raw (.int .i64 (i : Nat))), (3, .lst 1 ((readsL (e.subs.take i)).map AV.s) (some 1))] ∧ h = exB e :: .tok 9 1 (readsL (e.subs.take i)).length :: r)
      e.subs.length _ ⟨0, [], by omega, rfl, rfl, rfl⟩ (.cons rfl (.cons rfl .nil)) ?_
    rintro m C j h ⟨i, r, hi, rfl, rfl, rfl⟩
    simp only [go_sem, Nat.reduceAdd, Nat.reduceSub, Nat.reduceMul, Nat.reduceLT, Nat.reduceLeDiff, Nat.reduceEqDiff, Nat.reduceBEq, Nat.reduceBNe, Nat.reducePow, Int.reduceEq, Int.reduceNe, Int.reduceLT, Int.reduceLE, Int.reduceGT, Int.reduceGE, Int.reduceAdd, Int.reduceSub, Int.reduceNeg, Int.reduceMul, not_true_eq_false, not_false_eq_true, true_and, and_true, Int.reduceToNat]
    refine brK_dec (fun hlt => ?_) (fun hge => ?_)
    · have hlt' : i < e.subs.length := by omega
      have h1 := reads_le hlt'
      have h2 := readsL_le (l := e.subs) (k := i + 1)
      have h3 := readsL_take hlt'
      rw [h3] at h2
      simp only [List.length_append] at h1 h2
      simp only [go_sem, Nat.reduceAdd, Nat.reduceSub, Nat.reduceMul, Nat.reduceLT, Nat.reduceLeDiff, Nat.reduceEqDiff, Nat.reduceBEq, Nat.reduceBNe, Nat.reducePow, Int.reduceEq, Int.reduceNe, Int.reduceLT, Int.reduceLE, Int.reduceGT, Int.reduceGE, Int.reduceAdd, Int.reduceSub, Int.reduceNeg, Int.reduceMul, not_true_eq_false, not_false_eq_true, true_and, and_true, Int.reduceToNat]
      refine elemK (e.subs[i]).enc (by omega) (map_at _ (List.getElem?_eq_getElem hlt')) ?_
      simp only [go_sem, Nat.reduceAdd, Nat.reduceSub, Nat.reduceMul, Nat.reduceLT, Nat.reduceLeDiff, Nat.reduceEqDiff, Nat.reduceBEq, Nat.reduceBNe, Nat.reducePow, Int.reduceEq, Int.reduceNe, Int.reduceLT, Int.reduceLE, Int.reduceGT, Int.reduceGE, Int.reduceAdd, Int.reduceSub, Int.reduceNeg, Int.reduceMul, not_true_eq_false, not_false_eq_true, true_and, and_true, Int.reduceToNat]
      refine PCall.call (reads42 e.subs[i] (by omega)) ?_
      simp only [go_sem, Nat.reduceAdd, Nat.reduceSub, Nat.reduceMul, Nat.reduceLT, Nat.reduceLeDiff, Nat.reduceEqDiff, Nat.reduceBEq, Nat.reduceBNe, Nat.reducePow, Int.reduceEq, Int.reduceNe, Int.reduceLT, Int.reduceLE, Int.reduceGT, Int.reduceGE, Int.reduceAdd, Int.reduceSub, Int.reduceNeg, Int.reduceMul, not_true_eq_false, not_false_eq_true, true_and, and_true, Int.reduceToNat]
      refine ⟨by first | omega | (simp; omega), ?_⟩
      refine loopFr (e.subs.length - (i + 1)) (by omega) ⟨i + 1, r ++ [exB e.subs[i]], by omega, rfl, rfl, ?_⟩ (.next rfl (by omega) (.cons ?_ .nil)) rfl
      · rw [h3]; simp; try rfl
      · rw [h3]; simp [slot]; try omega
    · rw [List.take_of_length_le (by omega)]
      simp only [go_sem, Nat.reduceAdd, Nat.reduceSub, Nat.reduceMul, Nat.reduceLT, Nat.reduceLeDiff, Nat.reduceEqDiff, Nat.reduceBEq, Nat.reduceBNe, Nat.reducePow, Int.reduceEq, Int.reduceNe, Int.reduceLT, Int.reduceLE, Int.reduceGT, Int.reduceGE, Int.reduceAdd, Int.reduceSub, Int.reduceNeg, Int.reduceMul, not_true_eq_false, not_false_eq_true, true_and, and_true, Int.reduceToNat]
      exact finTk (k := 1) hk0 rfl rfl rfl (by simp) hpl
end Go.Proofs.Ytfjjckaiopbbkaa
