import Derived.Test.YtfjjckaiopbbkaaSmall
import Derived.Test.YtfjjckaiopbbkaaAbsR
namespace Go.Proofs.Ytfjjckaiopbbkaa
open Go.Abs
set_option maxRecDepth 20000
set_option linter.unusedSimpArgs false
set_option linter.unusedVariables false
set_option maxHeartbeats 1000000
attribute [local irreducible] vc vcOps vcStep vcGuard prK hrK gK gsK brK callK ElemK SeqK BlockK ScopeK OpsK CallK LoopK LoopGo finPost ACall PCall PCallE BCall vqOps vqStep vqGuard qrK heK pcK gqK gqsK QOpsK qcallK DrawK
def mineK (k : Int) (m : ByteArray) : List ByteArray := if k = 3 ∨ k = 11 ∨ k = 12 then [m] else []
def keepK (k : Int) (s : List Ex) : List Ex := if k = 10 then [] else if k = 8 then s.take 1 else s
mutual
def readsF : Ex → List ByteArray
  | .mk k _ m _ _ s => mineK k m ++ (if k = 10 then [] else if k = 8 then readsH s else readsL s)
def readsH : List Ex → List ByteArray
  | [] => []
  | x :: _ => readsF x
def readsL : List Ex → List ByteArray
  | [] => []
  | x :: xs => readsF x ++ readsL xs
end
theorem readsF_eq (e : Ex) : readsF e = mineK e.kind e.name ++ readsL (keepK e.kind e.subs) := by
  cases e with
  | mk k n m o a s =>
    simp only [readsF, Ex.kind, Ex.name, Ex.subs, keepK]
    by_cases h1 : k = 10
    · simp [h1, readsL]
    · by_cases h2 : k = 8
      · cases s <;> simp [h2, readsH, readsL]
      · simp [h1, h2]
theorem readsL_append (l m : List Ex) : readsL (l ++ m) = readsL l ++ readsL m := by
  induction l with
  | nil => simp [readsL]
  | cons x l ih => simp [readsL, ih]
theorem readsL_take {l : List Ex} {k : Nat} (h : k < l.length) : readsL (l.take (k + 1)) = readsL (l.take k) ++ readsF l[k] := by
  rw [List.take_succ_eq_append_getElem h, readsL_append]
  simp [readsL]
theorem readsL_le {l : List Ex} {k : Nat} : (readsL (l.take k)).length ≤ (readsL l).length := by
  have : readsL l = readsL (l.take k) ++ readsL (l.drop k) := by rw [← readsL_append, List.take_append_drop]
  rw [this]; simp
theorem reads_le {l : List Ex} {k : Nat} (h : k < l.length) : (readsF l[k]).length ≤ (readsL l).length := by
  have h1 := readsL_take h
  have h2 := readsL_le (l := l) (k := k + 1)
  rw [h1] at h2
  simp at h2
  omega
theorem keep_le (k : Int) (s : List Ex) : (keepK k s).length ≤ s.length := by
  unfold keepK
  split
  · simp
  · split
    · simp; omega
    · exact Nat.le_refl _
theorem keep_at {k : Int} {s : List Ex} {i : Nat} (h : i < (keepK k s).length) : (keepK k s)[i] = s[i]'(Nat.lt_of_lt_of_le h (keep_le k s)) := by
  unfold keepK at h ⊢
  split
  · simp [*] at h
  · split
    · simp
    · rfl

theorem keep_end {k : Int} {s : List Ex} {i : Nat} (h : k = 10 ∨ (k = 8 ∧ (i : Int) > 0) ∨ ¬ (i : Int) < s.length) : (keepK k s).length ≤ i := by
  unfold keepK
  split
  · simp
  · split
    · simp; omega
    · omega
theorem keep_go {k : Int} {s : List Ex} {i : Nat} (h1 : ¬ k = 10) (h2 : ¬ k = 8 ∨ ¬ (i : Int) > 0) (h3 : (i : Int) < s.length) : i < (keepK k s).length := by
  unfold keepK
  split
  · contradiction
  · split
    · simp; omega
    · omega

theorem n43 : (Try.f43.name == "runtime.NumGoroutine") = false := by kernel_rfl
theorem reads43 : ∀ (e : Ex), (readsF e).length ≤ 100000 → PCall Try.prog 43 [e.enc] (.lst 1 ((readsF e).map AV.s) none) := by
  intro e
  induction e using Ex.ind with
  | _ e ih =>
  intro hl
  refine pcall_of_vc tabOK Try.func43 n43 rfl (by repeat' first | exact pure_nil | refine pure_cons ?_ ?_ | exact .raw _ | exact pure_enc _ | exact pure_lst _ | exact pure_strs _ | exact pure_ints _ | exact DTy.pure _ | exact DTy.pures _ | exact DEnum.pure _ | exact DEnum.pures _ | exact DDecl.pure _ | exact DDecl.pures _ | exact DEq.pure _ | exact DEq.pures _ | exact DNode.pure _ | exact DNode.pures _ | exact DProg.pure _ | exact DProg.pures _ | exact DCond.pure _ | exact DCond.pures _ | exact DAtom.pure _ | exact DAtom.pures _ | exact DPlain.pure _ | exact DPlain.pures _ | exact DVar.pure _ | exact DVar.pures _ | exact DFlow.pure _ | exact DFlow.pures _ | exact DFlows.pure _ | exact DFlows.pures _ | exact DAsked.pure _ | exact DAsked.pures _ | exact DFault.pure _ | exact DFault.pures _ | exact DCell.pure _ | exact DCell.pures _ | exact DReply.pure _ | exact DReply.pures _ | exact DAsk.pure _ | exact DAsk.pures _ | exact DOp.pure _ | exact DOp.pures _ | exact pure_list (fun x => DDecl.pures x) _ | exact .fn _ _ _ pure_nil pure_nil | refine .agg _ ?_ | refine .tup _ ?_ | assumption) (by repeat' first | exact pure_nil | refine pure_cons ?_ ?_ | exact .raw _ | exact pure_enc _ | exact pure_lst _ | exact pure_strs _ | exact pure_ints _ | exact DTy.pure _ | exact DTy.pures _ | exact DEnum.pure _ | exact DEnum.pures _ | exact DDecl.pure _ | exact DDecl.pures _ | exact DEq.pure _ | exact DEq.pures _ | exact DNode.pure _ | exact DNode.pures _ | exact DProg.pure _ | exact DProg.pures _ | exact DCond.pure _ | exact DCond.pures _ | exact DAtom.pure _ | exact DAtom.pures _ | exact DPlain.pure _ | exact DPlain.pures _ | exact DVar.pure _ | exact DVar.pures _ | exact DFlow.pure _ | exact DFlow.pures _ | exact DFlows.pure _ | exact DFlows.pures _ | exact DAsked.pure _ | exact DAsked.pures _ | exact DFault.pure _ | exact DFault.pures _ | exact DCell.pure _ | exact DCell.pures _ | exact DReply.pure _ | exact DReply.pures _ | exact DAsk.pure _ | exact DAsk.pures _ | exact DOp.pure _ | exact DOp.pures _ | exact pure_list (fun x => DDecl.pures x) _ | exact .fn _ _ _ pure_nil pure_nil | refine .agg _ ?_ | refine .tup _ ?_ | assumption) (n := 52) rfl (rs := [.tmp 2]) rfl ?_
  rw [readsF_eq] at hl ⊢
  repeat' first | simp only [go_sem, Nat.reduceAdd, Nat.reduceSub, Nat.reduceMul, Nat.reduceLT, Nat.reduceLeDiff, Nat.reduceEqDiff, Nat.reduceBEq, Nat.reduceBNe, Nat.reducePow, Int.reduceEq, Int.reduceNe, Int.reduceLT, Int.reduceLE, Int.reduceGT, Int.reduceGE, Int.reduceAdd, Int.reduceSub, Int.reduceNeg, Int.reduceMul, not_true_eq_false, not_false_eq_true, true_and, and_true, Int.reduceToNat] | refine ⟨by omega, ?_⟩ | refine brK_dec (fun _ => ?_) (fun _ => ?_) | refine gqK_dec (fun _ => ?_) (fun _ => ?_) | refine gK_dec (fun _ => ?_) (fun _ => ?_)
  all_goals
    refine loop_fr [3, 4, 24, 25, 26, 27, 28, 29, 30, 31, 32, 33, 34, 35, 36, 37, 38, 39, 40, 41, 42, 43, 44, 45, 46, 47, 48, 49, 50] (fun m C h => ∃ (i : Nat) (r : List Blk), i ≤ e.subs.length ∧ m = e.subs.length - i ∧
      C = [(4, .raw (.int .i64 (i : Nat))), (3, .lst 1 ((mineK e.kind e.name ++ readsL ((keepK e.kind e.subs).take i)).map AV.s) (some 1))] ∧
      h = .cells 25 [.i e.kind, .i e.n, .s e.name, .i e.op, .lst 1 (e.arms.map AV.s) none, .lst 6 (e.subs.map Ex.enc) none] :: .tok 9 1 (mineK e.kind e.name ++ readsL ((keepK e.kind e.subs).take i)).length :: r)
      (e.subs.length) _ ⟨0, _, by omega, rfl, rfl, by simp [mineK, readsL, *]; rfl⟩ (.cons rfl (.cons (by simp [mineK, readsL, *]) .nil)) ?_
    rintro m C j h ⟨i, r, hi, rfl, rfl, rfl⟩
    simp only [go_sem, Nat.reduceAdd, Nat.reduceSub, Nat.reduceMul, Nat.reduceLT, Nat.reduceLeDiff, Nat.reduceEqDiff, Nat.reduceBEq, Nat.reduceBNe, Nat.reducePow, Int.reduceEq, Int.reduceNe, Int.reduceLT, Int.reduceLE, Int.reduceGT, Int.reduceGE, Int.reduceAdd, Int.reduceSub, Int.reduceNeg, Int.reduceMul, not_true_eq_false, not_false_eq_true, true_and, and_true, Int.reduceToNat]
    have hkl := keep_le e.kind e.subs
    repeat' first | simp only [go_sem, Nat.reduceAdd, Nat.reduceSub, Nat.reduceMul, Nat.reduceLT, Nat.reduceLeDiff, Nat.reduceEqDiff, Nat.reduceBEq, Nat.reduceBNe, Nat.reducePow, Int.reduceEq, Int.reduceNe, Int.reduceLT, Int.reduceLE, Int.reduceGT, Int.reduceGE, Int.reduceAdd, Int.reduceSub, Int.reduceNeg, Int.reduceMul, not_true_eq_false, not_false_eq_true, true_and, and_true, Int.reduceToNat] | (intro _) | refine ⟨by omega, ?_⟩ | refine brK_dec (fun _ => ?_) (fun _ => ?_) | refine gqK_dec (fun _ => ?_) (fun _ => ?_) | refine gK_dec (fun _ => ?_) (fun _ => ?_)
    all_goals first
      | (rw [List.take_of_length_le (keep_end (by omega))]; exact ⟨_, rfl, false, .tok _ _ _⟩)
      | (have hend : (keepK e.kind e.subs).length ≤ i := keep_end (by omega)
         exact loopFr (e.subs.length - (i + 1)) (by omega) ⟨i + 1, r, by omega, rfl, rfl, by rw [List.take_of_length_le hend, List.take_of_length_le (by omega)]⟩ (.next rfl (by omega) (.cons (by rw [List.take_of_length_le hend, List.take_of_length_le (by omega)]; rfl) .nil)) rfl)
      | (have hlt : i < (keepK e.kind e.subs).length := keep_go (by assumption) (by first | exact Or.inl (by assumption) | exact Or.inr (by assumption)) (by assumption)
         have hlt' : i < e.subs.length := by omega
         have h1 := reads_le hlt
         have h2 := readsL_le (l := keepK e.kind e.subs) (k := i + 1)
         have h3 := readsL_take hlt
         rw [keep_at hlt] at h1 h3
         have hl' := hl
         rw [h3] at h2
         simp only [List.length_append] at hl' h1 h2
         refine elemK (e.subs[i]).enc (by omega) (map_at _ (List.getElem?_eq_getElem hlt')) ?_
         simp only [go_sem, Nat.reduceAdd, Nat.reduceSub, Nat.reduceMul, Nat.reduceLT, Nat.reduceLeDiff, Nat.reduceEqDiff, Nat.reduceBEq, Nat.reduceBNe, Nat.reducePow, Int.reduceEq, Int.reduceNe, Int.reduceLT, Int.reduceLE, Int.reduceGT, Int.reduceGE, Int.reduceAdd, Int.reduceSub, Int.reduceNeg, Int.reduceMul, not_true_eq_false, not_false_eq_true, true_and, and_true, Int.reduceToNat]
         refine PCall.call (ih e.subs[i] (List.getElem_mem _) (by omega)) ?_
         simp only [go_sem, Nat.reduceAdd, Nat.reduceSub, Nat.reduceMul, Nat.reduceLT, Nat.reduceLeDiff, Nat.reduceEqDiff, Nat.reduceBEq, Nat.reduceBNe, Nat.reducePow, Int.reduceEq, Int.reduceNe, Int.reduceLT, Int.reduceLE, Int.reduceGT, Int.reduceGE, Int.reduceAdd, Int.reduceSub, Int.reduceNeg, Int.reduceMul, not_true_eq_false, not_false_eq_true, true_and, and_true, Int.reduceToNat]
         refine ⟨by omega, ?_⟩
         refine loopFr (e.subs.length - (i + 1)) (by omega) ⟨i + 1, r, by omega, rfl, rfl, ?_⟩ (.next rfl (by omega) (.cons ?_ .nil)) rfl
         · rw [h3]; simp [slot]; try omega
         · rw [h3]; simp [slot])
end Go.Proofs.Ytfjjckaiopbbkaa
