import Derived.Test.YtipcmpkihhfhcaaTab
import Derived.Test.YtipcmpkihhfhcaaAbsZ
import Derived.WalkKit
namespace Go.Proofs.Ytipcmpkihhfhcaa
open Go.Abs
set_option maxRecDepth 20000
set_option linter.unusedSimpArgs false
set_option linter.unusedVariables false
set_option maxHeartbeats 1000000
attribute [local irreducible] vc vcOps vcStep vcGuard prK hrK gK gsK brK callK ElemK SeqK BlockK ScopeK OpsK CallK LoopK LoopGo finPost ACall PCall PCallE BCall vqOps vqStep vqGuard qrK heK pcK gqK gqsK QOpsK qcallK DrawK
open Go.RowKit
theorem pure_encs6 (l : List DDecl) : Go.Abs.Pure (.lst 6 (l.map DDecl.enc) none) := DDecl.pures l
def growPostD (n : Nat) (w : World) (e : Ending) (w' : World) : Prop :=
  ∃ (cap : Nat) (vs : Array Value), e = .returned (.slice (some ⟨w.heap.size, 0, none⟩) 0 cap) ∧ n ≤ cap ∧ cap ≤ maxLen ∧ vs.size = cap * 6 ∧ w' = (w.alloc (.cells vs 59)).drew

theorem n68 : (Try.f68.name == "runtime.NumGoroutine") = false := by kernel_rfl
theorem grow_walkD (n : Nat) (h0 : 0 < n) (hn : n ≤ 4294967296) (w : World) : Calls Try.prog 68 #[.slice none 0 0, .int .i64 (n : Int)] w (growPostD n w) := by
  have hb : Try.t59.bytes = 72 := by kernel_rfl
  have hns := nextslicecap_zero h0
  go_enter Try.func68, Try.ntmps68
  go_wp2
  all_goals first
    | (exfalso; simp only [hb, hns] at *; omega)
    | (go_ret
       have hge := grownCap_ge w n 0 59
       have hcm := grownCap_le_maxLen w n 0 59 (by simp only [maxLen]; omega)
       exact ⟨_, _, rfl, hge, hcm, by simp only [Array.size_append, zeroCells_size]; show n * 6 + (grownCap w n 0 59 - n) * 6 = grownCap w n 0 59 * 6; omega, rfl⟩)

theorem grow0_walkD (w : World) : Calls Try.prog 68 #[.slice none 0 0, .int .i64 0] w fun e w' => e = .returned (.slice none 0 0) ∧ w' = w := by
  go_enter Try.func68, Try.ntmps68
  go_wp2
  go_ret
  exact ⟨rfl, rfl⟩

theorem grow_callD {n : Nat} (hn : n ≤ 4294967296) {h : List Blk} {K : AV → List Blk → Prop} (hK : K (.lst 6 [] (some h.length)) (h ++ [.tok 59 6 0])) : ACall Try.prog 68 [.raw (.slice none 0 0), .i n] h K := by
  refine acall_of fun S φ w vs hr hargs => ?_
  have hvs : vs = #[.slice none 0 0, .int .i64 n] := by
    obtain ⟨v0, h0, c0⟩ := hargs.at (i := 0) rfl
    obtain ⟨v1, h1, c1⟩ := hargs.at (i := 1) rfl
    cases c0; cases c1
    have hl := hargs.1
    apply Array.ext_getElem?
    intro i
    match i with
    | 0 => exact h0
    | 1 => exact h1
    | i + 2 => simp at hl ⊢; omega
  subst hvs
  refine ⟨run_callFunc Try.func68 n68 rfl _ w, ?_⟩
  rcases Nat.eq_zero_or_pos n with rfl | h0
  · refine Calls.mono (grow0_walkD w) ?_
    rintro e w' ⟨rfl, rfl⟩
    obtain ⟨k1, k2⟩ := hr.push (l := .tok 0 (.slice none 0 0)) (x := .tok 59 6 0) (S' := S) (w' := w') rfl rfl rfl (Nat.le_refl _) (fun _ _ => rfl) (fun _ h => h) (fun _ h => .inl h) hr.bnd
      ⟨_, upd_same _ _ _, .inl ⟨rfl, rfl⟩⟩ (fun b hb => by simp [blockOf] at hb)
    exact ⟨_, _, _, S, _, rfl, hK, .lstnil _ _ ⟨_, _, upd_same _ _ _, Nat.le_refl _, fun _ => rfl⟩, k1, k2⟩
  · refine Calls.mono (grow_walkD n h0 hn w) ?_
    rintro e w' ⟨cap, us, rfl, hc, hm, hus, rfl⟩
    obtain ⟨k1, k2⟩ := hr.push (l := .tok 0 (.slice (some ⟨w.heap.size, 0, none⟩) 0 cap)) (x := .tok 59 6 0) (S' := S) (w' := (w.alloc (.cells us 59)).drew) rfl rfl rfl (by show _ ≤ (w.heap.push _).size; simp) (fun b hb => alloc_heap w _ _ hb) (fun _ h => h) (fun _ h => .inl h)
      (fun a ha => by have := hr.bnd a ha; show _ < (w.heap.push _).size; simp; omega)
      ⟨_, upd_same _ _ _, .inr (.inr ⟨w.heap.size, cap, us, by omega, hm, rfl, heap_alloc_new w _, hus, fun a ha e => by have := hr.bnd a ha; omega⟩)⟩
      (fun b hb => by simp only [blockOf] at hb; split at hb; cases hb; cases hb; exact Nat.le_refl _)
    refine ⟨_, _, _, S, _, rfl, hK, ?_, k1, k2⟩
    exact .lst _ [] _ _ _ _ (fun _ => undef) rfl (Nat.zero_le _) hm (by simp) (fun j c hj => by simp [flat] at hj) (fun j c hj => by simp [flat] at hj) (fun j c hj => by simp [flat] at hj) ⟨_, _, upd_same _ _ _, Nat.le_refl _, fun _ => rfl⟩

def encsD (l : List DDecl) : AV := .lst 6 (l.map (DDecl.enc)) none
theorem encsD_eq (l : List DDecl) : encsD l = .lst 6 (l.map (DDecl.enc)) none := rfl
attribute [go_sem] encsD_eq
def lensD (ls : List (List DDecl)) : Nat := ls.flatten.length
theorem n65 : (Try.f65.name == "runtime.NumGoroutine") = false := by kernel_rfl
theorem concatD (ls : List (List DDecl)) (hl : lensD ls ≤ 4294967296) : PCall Try.prog 65 [.lst 1 (ls.map encsD) none] (.lst 6 (ls.flatten.map (DDecl.enc)) none) := by
  refine pcall_of_vc tabOK Try.func65 n65 rfl (by repeat' first | exact pure_nil | refine pure_cons ?_ ?_ | exact .raw _ | exact pure_enc _ | exact pure_lst _ | exact pure_strs _ | exact pure_ints _ | exact DTy.pure _ | exact DTy.pures _ | exact DEnum.pure _ | exact DEnum.pures _ | exact DDecl.pure _ | exact DDecl.pures _ | exact DEq.pure _ | exact DEq.pures _ | exact DNode.pure _ | exact DNode.pures _ | exact DProg.pure _ | exact DProg.pures _ | exact DCond.pure _ | exact DCond.pures _ | exact DAtom.pure _ | exact DAtom.pures _ | exact DPlain.pure _ | exact DPlain.pures _ | exact DVar.pure _ | exact DVar.pures _ | exact DFlow.pure _ | exact DFlow.pures _ | exact DFlows.pure _ | exact DFlows.pures _ | exact DAsked.pure _ | exact DAsked.pures _ | exact DFault.pure _ | exact DFault.pures _ | exact DCell.pure _ | exact DCell.pures _ | exact DReply.pure _ | exact DReply.pures _ | exact DAsk.pure _ | exact DAsk.pures _ | exact DOp.pure _ | exact DOp.pures _ | exact pure_list (fun x => DDecl.pures x) _ | exact .fn _ _ _ pure_nil pure_nil | refine .agg _ ?_ | refine .tup _ ?_ | assumption) (by repeat' first | exact pure_nil | refine pure_cons ?_ ?_ | exact .raw _ | exact pure_enc _ | exact pure_lst _ | exact pure_strs _ | exact pure_ints _ | exact DTy.pure _ | exact DTy.pures _ | exact DEnum.pure _ | exact DEnum.pures _ | exact DDecl.pure _ | exact DDecl.pures _ | exact DEq.pure _ | exact DEq.pures _ | exact DNode.pure _ | exact DNode.pures _ | exact DProg.pure _ | exact DProg.pures _ | exact DCond.pure _ | exact DCond.pures _ | exact DAtom.pure _ | exact DAtom.pures _ | exact DPlain.pure _ | exact DPlain.pures _ | exact DVar.pure _ | exact DVar.pures _ | exact DFlow.pure _ | exact DFlow.pures _ | exact DFlows.pure _ | exact DFlows.pures _ | exact DAsked.pure _ | exact DAsked.pures _ | exact DFault.pure _ | exact DFault.pures _ | exact DCell.pure _ | exact DCell.pures _ | exact DReply.pure _ | exact DReply.pures _ | exact DAsk.pure _ | exact DAsk.pures _ | exact DOp.pure _ | exact DOp.pures _ | exact pure_list (fun x => DDecl.pures x) _ | exact .fn _ _ _ pure_nil pure_nil | refine .agg _ ?_ | refine .tup _ ?_ | assumption) (n := 36) rfl (rs := [.tmp 2]) rfl ?_
  simp only [go_sem, Nat.reduceAdd, Nat.reduceSub, Nat.reduceMul, Nat.reduceLT, Nat.reduceLeDiff, Nat.reduceEqDiff, Nat.reduceBEq, Nat.reduceBNe, Nat.reducePow, Int.reduceEq, Int.reduceNe, Int.reduceLT, Int.reduceLE, Int.reduceGT, Int.reduceGE, Int.reduceAdd, Int.reduceSub, Int.reduceNeg, Int.reduceMul, not_true_eq_false, not_false_eq_true, true_and, and_true, Int.reduceToNat]
  intro hlen
  refine loop_frH [5, 11, 12, 13, 14, 15, 16, 17, 18, 3, 19, 20, 21, 22] (fun n C => ∃ (i : Nat), i ≤ ls.length ∧ n = ls.length - i ∧ C = [(11, .raw (.int .i64 (i : Nat))), (3, .i (lensD (ls.take i)))]) ls.length _ ⟨0, by omega, by omega, rfl⟩ (.cons rfl (.cons rfl .nil)) ?_
  rintro n C j ⟨i, hi, rfl, rfl⟩
  simp only [go_sem, Nat.reduceAdd, Nat.reduceSub, Nat.reduceMul, Nat.reduceLT, Nat.reduceLeDiff, Nat.reduceEqDiff, Nat.reduceBEq, Nat.reduceBNe, Nat.reducePow, Int.reduceEq, Int.reduceNe, Int.reduceLT, Int.reduceLE, Int.reduceGT, Int.reduceGE, Int.reduceAdd, Int.reduceSub, Int.reduceNeg, Int.reduceMul, not_true_eq_false, not_false_eq_true, true_and, and_true, Int.reduceToNat]
  refine brK_dec (fun hlt => ?_) (fun hge => ?_)
  · simp only [go_sem, Nat.reduceAdd, Nat.reduceSub, Nat.reduceMul, Nat.reduceLT, Nat.reduceLeDiff, Nat.reduceEqDiff, Nat.reduceBEq, Nat.reduceBNe, Nat.reducePow, Int.reduceEq, Int.reduceNe, Int.reduceLT, Int.reduceLE, Int.reduceGT, Int.reduceGE, Int.reduceAdd, Int.reduceSub, Int.reduceNeg, Int.reduceMul, not_true_eq_false, not_false_eq_true, true_and, and_true, Int.reduceToNat]
    refine elemMap (by omega) (by omega) (fun x hx => ?_)
    rw [Int.toNat_natCast] at hx
    have ht : lensD (ls.take (i + 1)) = lensD (ls.take i) + x.length := by
      unfold lensD
      rw [List.take_add_one, hx]
      simp
    have hle : lensD (ls.take (i + 1)) ≤ lensD ls := take_flatten_le _ _
    simp only [go_sem, Nat.reduceAdd, Nat.reduceSub, Nat.reduceMul, Nat.reduceLT, Nat.reduceLeDiff, Nat.reduceEqDiff, Nat.reduceBEq, Nat.reduceBNe, Nat.reducePow, Int.reduceEq, Int.reduceNe, Int.reduceLT, Int.reduceLE, Int.reduceGT, Int.reduceGE, Int.reduceAdd, Int.reduceSub, Int.reduceNeg, Int.reduceMul, not_true_eq_false, not_false_eq_true, true_and, and_true, Int.reduceToNat]
    intro hxl
    rw [wrap_in _ (by omega) (by omega)]
    refine brK_dec (fun hneg => ?_) (fun _ => ?_)
    · omega
    · simp only [go_sem, Nat.reduceAdd, Nat.reduceSub, Nat.reduceMul, Nat.reduceLT, Nat.reduceLeDiff, Nat.reduceEqDiff, Nat.reduceBEq, Nat.reduceBNe, Nat.reducePow, Int.reduceEq, Int.reduceNe, Int.reduceLT, Int.reduceLE, Int.reduceGT, Int.reduceGE, Int.reduceAdd, Int.reduceSub, Int.reduceNeg, Int.reduceMul, not_true_eq_false, not_false_eq_true, true_and, and_true, Int.reduceToNat]
      exact loopFrH (ls.length - (i + 1)) (by omega) ⟨i + 1, by omega, rfl, rfl⟩ (.next rfl (by omega) (.cons (by rw [ht]; rfl) .nil)) rfl
  · simp only [go_sem, Nat.reduceAdd, Nat.reduceSub, Nat.reduceMul, Nat.reduceLT, Nat.reduceLeDiff, Nat.reduceEqDiff, Nat.reduceBEq, Nat.reduceBNe, Nat.reducePow, Int.reduceEq, Int.reduceNe, Int.reduceLT, Int.reduceLE, Int.reduceGT, Int.reduceGE, Int.reduceAdd, Int.reduceSub, Int.reduceNeg, Int.reduceMul, not_true_eq_false, not_false_eq_true, true_and, and_true, Int.reduceToNat]
    rw [List.take_of_length_le (by omega)]
    refine grow_callD hl ?_
    simp only [go_sem, Nat.reduceAdd, Nat.reduceSub, Nat.reduceMul, Nat.reduceLT, Nat.reduceLeDiff, Nat.reduceEqDiff, Nat.reduceBEq, Nat.reduceBNe, Nat.reducePow, Int.reduceEq, Int.reduceNe, Int.reduceLT, Int.reduceLE, Int.reduceGT, Int.reduceGE, Int.reduceAdd, Int.reduceSub, Int.reduceNeg, Int.reduceMul, not_true_eq_false, not_false_eq_true, true_and, and_true, Int.reduceToNat]
    intro _
    refine loop_fr [8, 27, 28, 29, 30, 31, 32, 33, 6, 34] (fun n C h => ∃ (i : Nat), i ≤ ls.length ∧ n = ls.length - i ∧ C = [(27, .raw (.int .i64 (i : Nat))), (6, .lst 6 ((ls.take i).flatten.map (DDecl.enc)) (some 0))] ∧ h = [.tok 59 6 (lensD (ls.take i))]) ls.length _ ⟨0, by omega, by omega, rfl, rfl⟩ (.cons rfl (.cons rfl .nil)) ?_
    rintro n C j' h ⟨i, hi, rfl, rfl, rfl⟩
    simp only [go_sem, Nat.reduceAdd, Nat.reduceSub, Nat.reduceMul, Nat.reduceLT, Nat.reduceLeDiff, Nat.reduceEqDiff, Nat.reduceBEq, Nat.reduceBNe, Nat.reducePow, Int.reduceEq, Int.reduceNe, Int.reduceLT, Int.reduceLE, Int.reduceGT, Int.reduceGE, Int.reduceAdd, Int.reduceSub, Int.reduceNeg, Int.reduceMul, not_true_eq_false, not_false_eq_true, true_and, and_true, Int.reduceToNat]
    refine brK_dec (fun hlt => ?_) (fun hge => ?_)
    · simp only [go_sem, Nat.reduceAdd, Nat.reduceSub, Nat.reduceMul, Nat.reduceLT, Nat.reduceLeDiff, Nat.reduceEqDiff, Nat.reduceBEq, Nat.reduceBNe, Nat.reducePow, Int.reduceEq, Int.reduceNe, Int.reduceLT, Int.reduceLE, Int.reduceGT, Int.reduceGE, Int.reduceAdd, Int.reduceSub, Int.reduceNeg, Int.reduceMul, not_true_eq_false, not_false_eq_true, true_and, and_true, Int.reduceToNat]
      refine elemMap (by omega) (by omega) (fun x hx => ?_)
      rw [Int.toNat_natCast] at hx
      have ht : (ls.take (i + 1)).flatten = (ls.take i).flatten ++ x := by
        rw [List.take_add_one, hx]
        simp
      have hle : lensD (ls.take (i + 1)) ≤ lensD ls := take_flatten_le _ _
      have hle' : (ls.take i).flatten.length + x.length ≤ 4294967296 := by
        have : lensD (ls.take (i + 1)) = (ls.take i).flatten.length + x.length := by unfold lensD; rw [ht]; simp
        omega
      simp only [go_sem, Nat.reduceAdd, Nat.reduceSub, Nat.reduceMul, Nat.reduceLT, Nat.reduceLeDiff, Nat.reduceEqDiff, Nat.reduceBEq, Nat.reduceBNe, Nat.reducePow, Int.reduceEq, Int.reduceNe, Int.reduceLT, Int.reduceLE, Int.reduceGT, Int.reduceGE, Int.reduceAdd, Int.reduceSub, Int.reduceNeg, Int.reduceMul, not_true_eq_false, not_false_eq_true, true_and, and_true, Int.reduceToNat]
      refine ⟨⟨rfl, hle'⟩, ?_⟩
      exact loopFr (ls.length - (i + 1)) (by omega) ⟨i + 1, by omega, rfl, rfl, by simp [lensD, ht]⟩ (.next rfl (by omega) (.cons (by rw [ht, List.map_append]; rfl) .nil)) rfl
    · simp only [go_sem, Nat.reduceAdd, Nat.reduceSub, Nat.reduceMul, Nat.reduceLT, Nat.reduceLeDiff, Nat.reduceEqDiff, Nat.reduceBEq, Nat.reduceBNe, Nat.reducePow, Int.reduceEq, Int.reduceNe, Int.reduceLT, Int.reduceLE, Int.reduceGT, Int.reduceGE, Int.reduceAdd, Int.reduceSub, Int.reduceNeg, Int.reduceMul, not_true_eq_false, not_false_eq_true, true_and, and_true, Int.reduceToNat]
      rw [List.take_of_length_le (by omega)]
      exact ⟨_, rfl, false, .tok _ _ _⟩

end Go.Proofs.Ytipcmpkihhfhcaa
