import Derived.Test.YtipcmpkihhfhcaaIdX2
import Derived.Test.YtipcmpkihhfhcaaAbsT
namespace Go.Proofs.Ytipcmpkihhfhcaa
open Go.Abs
set_option maxRecDepth 20000
set_option linter.unusedSimpArgs false
set_option linter.unusedVariables false
set_option maxHeartbeats 1000000
attribute [local irreducible] vc vcOps vcStep vcGuard prK hrK gK gsK brK callK ElemK SeqK BlockK ScopeK OpsK CallK LoopK LoopGo finPost ACall PCall PCallE BCall vqOps vqStep vqGuard qrK heK pcK gqK gqsK QOpsK qcallK DrawK
noncomputable def onceB (l : List ByteArray) : Bool := @decide l.Nodup (Classical.propDecidable _)
theorem onceB_yes {l : List ByteArray} (h : l.Nodup) : onceB l = true := by unfold onceB; simp [h]
theorem onceB_no {l : List ByteArray} (h : ¬ l.Nodup) : onceB l = false := by unfold onceB; simp [h]
attribute [irreducible] onceB
theorem nodup_step {l : List ByteArray} {i : Nat} {x : ByteArray} (h : (l.take i).Nodup) (hx : l[i]? = some x) (hn : x ∉ l.take i) : (l.take (i + 1)).Nodup := by
  obtain ⟨hi, rfl⟩ := List.getElem?_eq_some_iff.1 hx
  rw [List.take_succ_eq_append_getElem hi, List.nodup_append]
  refine ⟨h, by simp, fun a ha b hb e => ?_⟩
  rw [List.mem_singleton.1 hb] at e
  exact hn (e ▸ ha)
theorem nodup_bad {l : List ByteArray} {i : Nat} {x : ByteArray} (hx : l[i]? = some x) (hm : x ∈ l.take i) : ¬ l.Nodup := by
  intro h
  obtain ⟨hi, rfl⟩ := List.getElem?_eq_some_iff.1 hx
  have h' : (l.take i ++ l[i] :: l.drop (i + 1)).Nodup := by rw [← List.drop_eq_getElem_cons hi, List.take_append_drop]; exact h
  rw [List.nodup_append] at h'
  exact h'.2.2 l[i] hm l[i] List.mem_cons_self rfl
theorem nodup_all {l : List ByteArray} {i : Nat} (h : (l.take i).Nodup) (hi : l.length ≤ i) : onceB l = true := onceB_yes (by rwa [List.take_of_length_le hi] at h)
theorem mem_take {l : List ByteArray} {k i : Nat} {x y : ByteArray} (hk : l[((k : Int)).toNat]? = some y) (hlt : k < i) (e : y = x) : x ∈ l.take i := by
  rw [Int.toNat_natCast] at hk
  rw [List.mem_take_iff_getElem]
  obtain ⟨hi, he⟩ := List.getElem?_eq_some_iff.1 hk
  exact ⟨k, by omega, by rw [he, e]⟩
theorem ostep {l : List ByteArray} {i k : Nat} {x y : ByteArray} (h : ∀ x, l[i]? = some x → x ∉ l.take k) (hx : l[((i : Int)).toNat]? = some x) (hy : l[((k : Int)).toNat]? = some y) (hn : ¬ y = x) : ∀ x, l[i]? = some x → x ∉ l.take (k + 1) := by
  rw [Int.toNat_natCast] at hx hy
  intro z hz
  rw [hx] at hz
  cases hz
  exact not_step (p := True) (fun _ => h x hx) hy (fun _ => hn) trivial
theorem oend {l : List ByteArray} {i k : Nat} (hN : (l.take i).Nodup) (h : ∀ x, l[i]? = some x → x ∉ l.take k) (hk : k = i) (hi : i < l.length) : (l.take (i + 1)).Nodup := by
  subst hk
  exact nodup_step hN (List.getElem?_eq_getElem hi) (h _ (List.getElem?_eq_getElem hi))
theorem n19 : (Try.f19.name == "runtime.NumGoroutine") = false := by kernel_rfl
theorem once_x (l : List ByteArray) : PCall Try.prog 19 [.lst 1 (l.map AV.s) none] (.b (onceB l)) := by
  refine pcall_of_vc tabOK Try.func19 n19 rfl (by repeat' first | exact pure_nil | refine pure_cons ?_ ?_ | exact .raw _ | exact pure_enc _ | exact pure_lst _ | exact pure_strs _ | exact pure_ints _ | exact DTy.pure _ | exact DTy.pures _ | exact DEnum.pure _ | exact DEnum.pures _ | exact DDecl.pure _ | exact DDecl.pures _ | exact DEq.pure _ | exact DEq.pures _ | exact DNode.pure _ | exact DNode.pures _ | exact DProg.pure _ | exact DProg.pures _ | exact DCond.pure _ | exact DCond.pures _ | exact DAtom.pure _ | exact DAtom.pures _ | exact DPlain.pure _ | exact DPlain.pures _ | exact DVar.pure _ | exact DVar.pures _ | exact DFlow.pure _ | exact DFlow.pures _ | exact DFlows.pure _ | exact DFlows.pures _ | exact DAsked.pure _ | exact DAsked.pures _ | exact DFault.pure _ | exact DFault.pures _ | exact DCell.pure _ | exact DCell.pures _ | exact DReply.pure _ | exact DReply.pures _ | exact DAsk.pure _ | exact DAsk.pures _ | exact DOp.pure _ | exact DOp.pures _ | exact pure_list (fun x => DDecl.pures x) _ | exact .fn _ _ _ pure_nil pure_nil | refine .agg _ ?_ | refine .tup _ ?_ | assumption) (by repeat' first | exact pure_nil | refine pure_cons ?_ ?_ | exact .raw _ | exact pure_enc _ | exact pure_lst _ | exact pure_strs _ | exact pure_ints _ | exact DTy.pure _ | exact DTy.pures _ | exact DEnum.pure _ | exact DEnum.pures _ | exact DDecl.pure _ | exact DDecl.pures _ | exact DEq.pure _ | exact DEq.pures _ | exact DNode.pure _ | exact DNode.pures _ | exact DProg.pure _ | exact DProg.pures _ | exact DCond.pure _ | exact DCond.pures _ | exact DAtom.pure _ | exact DAtom.pures _ | exact DPlain.pure _ | exact DPlain.pures _ | exact DVar.pure _ | exact DVar.pures _ | exact DFlow.pure _ | exact DFlow.pures _ | exact DFlows.pure _ | exact DFlows.pures _ | exact DAsked.pure _ | exact DAsked.pures _ | exact DFault.pure _ | exact DFault.pures _ | exact DCell.pure _ | exact DCell.pures _ | exact DReply.pure _ | exact DReply.pures _ | exact DAsk.pure _ | exact DAsk.pures _ | exact DOp.pure _ | exact DOp.pures _ | exact pure_list (fun x => DDecl.pures x) _ | exact .fn _ _ _ pure_nil pure_nil | refine .agg _ ?_ | refine .tup _ ?_ | assumption) (n := 25) rfl (rs := [.tmp 2]) rfl ?_
  repeat' first
    | exact finB rfl
    | exact finI rfl
    | exact finP rfl
    | exact absurd rfl (by assumption)
    | simp only [go_sem, Nat.reduceAdd, Nat.reduceSub, Nat.reduceMul, Nat.reduceLT, Nat.reduceLeDiff, Nat.reduceEqDiff, Nat.reduceBEq, Nat.reduceBNe, Nat.reducePow, Int.reduceEq, Int.reduceNe, Int.reduceLT, Int.reduceLE, Int.reduceGT, Int.reduceGE, Int.reduceAdd, Int.reduceSub, Int.reduceNeg, Int.reduceMul, not_true_eq_false, not_false_eq_true, true_and, and_true, Int.reduceToNat]
    | (intro _)
    | refine brK_dec (fun _ => ?_) (fun _ => ?_)
    | refine brK_any ?_ ?_
    | refine gK_dec (fun _ => ?_) (fun _ => ?_)
    | refine gK_any ?_ ?_
    | refine gqK_dec (fun _ => ?_) (fun _ => ?_)
    | refine ⟨by omega, ?_⟩
    | refine elemHave (by omega) (by assumption) ?_
    | ((fail_if_success (clear hy)); refine elemMap (by omega) (by omega) (fun y hy => ?_))
    | refine elemMap (by omega) (by omega) (fun x hx => ?_)
    | refine drawK mo (by kernel_rfl) ?_
    | (exfalso; omega)
    | (rw [hy] at hx; cases hx)
    | (refine finBq rfl ?_; first | (rw [nodup_all hpi (by omega)]) | (rw [onceB_no]; exact nodup_bad (by simpa using hx) (mem_take hy (by omega) (by assumption))))
    | exact loopFrH _ (by omega) ⟨k + 1, by omega, rfl, ostep hpk hx hy (by assumption), rfl⟩ (.next rfl (by omega) .nil) rfl
    | (refine loop_frH [2, 4, 11, 12, 13, 14, 15, 16, 17, 18, 19, 20, 21, 22, 23, 24] (fun mm_ CC_ => ∃ (k : Nat), k ≤ i ∧ mm_ = i - k ∧ (∀ x, l[i]? = some x → x ∉ l.take k) ∧ CC_ = [(4, .raw (.int .i64 ((k : Nat) : Int)))]) (i) _ ⟨0, by omega, by omega, by simp, rfl⟩ (.cons rfl .nil) ?_; rintro mm_ CC_ jk ⟨k, hk, rfl, hpk, rfl⟩)
    | exact loopFrH _ (by omega) ⟨i + 1, by omega, rfl, oend hpi hpk (by omega) (by omega), rfl⟩ (.next rfl (by omega) .nil) rfl
    | (refine loop_frH [2, 3, 4, 5, 6, 7, 8, 9, 10, 11, 12, 13, 14, 15, 16, 17, 18, 19, 20, 21, 22, 23, 24] (fun mm_ CC_ => ∃ (i : Nat), i ≤ l.length ∧ mm_ = l.length - i ∧ ((l.take i).Nodup) ∧ CC_ = [(3, .raw (.int .i64 ((i : Nat) : Int)))]) (l.length) _ ⟨0, by omega, by omega, by simp, rfl⟩ (.cons rfl .nil) ?_; rintro mm_ CC_ ji ⟨i, hi, rfl, hpi, rfl⟩)
end Go.Proofs.Ytipcmpkihhfhcaa
